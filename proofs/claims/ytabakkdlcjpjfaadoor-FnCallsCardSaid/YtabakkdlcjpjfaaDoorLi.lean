/- Which texts stand for which patterns: what Like of package fn computes, and what the document's does. Condition: texts of at most a million bytes. -/
import Derived.Test.YtabakkdlcjpjfaaDoorLk
import Derived.Test.YtabakkdlcjpjfaaDoorTb
namespace Go.Proofs.YtabakkdlcjpjfaaDoor
open Go.RowKit Go.IntWalk
set_option linter.unusedSimpArgs false
set_option linter.unusedVariables false

open Classical in
noncomputable def likB (s p : List UInt8) : Bool := decide (Lik (foldL p) (foldL s))
theorem b37 (b : UInt8) : ((b.toNat : Int) = 37) ↔ b = 37 := ⟨fun h => u8_ext (by rw [h]; rfl), fun h => by rw [h]; rfl⟩
theorem b95 (b : UInt8) : ((b.toNat : Int) = 95) ↔ b = 95 := ⟨fun h => u8_ext (by rw [h]; rfl), fun h => by rw [h]; rfl⟩
theorem bEq (a b : UInt8) : ((a.toNat : Int) = (b.toNat : Int)) ↔ a = b := ⟨u8_ext, fun h => by rw [h]⟩

theorem c_Like (s p : List UInt8) (hs : Sm s) (hp : Sm p) : FnC Tryd.prog 14 [sD s, sD p] (bD (likB s p)) := by
  have La := foldL_len s
  have Lb := foldL_len p
  refine w14 (bs s) (bs p) ⟨bs (foldL s), c_tFold s hs.sz, bs (foldL p), c_tFold p hp.sz, ?_⟩
  unfold likB
  unfold Sm at hs hp
  generalize foldL s = a at *
  generalize foldL p = b at *
  simp only [bs_size, byteAt_bs, b37, b95, bEq]
  refine ⟨fun k st i bk m => ∃ K I B T : Nat, k = K ∧ i = I ∧ bk = B ∧ st = (T : Int) - 1 ∧ LkAt a b I K B T ∧ m = (a.length - B) * (a.length + b.length + 1) + (a.length - I) + (b.length - K), ⟨_, 0, 0, 0, 0, rfl, rfl, rfl, rfl, .start _ _, rfl⟩, ?_⟩
  rintro m k st i bk ⟨K, I, B, T, rfl, rfl, rfl, rfl, h, rfl⟩
  have hI := h.hi
  have hK := h.hk
  have hB := h.hb
  simp only [Int.toNat_natCast]
  refine ⟨fun hi => ⟨fun _ => by omega, fun hc => ?_, fun hc => ⟨fun _ => by omega, fun _ => by omega, fun _ => by omega, fun hd => ?_, fun hd => ⟨fun ht => ?_, fun ht => ?_⟩⟩⟩, fun hi => ?_⟩
  · have := Nat.mul_le_mul_right (a.length + b.length + 1) (show a.length - I ≤ a.length - B by omega)
    exact ⟨_, by omega, K + 1, I, I, K + 1, by rw [i64_in _ (by omega)]; omega, rfl, rfl, by omega, h.newStar (by omega) hc.2, rfl⟩
  · have hne : b.getD K 0 ≠ 37 := fun e => hc ⟨hd.1, e⟩
    exact ⟨_, by omega, K + 1, I + 1, B, T, by rw [i64_in _ (by omega)]; omega, by rw [i64_in _ (by omega)]; omega, rfl, rfl, h.step (by omega) (by omega) hne hd.2, rfl⟩
  · have hm : ¬ LikM a b I K := h.miss (by omega) (by
      by_cases e : K = b.length
      · exact .inl e
      · exact .inr ⟨by omega, fun e => hc ⟨by omega, e⟩, fun e => hd ⟨by omega, e⟩⟩)
    have h' := h.back' (by omega) (by omega) hm
    have e1 : a.length - B = (a.length - (B + 1)) + 1 := by omega
    have e2 := Nat.add_mul (a.length - (B + 1)) 1 (a.length + b.length + 1)
    rw [← e1] at e2
    have hT := (h.yes (by omega)).1
    exact ⟨_, by omega, T, B + 1, B + 1, T, by rw [i64_in _ (by omega)]; omega, by rw [i64_in _ (by omega)]; omega, by rw [i64_in _ (by omega)]; omega, rfl, h', rfl⟩
  · have hm : ¬ LikM a b I K := h.miss (by omega) (by
      by_cases e : K = b.length
      · exact .inl e
      · exact .inr ⟨by omega, fun e => hc ⟨by omega, e⟩, fun e => hd ⟨by omega, e⟩⟩)
    have h0 : ¬ LikM a b 0 0 := by rw [h.no (by omega)]; exact hm
    have : ¬ Lik b a := h0
    simp [bD, this]
  · have hf := h.fin (by omega)
    refine ⟨fun k m => ∃ K' : Nat, k = K' ∧ K' ≤ b.length ∧ (LikM a b 0 0 ↔ LikM a b a.length K') ∧ m = b.length - K', ⟨_, K, rfl, by omega, hf, rfl⟩, ?_⟩
    rintro m k ⟨K', rfl, hk, hl, rfl⟩
    simp only [Int.toNat_natCast]
    refine ⟨fun _ => by omega, fun hc => ?_, fun hc => ?_⟩
    · exact ⟨_, by omega, K' + 1, by rw [i64_in _ (by omega)]; omega, by omega, hl.trans (M_tail (by omega) hc.2), rfl⟩
    · have hl : Lik b a ↔ LikM a b a.length K' := hl
      by_cases e : K' = b.length
      · subst e
        have : Lik b a := by rw [hl, M_end a b _ (Nat.le_refl _)]
        simp [bD, this]
      · have : ¬ Lik b a := by rw [hl]; exact M_out a b K' (by omega) (fun e => hc ⟨by omega, e⟩)
        simp [bD, this]
        omega

def bb (l : List Bool) : List (List CV) := l.map fun c => [.v (.bool c)]
theorem bb_len (l : List Bool) : (bb l).length = l.length := by simp [bb]
theorem bb_getD (l : List Bool) (i : Nat) (h : i < l.length) : (bb l).getD i [] = [.v (.bool (l.getD i false))] := by simp [bb, h]
theorem bb_at (l : List Bool) (i : Int) (h0 : 0 ≤ i) (h : i < l.length) : (cellAt (bb l) i 0).bool = l.getD i.toNat false := by
  simp only [cellAt]
  rw [bb_getD l _ (by omega)]
  rfl
theorem bb_kind (l : List Bool) (i : Int) (h0 : 0 ≤ i) (h : i < l.length) : [9] = ((((bb l).getD i.toNat []).drop 0).take 1).map kindC := by
  rw [bb_getD l _ (by omega)]; rfl
theorem bb_set (l : List Bool) (i : Nat) (c : Bool) (h : i < l.length) : (bb l).set i (overL ((bb l).getD i []) 0 [.v (.bool c)]) = bb (l.set i c) := by
  rw [bb_getD l _ h]
  simp [bb, overL, List.map_set]
theorem bb_rep (n : Nat) : List.replicate n [CV.v (.bool false)] = bb (List.replicate n false) := by simp [bb]
theorem set_getD {l : List Bool} {i : Nat} (c : Bool) (j : Nat) (h : i < l.length) : (l.set i c).getD j false = if j = i then c else l.getD j false := by
  simp only [List.getD_eq_getElem?_getD, List.getElem?_set]
  by_cases e : i = j
  · subst e; simp [h]
  · simp [e, Ne.symm e]

theorem rep_getD (n i : Nat) : (List.replicate n false)[i]?.getD false = false := by
  by_cases h : i < n <;> simp [List.getElem?_replicate, h]

theorem c_rLike (s p : List UInt8) (hs : Sm s) (hp : Sm p) : FnC Tryd.prog 15 [sD s, sD p] (bD (likB s p)) := by
  have La := foldL_len s
  have Lb := foldL_len p
  refine w15 (bs s) (bs p) ⟨bs (foldL s), c_r3Fold s hs, bs (foldL p), c_r3Fold p hp, ?_⟩
  unfold likB
  unfold Sm at hs hp
  generalize foldL s = a at *
  generalize foldL p = b at *
  simp only [bs_size, byteAt_bs, b37, b95, bEq]
  rw [i64_in _ (by omega), show ((a.length : Int) + 1).toNat = a.length + 1 by omega, bb_rep]
  refine ⟨by omega, by omega, ?_⟩
  rintro x4 rfl
  rw [bb_len]
  refine ⟨by simp, by simp, ?_⟩
  rintro x5 rfl
  rw [show (0 : Int).toNat = 0 from rfl, bb_set _ _ _ (by simp)]
  refine ⟨fun rows n k m => ∃ (l : List Bool) (K : Nat), rows = bb l ∧ n = (a.length : Int) + 1 ∧ l.length = a.length + 1 ∧ k = K ∧ K ≤ b.length ∧ (∀ i, i ≤ a.length → (l.getD i false = true ↔ Nn a b i K)) ∧ m = b.length - K,
    ⟨_, _, 0, rfl, by simp, by simp, rfl, by omega, fun i hi => by rw [set_getD _ _ (by simp), Nn_zero _ _ _ hi]; by_cases e : i = 0 <;> simp [e, rep_getD], rfl⟩, ?_⟩
  rintro m rows n k ⟨l, K, rfl, rfl, hl, rfl, hK, hn, rfl⟩
  refine ⟨fun hk => ⟨by omega, by omega, ?_⟩, fun hk => ⟨by omega, bb_kind _ _ (by omega) (by omega), ?_⟩⟩
  · rintro x9 rfl
    rw [bb_len, List.length_replicate]
    refine ⟨fun rows i m => ∃ (l' : List Bool) (I : Nat), rows = bb l' ∧ l'.length = a.length + 1 ∧ i = I ∧ I ≤ a.length + 1 ∧ (∀ j, j < I → (l'.getD j false = true ↔ Nn a b j (K + 1))) ∧ m = a.length + 1 - I,
      ⟨_, _, 0, rfl, by simp, rfl, by omega, fun j hj => by omega, rfl⟩, ?_⟩
    rintro m rows i ⟨l', I, rfl, hl', rfl, hI, hn', rfl⟩
    rw [bb_len]
    refine ⟨fun hi => ⟨by omega, fun hc => ?_, fun hc => ?_⟩, fun hi => ?_⟩
    · refine ⟨by omega, bb_kind _ _ (by omega) (by omega), fun h => by rw [i64_in _ (by omega)]; omega, fun h => by rw [i64_in _ (by omega)]; exact bb_kind _ _ (by omega) (by omega), by omega, by omega, ?_⟩
      rintro x12 rfl
      rw [bb_at _ _ (by omega) (by omega), Int.toNat_natCast, bb_set _ _ _ (by omega)]
      refine ⟨_, ?_, _, I + 1, rfl, by simpa using hl', by rw [i64_in _ (by omega)]; omega, by omega, fun j hj => ?_, rfl⟩
      · omega
      rw [set_getD _ _ (by omega)]
      by_cases e : j = I
      · subst e
        rw [if_pos rfl, Nn_star a b j K (by omega) (by omega) (by simpa using hc), ← hn j (by omega)]
        by_cases e0 : j = 0
        · subst e0; simp
        · rw [← hn' (j - 1) (by omega), i64_in _ (by omega), bb_at _ _ (by omega) (by omega), show ((j : Int) - 1).toNat = j - 1 by omega]
          have : (0 : Int) < j := by omega
          have h0 : 0 < j := by omega
          simp only [this, h0, decide_true, if_true, true_and]
          cases l.getD j false <;> simp
      · rw [if_neg e]; exact hn' j (by omega)
    · refine ⟨fun h => by rw [i64_in _ (by omega)]; omega, fun h => by rw [i64_in _ (by omega)]; exact bb_kind _ _ (by omega) (by omega), fun h => by omega, fun h => by omega, fun h => by rw [i64_in _ (by omega)]; omega, by omega, by omega, ?_⟩
      rintro x12 rfl
      rw [Int.toNat_natCast, bb_set _ _ _ (by omega)]
      refine ⟨_, ?_, _, I + 1, rfl, by simpa using hl', by rw [i64_in _ (by omega)]; omega, by omega, fun j hj => ?_, rfl⟩
      · omega
      rw [set_getD _ _ (by omega)]
      by_cases e : j = I
      · subst e
        rw [if_pos rfl, Nn_one a b j K (by omega) (by omega) (by simpa using hc)]
        by_cases e0 : j = 0
        · subst e0; simp
        · rw [← hn (j - 1) (by omega), i64_in _ (by omega), bb_at _ _ (by omega) (by omega), show ((j : Int) - 1).toNat = j - 1 by omega]
          have : (0 : Int) < j := by omega
          have h0 : 0 < j := by omega
          simp only [this, h0, decide_true, if_true, true_and, Int.toNat_natCast]
          have e1 : (((b.getD K 0).toNat : Int) == 95) = decide (b.getD K 0 = 95) := by rw [← decide_eq_decide.2 (b95 _)]; rfl
          have e2 : (((b.getD K 0).toNat : Int) == ((a.getD (j - 1) 0).toNat : Int)) = decide (b.getD K 0 = a.getD (j - 1) 0) := by rw [← decide_eq_decide.2 (bEq _ _)]; rfl
          rw [e1, e2]
          cases l.getD (j - 1) false <;> by_cases h1 : b.getD K 0 = 95 <;> simp [h1]
      · rw [if_neg e]; exact hn' j (by omega)
    · refine ⟨_, ?_, l', K + 1, rfl, rfl, hl', by rw [i64_in _ (by omega)]; omega, by omega, fun i hi => hn' i (by omega), rfl⟩
      omega
  · rw [bb_at _ _ (by omega) (by omega), Int.toNat_natCast]
    have e := hn a.length (Nat.le_refl _)
    rw [show K = b.length by omega] at e
    have e2 : Nn a b a.length b.length ↔ Lik b a := by unfold Nn; rw [List.take_length, List.take_length]
    rw [e2] at e
    by_cases h : Lik b a
    · rw [e.2 h]; simp [bD, h]
    · simp [bD, h]
      cases hb : l.getD a.length false
      · rw [List.getD_eq_getElem?_getD] at hb; exact hb
      · exact absurd (e.1 hb) h
end Go.Proofs.YtabakkdlcjpjfaaDoor
