/- What Compare, Arith, Join, Cast and Fits of package value compute, and what the document's do. Conditions: numbers of 64 bits, texts that a machine can hold. -/
import Derived.Test.YtbgndledcnfceaaCt5
namespace Go.Proofs.Ytbgndledcnfceaa
open Go.RowKit Go.IntWalk
set_option linter.unusedSimpArgs false
set_option linter.unusedVariables false

def low (c : UInt8) : UInt8 := if 65 ≤ c ∧ c ≤ 90 then c + 32 else c
def foldL (l : List UInt8) : List UInt8 := l.map low
def foldB (s : ByteArray) : ByteArray := ⟨(foldL s.data.toList).toArray⟩
/-- a text of which the first k letters are small -/
def foldK (l : List UInt8) (k : Nat) : List UInt8 := foldL (l.take k) ++ l.drop k
theorem foldK_len (l : List UInt8) (k : Nat) : (foldK l k).length = l.length := by simp [foldK, foldL]; omega
theorem foldK_at (l : List UInt8) (k : Nat) (h : k < l.length) : (foldK l k)[k]'(by rw [foldK_len]; exact h) = l[k] := by
  unfold foldK
  rw [List.getElem_append_right (by simp [foldL]; omega)]
  simp [foldL, Nat.min_eq_left (Nat.le_of_lt h)]
theorem foldK_zero (l : List UInt8) : foldK l 0 = l := by simp [foldK, foldL]
theorem foldK_all (l : List UInt8) : foldK l l.length = foldL l := by simp [foldK]
theorem foldK_step (l : List UInt8) (k : Nat) (h : k < l.length) : (foldK l k).set k (low l[k]) = foldK l (k + 1) := by
  unfold foldK
  rw [List.set_append_right _ _ (by simp [foldL]; omega)]
  have e : k - (foldL (l.take k)).length = 0 := by simp [foldL]; omega
  rw [e, List.drop_eq_getElem_cons h, List.set_cons_zero, List.take_succ_eq_append_getElem h]
  simp [foldL]
  rw [List.take_succ_eq_append_getElem (by simpa using h)]
  simp
theorem foldK_stay (l : List UInt8) (k : Nat) (h : k < l.length) (hc : low l[k] = l[k]) : foldK l k = foldK l (k + 1) := by
  rw [← foldK_step l k h, hc]
  have := foldK_at l k h
  rw [← this, List.set_getElem_self]

theorem low_stay (c : UInt8) (h : ¬ (65 ≤ (c.toNat : Int) ∧ (c.toNat : Int) ≤ 90)) : low c = c := by
  unfold low
  rw [if_neg]
  rintro ⟨h1, h2⟩
  have h1 : 65 ≤ c.toNat := h1
  have h2 : c.toNat ≤ 90 := h2
  omega
theorem low_up (c : UInt8) (h : 65 ≤ (c.toNat : Int) ∧ (c.toNat : Int) ≤ 90) : ((low c).toNat : Int) = (c.toNat : Int) + 32 := by
  have h1 : 65 ≤ c := by show 65 ≤ c.toNat; omega
  have h2 : c ≤ 90 := by show c.toNat ≤ 90; omega
  unfold low
  rw [if_pos ⟨h1, h2⟩, UInt8.toNat_add]
  simp
  omega
theorem foldL_len (l : List UInt8) : (foldL l).length = l.length := by simp [foldL]
theorem getD_foldK (l : List UInt8) (k : Nat) (h : k < l.length) : (foldK l k).getD k 0 = l.getD k 0 := by
  have := foldK_at l k h
  rw [List.getD_eq_getElem?_getD, List.getD_eq_getElem?_getD, List.getElem?_eq_getElem (by rw [foldK_len]; exact h), this, List.getElem?_eq_getElem h]
theorem getD_at (l : List UInt8) (k : Nat) (h : k < l.length) : l.getD k 0 = l[k] := by
  rw [List.getD_eq_getElem?_getD, List.getElem?_eq_getElem h]; rfl

theorem c_tFold (l : List UInt8) (hs : Sz l) : FnC Try.prog 35 [sD l] (sD (foldL l)) := by
  unfold Sz at hs
  refine w35 (bs l) ?_
  intro x1 hx1
  rw [bc_bs] at hx1
  subst hx1
  rw [bc_len]
  refine ⟨fun rows i k => 0 ≤ i ∧ i ≤ l.length ∧ rows = bc (foldK l i.toNat) ∧ k = l.length - i.toNat, ⟨_, by omega, by omega, by rw [Int.toNat_zero, foldK_zero], rfl⟩, ?_⟩
  rintro k rows i ⟨h0, h1, rfl, rfl⟩
  refine ⟨fun hi => ?_, fun hi => ?_⟩
  · have hk : i.toNat < l.length := by omega
    have hk2 : i < ((foldK l i.toNat).length : Int) := by rw [foldK_len]; omega
    rw [bc_at _ _ h0 hk2, getD_foldK l _ hk, i64_in (i + 1) (by omega)]
    refine ⟨by omega, bc_kind _ _ h0 hk2, fun hc => ?_, fun hc => ?_⟩
    · rw [bc_len, foldK_len]
      refine ⟨by omega, by omega, fun x4 hx4 => ?_⟩
      have e := u8_in ((l.getD i.toNat 0).toNat + 97) (by omega)
      rw [e, bc_set (b := low (l.getD i.toNat 0)) (hz := by rw [u8_in _ (by omega), low_up _ hc]; omega), getD_at l _ hk, foldK_step l _ hk] at hx4
      subst hx4
      refine ⟨_, ?_, by omega, by omega, ?_, rfl⟩
      · omega
      · rw [show (i + 1).toNat = i.toNat + 1 by omega]
    · refine ⟨_, ?_, by omega, by omega, ?_, rfl⟩
      · omega
      · rw [show (i + 1).toNat = i.toNat + 1 by omega, foldK_stay l _ hk (by rw [← getD_at l _ hk]; exact low_stay _ hc)]
  · have e : i.toNat = l.length := by omega
    rw [e, foldK_all, bc_len, foldL_len, Int.toNat_natCast, bc_take, bc_str, ← foldL_len l, List.take_length]
    exact ⟨by omega, bc_all _, rfl⟩
theorem c_r4fold (l : List UInt8) (hs : Sz l) : FnC Try.prog 36 [sD l] (sD (foldL l)) := by
  unfold Sz at hs
  refine w36 (bs l) ?_
  intro x1 hx1
  rw [bc_bs] at hx1
  subst hx1
  rw [bc_len]
  refine ⟨fun rows i k => 0 ≤ i ∧ i ≤ l.length ∧ rows = bc (foldK l i.toNat) ∧ k = l.length - i.toNat, ⟨_, by omega, by omega, by rw [Int.toNat_zero, foldK_zero], rfl⟩, ?_⟩
  rintro k rows i ⟨h0, h1, rfl, rfl⟩
  refine ⟨fun hi => ?_, fun hi => ?_⟩
  · have hk : i.toNat < l.length := by omega
    have hk2 : i < ((foldK l i.toNat).length : Int) := by rw [foldK_len]; omega
    rw [bc_at _ _ h0 hk2, getD_foldK l _ hk, i64_in (i + 1) (by omega)]
    refine ⟨by omega, bc_kind _ _ h0 hk2, fun _ => by omega, fun _ => bc_kind _ _ h0 hk2, fun hc => ?_, fun hc => ?_⟩
    · rw [bc_len, foldK_len]
      refine ⟨by omega, bc_kind _ _ h0 hk2, by omega, by omega, fun x4 hx4 => ?_⟩
      have e := u8_in ((l.getD i.toNat 0).toNat - 65) (by omega)
      rw [e, bc_set (b := low (l.getD i.toNat 0)) (hz := by rw [u8_in _ (by omega), low_up _ hc]; omega), getD_at l _ hk, foldK_step l _ hk] at hx4
      subst hx4
      refine ⟨_, ?_, by omega, by omega, ?_, rfl⟩
      · omega
      · rw [show (i + 1).toNat = i.toNat + 1 by omega]
    · refine ⟨_, ?_, by omega, by omega, ?_, rfl⟩
      · omega
      · rw [show (i + 1).toNat = i.toNat + 1 by omega, foldK_stay l _ hk (by rw [← getD_at l _ hk]; exact low_stay _ hc)]
  · have e : i.toNat = l.length := by omega
    rw [e, foldK_all, bc_len, foldL_len, Int.toNat_natCast, bc_take, bc_str, ← foldL_len l, List.take_length]
    exact ⟨by omega, bc_all _, rfl⟩

theorem cb_eq : ∀ (a b : List UInt8), Lib.compareBytes a b = if Op.bytesLess a b = true then -1 else if a = b then 0 else 1
  | [], [] => rfl
  | [], _ :: _ => rfl
  | _ :: _, [] => rfl
  | a :: l, b :: m => by
    have ih := cb_eq l m
    unfold Lib.compareBytes Op.bytesLess
    by_cases h1 : a < b
    · simp [h1]
    · by_cases h2 : b < a
      · have h3 : a ≠ b := fun e => by subst e; exact h1 h2
        simp [h1, h2, h3]
      · have h3 : a = b := by
          apply UInt8.toNat_inj.1
          have h1 : ¬ a.toNat < b.toNat := h1
          have h2 : ¬ b.toNat < a.toNat := h2
          omega
        subst h3
        simp [h1, ih]
def cmpV (a b : V3) (coll : Int) : Int :=
  if a.1 ≠ b.1 then cmpI a.1 b.1 else if a.1 = 1 then cmpI a.2.1 b.2.1
  else if a.1 = 2 then (if coll = 1 then Lib.compareBytes (foldL a.2.2) (foldL b.2.2) else Lib.compareBytes a.2.2 b.2.2)
  else if a.1 = 3 then Lib.compareBytes a.2.2 b.2.2 else 0
theorem c_vCompare (a b : V3) (coll : Int) (ha : Sz a.2.2) (hb : Sz b.2.2) : FnC Try.prog 12 [vD a, vD b, iD coll] (iD (cmpV a b coll)) := by
  refine w12 a.1 a.2.1 (bs a.2.2) b.1 b.2.1 (bs b.2.2) coll ?_
  (try simp only [mk_bs, bs_inj, bs_size, bs_toList, bs_append, byteAt_bs])
  (repeat' (first | (with_reducible refine ⟨_, (c_tFold _ ha), ?_⟩) | (with_reducible refine ⟨_, _, (c_tFold _ ha), ?_⟩) | (with_reducible refine ⟨_, _, _, (c_tFold _ ha), ?_⟩) | (with_reducible refine ⟨_, _, _, _, (c_tFold _ ha), ?_⟩) | (with_reducible refine ⟨_, fun _ => (c_tFold _ ha), ?_⟩) | (with_reducible refine ⟨_, _, fun _ => (c_tFold _ ha), ?_⟩) | (with_reducible refine ⟨_, _, _, fun _ => (c_tFold _ ha), ?_⟩) | (with_reducible refine ⟨_, _, _, _, fun _ => (c_tFold _ ha), ?_⟩) | (with_reducible refine ⟨_, (c_tFold _ hb), ?_⟩) | (with_reducible refine ⟨_, _, (c_tFold _ hb), ?_⟩) | (with_reducible refine ⟨_, _, _, (c_tFold _ hb), ?_⟩) | (with_reducible refine ⟨_, _, _, _, (c_tFold _ hb), ?_⟩) | (with_reducible refine ⟨_, fun _ => (c_tFold _ hb), ?_⟩) | (with_reducible refine ⟨_, _, fun _ => (c_tFold _ hb), ?_⟩) | (with_reducible refine ⟨_, _, _, fun _ => (c_tFold _ hb), ?_⟩) | (with_reducible refine ⟨_, _, _, _, fun _ => (c_tFold _ hb), ?_⟩) | (with_reducible refine ⟨_, (c_compare _ _), ?_⟩) | (with_reducible refine ⟨_, _, (c_compare _ _), ?_⟩) | (with_reducible refine ⟨_, _, _, (c_compare _ _), ?_⟩) | (with_reducible refine ⟨_, _, _, _, (c_compare _ _), ?_⟩) | (with_reducible refine ⟨_, fun _ => (c_compare _ _), ?_⟩) | (with_reducible refine ⟨_, _, fun _ => (c_compare _ _), ?_⟩) | (with_reducible refine ⟨_, _, _, fun _ => (c_compare _ _), ?_⟩) | (with_reducible refine ⟨_, _, _, _, fun _ => (c_compare _ _), ?_⟩) | (with_reducible refine ⟨_, (c_compare64 _ _), ?_⟩) | (with_reducible refine ⟨_, _, (c_compare64 _ _), ?_⟩) | (with_reducible refine ⟨_, _, _, (c_compare64 _ _), ?_⟩) | (with_reducible refine ⟨_, _, _, _, (c_compare64 _ _), ?_⟩) | (with_reducible refine ⟨_, fun _ => (c_compare64 _ _), ?_⟩) | (with_reducible refine ⟨_, _, fun _ => (c_compare64 _ _), ?_⟩) | (with_reducible refine ⟨_, _, _, fun _ => (c_compare64 _ _), ?_⟩) | (with_reducible refine ⟨_, _, _, _, fun _ => (c_compare64 _ _), ?_⟩) | (with_reducible refine ⟨_, (c_strCompare _ _), ?_⟩) | (with_reducible refine ⟨_, _, (c_strCompare _ _), ?_⟩) | (with_reducible refine ⟨_, _, _, (c_strCompare _ _), ?_⟩) | (with_reducible refine ⟨_, _, _, _, (c_strCompare _ _), ?_⟩) | (with_reducible refine ⟨_, fun _ => (c_strCompare _ _), ?_⟩) | (with_reducible refine ⟨_, _, fun _ => (c_strCompare _ _), ?_⟩) | (with_reducible refine ⟨_, _, _, fun _ => (c_strCompare _ _), ?_⟩) | (with_reducible refine ⟨_, _, _, _, fun _ => (c_strCompare _ _), ?_⟩) | with_reducible refine ⟨fun _ => ?_, fun _ => ?_⟩ | fail))
  all_goals (((try simp only [cmpV] at *); (repeat' split) <;> (first | rfl | (exfalso; omega) | (simp_all; done) | (simp_all; omega))))
theorem c_r4Compare (a b : V3) (coll : Int) (ha : Sz a.2.2) (hb : Sz b.2.2) : FnC Try.prog 13 [vD a, vD b, iD coll] (iD (cmpV a b coll)) := by
  obtain ⟨ka, na, sa⟩ := a
  obtain ⟨kb, nb, sb⟩ := b
  refine w13 ka na (bs sa) kb nb (bs sb) coll ?_
  have leaf : ∀ x y : List UInt8, (Op.bytesLess x y = true → iD (-1) = iD (Lib.compareBytes x y)) ∧ (¬ Op.bytesLess x y = true → (¬ (Op.bytesLess x y = true ∨ x = y) → iD 1 = iD (Lib.compareBytes x y)) ∧ (¬ ¬ (Op.bytesLess x y = true ∨ x = y) → iD 0 = iD (Lib.compareBytes x y))) := fun x y => by
    rw [cb_eq]
    refine ⟨fun h => by simp [h], fun h => ⟨fun h2 => ?_, fun h2 => ?_⟩⟩
    · have : ¬ x = y := fun e => h2 (.inr e)
      simp [h, this]
    · have : x = y := (Classical.not_not.1 h2).resolve_left h
      simp [this] at h ⊢
      exact h
  have leafI : ∀ x y : Int, (x < y → iD (-1) = iD (cmpI x y)) ∧ (¬ x < y → (y < x → iD 1 = iD (cmpI x y)) ∧ (¬ y < x → iD 0 = iD (cmpI x y))) := fun x y => by
    unfold cmpI
    refine ⟨fun h => by rw [if_pos h], fun h => ⟨fun h2 => by rw [if_neg h, if_pos h2], fun h2 => by rw [if_neg h, if_neg h2]⟩⟩
  simp only [bs_inj, bs_toList]
  by_cases hf : (ka = 2 ∧ kb = 2) ∧ coll = 1
  · obtain ⟨⟨rfl, rfl⟩, rfl⟩ := hf
    refine ⟨fun _ => ⟨_, c_r4fold sa ha, _, c_r4fold sb hb, ?_⟩, fun h => absurd ⟨⟨rfl, rfl⟩, rfl⟩ h⟩
    simp only [bs_inj, bs_toList]
    refine ⟨fun h => absurd h.2 (by decide), fun _ => ⟨fun _ => ?_, fun h => absurd ⟨trivial, .inl trivial⟩ h⟩⟩
    exact leaf _ _
  · refine ⟨fun h => absurd h hf, fun _ => ?_⟩
    by_cases hk : ka = kb
    · subst hk
      by_cases h1 : ka = 1
      · subst h1
        refine ⟨fun _ => ⟨fun h => absurd h.2 (by decide), fun _ => ?_⟩, fun h => absurd ⟨rfl, rfl⟩ h⟩
        exact leafI _ _
      · refine ⟨fun h => absurd h.2 h1, fun _ => ⟨fun h => ?_, fun h => ?_⟩⟩
        · have e : cmpV (ka, na, sa) (ka, nb, sb) coll = Lib.compareBytes sa sb := by
            rcases h.2 with h2 | h2
            · subst h2
              have : ¬ coll = 1 := fun e => hf ⟨⟨rfl, rfl⟩, e⟩
              simp [cmpV, this]
            · subst h2; simp [cmpV]
          rw [e]
          exact leaf _ _
        · have e : cmpV (ka, na, sa) (ka, nb, sb) coll = 0 := by
            have h2 : ¬ ka = 2 := fun e => h ⟨rfl, .inl e⟩
            have h3 : ¬ ka = 3 := fun e => h ⟨rfl, .inr e⟩
            simp [cmpV, h1, h2, h3]
          rw [e]
          refine ⟨fun h => absurd h (by omega), fun _ => ⟨fun h => absurd h (by omega), fun _ => rfl⟩⟩
    · have e : cmpV (ka, na, sa) (kb, nb, sb) coll = cmpI ka kb := by simp [cmpV, hk]
      rw [e]
      refine ⟨fun h => absurd h.1 hk, fun _ => ⟨fun h => absurd h.1 hk, fun _ => ?_⟩⟩
      exact leafI _ _
end Go.Proofs.Ytbgndledcnfceaa
