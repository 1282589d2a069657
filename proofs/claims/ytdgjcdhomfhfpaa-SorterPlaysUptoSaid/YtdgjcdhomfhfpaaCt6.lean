/- What Compare, Arith, Join, Cast and Fits of package value compute, and what the document's do. Conditions: numbers of 64 bits, texts that a machine can hold. -/
import Derived.Test.YtdgjcdhomfhfpaaCt5
import Derived.Test.YtdgjcdhomfhfpaaFo
namespace Go.Proofs.Ytdgjcdhomfhfpaa
open Go.RowKit Go.IntWalk
set_option linter.unusedSimpArgs false
set_option linter.unusedVariables false

theorem c_r4fold (l : List UInt8) (hs : Sz l) : FnC Try.prog 59 [sD l] (sD (foldL l)) := by
  unfold Sz at hs
  refine w59 (bs l) ?_
  intro x1 hx1
  rw [bc_bs] at hx1
  subst hx1
  rw [bc_len]
  refine ⟨fun rows i k => 0 ≤ i ∧ i ≤ l.length ∧ rows = bc (foldK l i.toNat) ∧ k = l.length - i.toNat, ⟨_, by omega, by omega, by rw [Int.toNat_zero, foldK_zero], rfl⟩, ?_⟩
  rintro k rows i ⟨h0, h1, rfl, rfl⟩
  refine ⟨fun hi => ?_, fun hi => ?_⟩
  · have hk : i.toNat < l.length := by omega
    have hk2 : i < ((foldK l i.toNat).length : Int) := by rw [foldK_len]; omega
    rw [bc_at _ _ h0 hk2, getD_foldK l _ hk, i64_in (i + 1) (by omega)]
    refine ⟨by omega, bc_kind _ _ h0 hk2, fun _ => by omega, fun _ => bc_kind _ _ h0 hk2, fun hc => ?_, fun hc => ?_⟩
    · rw [bc_len, foldK_len]
      refine ⟨by omega, bc_kind _ _ h0 hk2, by omega, by omega, fun x4 hx4 => ?_⟩
      have e := u8_in ((l.getD i.toNat 0).toNat - 65) (by omega)
      rw [e, bc_set (b := low (l.getD i.toNat 0)) (hz := by rw [u8_in _ (by omega), low_up _ hc]; omega), getD_at l _ hk, foldK_step l _ hk] at hx4
      subst hx4
      refine ⟨_, ?_, by omega, by omega, ?_, rfl⟩
      · omega
      · rw [show (i + 1).toNat = i.toNat + 1 by omega]
    · refine ⟨_, ?_, by omega, by omega, ?_, rfl⟩
      · omega
      · rw [show (i + 1).toNat = i.toNat + 1 by omega, foldK_stay l _ hk (by rw [← getD_at l _ hk]; exact low_stay _ hc)]
  · have e : i.toNat = l.length := by omega
    rw [e, foldK_all, bc_len, foldL_len, Int.toNat_natCast, bc_take, bc_str, ← foldL_len l, List.take_length]
    exact ⟨by omega, bc_all _, rfl⟩

theorem cb_eq : ∀ (a b : List UInt8), Lib.compareBytes a b = if Op.bytesLess a b = true then -1 else if a = b then 0 else 1
  | [], [] => rfl
  | [], _ :: _ => rfl
  | _ :: _, [] => rfl
  | a :: l, b :: m => by
    have ih := cb_eq l m
    unfold Lib.compareBytes Op.bytesLess
    by_cases h1 : a < b
    · simp [h1]
    · by_cases h2 : b < a
      · have h3 : a ≠ b := fun e => by subst e; exact h1 h2
        simp [h1, h2, h3]
      · have h3 : a = b := by
          apply UInt8.toNat_inj.1
          have h1 : ¬ a.toNat < b.toNat := h1
          have h2 : ¬ b.toNat < a.toNat := h2
          omega
        subst h3
        simp [h1, ih]
def cmpV (a b : V3) (coll : Int) : Int :=
  if a.1 ≠ b.1 then cmpI a.1 b.1 else if a.1 = 1 then cmpI a.2.1 b.2.1
  else if a.1 = 2 then (if coll = 1 then Lib.compareBytes (foldL a.2.2) (foldL b.2.2) else Lib.compareBytes a.2.2 b.2.2)
  else if a.1 = 3 then Lib.compareBytes a.2.2 b.2.2 else 0
theorem c_vCompare (a b : V3) (coll : Int) (ha : Sz a.2.2) (hb : Sz b.2.2) : FnC Try.prog 34 [vD a, vD b, iD coll] (iD (cmpV a b coll)) := by
  refine w34 a.1 a.2.1 (bs a.2.2) b.1 b.2.1 (bs b.2.2) coll ?_
  (try simp only [mk_bs, bs_inj, bs_size, bs_toList, bs_append, byteAt_bs])
  (repeat' (first | (with_reducible refine ⟨_, (c_tFold _ ha), ?_⟩) | (with_reducible refine ⟨_, _, (c_tFold _ ha), ?_⟩) | (with_reducible refine ⟨_, _, _, (c_tFold _ ha), ?_⟩) | (with_reducible refine ⟨_, _, _, _, (c_tFold _ ha), ?_⟩) | (with_reducible refine ⟨_, fun _ => (c_tFold _ ha), ?_⟩) | (with_reducible refine ⟨_, _, fun _ => (c_tFold _ ha), ?_⟩) | (with_reducible refine ⟨_, _, _, fun _ => (c_tFold _ ha), ?_⟩) | (with_reducible refine ⟨_, _, _, _, fun _ => (c_tFold _ ha), ?_⟩) | (with_reducible refine ⟨_, (c_tFold _ hb), ?_⟩) | (with_reducible refine ⟨_, _, (c_tFold _ hb), ?_⟩) | (with_reducible refine ⟨_, _, _, (c_tFold _ hb), ?_⟩) | (with_reducible refine ⟨_, _, _, _, (c_tFold _ hb), ?_⟩) | (with_reducible refine ⟨_, fun _ => (c_tFold _ hb), ?_⟩) | (with_reducible refine ⟨_, _, fun _ => (c_tFold _ hb), ?_⟩) | (with_reducible refine ⟨_, _, _, fun _ => (c_tFold _ hb), ?_⟩) | (with_reducible refine ⟨_, _, _, _, fun _ => (c_tFold _ hb), ?_⟩) | (with_reducible refine ⟨_, (c_compare _ _), ?_⟩) | (with_reducible refine ⟨_, _, (c_compare _ _), ?_⟩) | (with_reducible refine ⟨_, _, _, (c_compare _ _), ?_⟩) | (with_reducible refine ⟨_, _, _, _, (c_compare _ _), ?_⟩) | (with_reducible refine ⟨_, fun _ => (c_compare _ _), ?_⟩) | (with_reducible refine ⟨_, _, fun _ => (c_compare _ _), ?_⟩) | (with_reducible refine ⟨_, _, _, fun _ => (c_compare _ _), ?_⟩) | (with_reducible refine ⟨_, _, _, _, fun _ => (c_compare _ _), ?_⟩) | (with_reducible refine ⟨_, (c_compare64 _ _), ?_⟩) | (with_reducible refine ⟨_, _, (c_compare64 _ _), ?_⟩) | (with_reducible refine ⟨_, _, _, (c_compare64 _ _), ?_⟩) | (with_reducible refine ⟨_, _, _, _, (c_compare64 _ _), ?_⟩) | (with_reducible refine ⟨_, fun _ => (c_compare64 _ _), ?_⟩) | (with_reducible refine ⟨_, _, fun _ => (c_compare64 _ _), ?_⟩) | (with_reducible refine ⟨_, _, _, fun _ => (c_compare64 _ _), ?_⟩) | (with_reducible refine ⟨_, _, _, _, fun _ => (c_compare64 _ _), ?_⟩) | (with_reducible refine ⟨_, (c_strCompare _ _), ?_⟩) | (with_reducible refine ⟨_, _, (c_strCompare _ _), ?_⟩) | (with_reducible refine ⟨_, _, _, (c_strCompare _ _), ?_⟩) | (with_reducible refine ⟨_, _, _, _, (c_strCompare _ _), ?_⟩) | (with_reducible refine ⟨_, fun _ => (c_strCompare _ _), ?_⟩) | (with_reducible refine ⟨_, _, fun _ => (c_strCompare _ _), ?_⟩) | (with_reducible refine ⟨_, _, _, fun _ => (c_strCompare _ _), ?_⟩) | (with_reducible refine ⟨_, _, _, _, fun _ => (c_strCompare _ _), ?_⟩) | with_reducible refine ⟨fun _ => ?_, fun _ => ?_⟩ | fail))
  all_goals (((try simp only [cmpV] at *); (repeat' split) <;> (first | rfl | (exfalso; omega) | (simp_all; done) | (simp_all; omega))))
theorem c_r4Compare (a b : V3) (coll : Int) (ha : Sz a.2.2) (hb : Sz b.2.2) : FnC Try.prog 51 [vD a, vD b, iD coll] (iD (cmpV a b coll)) := by
  obtain ⟨ka, na, sa⟩ := a
  obtain ⟨kb, nb, sb⟩ := b
  refine w51 ka na (bs sa) kb nb (bs sb) coll ?_
  have leaf : ∀ x y : List UInt8, (Op.bytesLess x y = true → iD (-1) = iD (Lib.compareBytes x y)) ∧ (¬ Op.bytesLess x y = true → (¬ (Op.bytesLess x y = true ∨ x = y) → iD 1 = iD (Lib.compareBytes x y)) ∧ (¬ ¬ (Op.bytesLess x y = true ∨ x = y) → iD 0 = iD (Lib.compareBytes x y))) := fun x y => by
    rw [cb_eq]
    refine ⟨fun h => by simp [h], fun h => ⟨fun h2 => ?_, fun h2 => ?_⟩⟩
    · have : ¬ x = y := fun e => h2 (.inr e)
      simp [h, this]
    · have : x = y := (Classical.not_not.1 h2).resolve_left h
      simp [this] at h ⊢
      exact h
  have leafI : ∀ x y : Int, (x < y → iD (-1) = iD (cmpI x y)) ∧ (¬ x < y → (y < x → iD 1 = iD (cmpI x y)) ∧ (¬ y < x → iD 0 = iD (cmpI x y))) := fun x y => by
    unfold cmpI
    refine ⟨fun h => by rw [if_pos h], fun h => ⟨fun h2 => by rw [if_neg h, if_pos h2], fun h2 => by rw [if_neg h, if_neg h2]⟩⟩
  simp only [bs_inj, bs_toList]
  by_cases hf : (ka = 2 ∧ kb = 2) ∧ coll = 1
  · obtain ⟨⟨rfl, rfl⟩, rfl⟩ := hf
    refine ⟨fun _ => ⟨_, c_r4fold sa ha, _, c_r4fold sb hb, ?_⟩, fun h => absurd ⟨⟨rfl, rfl⟩, rfl⟩ h⟩
    simp only [bs_inj, bs_toList]
    refine ⟨fun h => absurd h.2 (by decide), fun _ => ⟨fun _ => ?_, fun h => absurd ⟨trivial, .inl trivial⟩ h⟩⟩
    exact leaf _ _
  · refine ⟨fun h => absurd h hf, fun _ => ?_⟩
    by_cases hk : ka = kb
    · subst hk
      by_cases h1 : ka = 1
      · subst h1
        refine ⟨fun _ => ⟨fun h => absurd h.2 (by decide), fun _ => ?_⟩, fun h => absurd ⟨rfl, rfl⟩ h⟩
        exact leafI _ _
      · refine ⟨fun h => absurd h.2 h1, fun _ => ⟨fun h => ?_, fun h => ?_⟩⟩
        · have e : cmpV (ka, na, sa) (ka, nb, sb) coll = Lib.compareBytes sa sb := by
            rcases h.2 with h2 | h2
            · subst h2
              have : ¬ coll = 1 := fun e => hf ⟨⟨rfl, rfl⟩, e⟩
              simp [cmpV, this]
            · subst h2; simp [cmpV]
          rw [e]
          exact leaf _ _
        · have e : cmpV (ka, na, sa) (ka, nb, sb) coll = 0 := by
            have h2 : ¬ ka = 2 := fun e => h ⟨rfl, .inl e⟩
            have h3 : ¬ ka = 3 := fun e => h ⟨rfl, .inr e⟩
            simp [cmpV, h1, h2, h3]
          rw [e]
          refine ⟨fun h => absurd h (by omega), fun _ => ⟨fun h => absurd h (by omega), fun _ => rfl⟩⟩
    · have e : cmpV (ka, na, sa) (kb, nb, sb) coll = cmpI ka kb := by simp [cmpV, hk]
      rw [e]
      refine ⟨fun h => absurd h.1 hk, fun _ => ⟨fun h => absurd h.1 hk, fun _ => ?_⟩⟩
      exact leafI _ _
end Go.Proofs.Ytdgjcdhomfhfpaa
