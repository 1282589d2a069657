/- What text.Fold computes: a text in small letters. Condition: a text that a machine can hold. -/
import Derived.Test.YtdgjcdhomfhfpaaDv
import Derived.Test.YtdgjcdhomfhfpaaCt2
namespace Go.Proofs.Ytdgjcdhomfhfpaa
open Go.RowKit Go.IntWalk
set_option linter.unusedSimpArgs false
set_option linter.unusedVariables false

def low (c : UInt8) : UInt8 := if 65 ≤ c ∧ c ≤ 90 then c + 32 else c
def foldL (l : List UInt8) : List UInt8 := l.map low
def foldB (s : ByteArray) : ByteArray := ⟨(foldL s.data.toList).toArray⟩
/-- a text of which the first k letters are small -/
def foldK (l : List UInt8) (k : Nat) : List UInt8 := foldL (l.take k) ++ l.drop k
theorem foldK_len (l : List UInt8) (k : Nat) : (foldK l k).length = l.length := by simp [foldK, foldL]; omega
theorem foldK_at (l : List UInt8) (k : Nat) (h : k < l.length) : (foldK l k)[k]'(by rw [foldK_len]; exact h) = l[k] := by
  unfold foldK
  rw [List.getElem_append_right (by simp [foldL]; omega)]
  simp [foldL, Nat.min_eq_left (Nat.le_of_lt h)]
theorem foldK_zero (l : List UInt8) : foldK l 0 = l := by simp [foldK, foldL]
theorem foldK_all (l : List UInt8) : foldK l l.length = foldL l := by simp [foldK]
theorem foldK_step (l : List UInt8) (k : Nat) (h : k < l.length) : (foldK l k).set k (low l[k]) = foldK l (k + 1) := by
  unfold foldK
  rw [List.set_append_right _ _ (by simp [foldL]; omega)]
  have e : k - (foldL (l.take k)).length = 0 := by simp [foldL]; omega
  rw [e, List.drop_eq_getElem_cons h, List.set_cons_zero, List.take_succ_eq_append_getElem h]
  simp [foldL]
  rw [List.take_succ_eq_append_getElem (by simpa using h)]
  simp
theorem foldK_stay (l : List UInt8) (k : Nat) (h : k < l.length) (hc : low l[k] = l[k]) : foldK l k = foldK l (k + 1) := by
  rw [← foldK_step l k h, hc]
  have := foldK_at l k h
  rw [← this, List.set_getElem_self]

theorem low_stay (c : UInt8) (h : ¬ (65 ≤ (c.toNat : Int) ∧ (c.toNat : Int) ≤ 90)) : low c = c := by
  unfold low
  rw [if_neg]
  rintro ⟨h1, h2⟩
  have h1 : 65 ≤ c.toNat := h1
  have h2 : c.toNat ≤ 90 := h2
  omega
theorem low_up (c : UInt8) (h : 65 ≤ (c.toNat : Int) ∧ (c.toNat : Int) ≤ 90) : ((low c).toNat : Int) = (c.toNat : Int) + 32 := by
  have h1 : 65 ≤ c := by show 65 ≤ c.toNat; omega
  have h2 : c ≤ 90 := by show c.toNat ≤ 90; omega
  unfold low
  rw [if_pos ⟨h1, h2⟩, UInt8.toNat_add]
  simp
  omega
theorem foldL_len (l : List UInt8) : (foldL l).length = l.length := by simp [foldL]
theorem getD_foldK (l : List UInt8) (k : Nat) (h : k < l.length) : (foldK l k).getD k 0 = l.getD k 0 := by
  have := foldK_at l k h
  rw [List.getD_eq_getElem?_getD, List.getD_eq_getElem?_getD, List.getElem?_eq_getElem (by rw [foldK_len]; exact h), this, List.getElem?_eq_getElem h]
theorem getD_at (l : List UInt8) (k : Nat) (h : k < l.length) : l.getD k 0 = l[k] := by
  rw [List.getD_eq_getElem?_getD, List.getElem?_eq_getElem h]; rfl

theorem c_tFold (l : List UInt8) (hs : Sz l) : FnC Try.prog 48 [sD l] (sD (foldL l)) := by
  unfold Sz at hs
  refine w48 (bs l) ?_
  intro x1 hx1
  rw [bc_bs] at hx1
  subst hx1
  rw [bc_len]
  refine ⟨fun rows i k => 0 ≤ i ∧ i ≤ l.length ∧ rows = bc (foldK l i.toNat) ∧ k = l.length - i.toNat, ⟨_, by omega, by omega, by rw [Int.toNat_zero, foldK_zero], rfl⟩, ?_⟩
  rintro k rows i ⟨h0, h1, rfl, rfl⟩
  refine ⟨fun hi => ?_, fun hi => ?_⟩
  · have hk : i.toNat < l.length := by omega
    have hk2 : i < ((foldK l i.toNat).length : Int) := by rw [foldK_len]; omega
    rw [bc_at _ _ h0 hk2, getD_foldK l _ hk, i64_in (i + 1) (by omega)]
    refine ⟨by omega, bc_kind _ _ h0 hk2, fun hc => ?_, fun hc => ?_⟩
    · rw [bc_len, foldK_len]
      refine ⟨by omega, by omega, fun x4 hx4 => ?_⟩
      have e := u8_in ((l.getD i.toNat 0).toNat + 97) (by omega)
      rw [e, bc_set (b := low (l.getD i.toNat 0)) (hz := by rw [u8_in _ (by omega), low_up _ hc]; omega), getD_at l _ hk, foldK_step l _ hk] at hx4
      subst hx4
      refine ⟨_, ?_, by omega, by omega, ?_, rfl⟩
      · omega
      · rw [show (i + 1).toNat = i.toNat + 1 by omega]
    · refine ⟨_, ?_, by omega, by omega, ?_, rfl⟩
      · omega
      · rw [show (i + 1).toNat = i.toNat + 1 by omega, foldK_stay l _ hk (by rw [← getD_at l _ hk]; exact low_stay _ hc)]
  · have e : i.toNat = l.length := by omega
    rw [e, foldK_all, bc_len, foldL_len, Int.toNat_natCast, bc_take, bc_str, ← foldL_len l, List.take_length]
    exact ⟨by omega, bc_all _, rfl⟩
end Go.Proofs.Ytdgjcdhomfhfpaa
