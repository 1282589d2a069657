/- What text.Read and the document's Read compute: the number of a text. Condition: a text that a machine can hold. -/
import Derived.Test.YtdgjcdhomfhfpaaCt1
namespace Go.Proofs.Ytdgjcdhomfhfpaa
open Go.RowKit Go.IntWalk
set_option linter.unusedSimpArgs false
set_option linter.unusedVariables false

def isDig (c : UInt8) : Bool := decide (48 ≤ c.toNat) && decide (c.toNat ≤ 57)
def digitsL (l : List UInt8) : Bool := l.all isDig && (l.length == 1 || (decide (1 < l.length) && !(l.getD 0 0 == 48)))
def valG (n : Nat) (l : List UInt8) : Nat := l.foldl (fun n c => 10 * n + (c.toNat - 48)) n
def valL (l : List UInt8) : Nat := valG 0 l
def Sz (l : List UInt8) : Prop := l.length ≤ 9223372036854775807
theorem valG_app (n : Nat) (l m : List UInt8) : valG n (l ++ m) = valG (valG n l) m := by simp [valG]
theorem valG_one (n : Nat) (c : UInt8) : valG n [c] = 10 * n + (c.toNat - 48) := rfl
theorem valG_lt (m : List UInt8) : ∀ (n : Nat), m.all isDig = true → valG n m < (n + 1) * 10 ^ m.length ∧ n * 10 ^ m.length ≤ valG n m := by
  induction m with
  | nil => intro n _; simp [valG]
  | cons c m ih =>
    intro n h
    simp only [List.all_cons, Bool.and_eq_true] at h
    obtain ⟨h1, h2⟩ := h
    simp only [isDig, Bool.and_eq_true, decide_eq_true_eq] at h1
    have := ih (10 * n + (c.toNat - 48)) h2
    have e : valG n (c :: m) = valG (10 * n + (c.toNat - 48)) m := rfl
    rw [e, List.length_cons, Nat.pow_succ]
    have e1 : (n + 1) * (10 ^ m.length * 10) = (10 * n + 10) * 10 ^ m.length := by
      rw [Nat.mul_comm (10 ^ m.length) 10, ← Nat.mul_assoc]; congr 1; omega
    have e2 : n * (10 ^ m.length * 10) = (10 * n) * 10 ^ m.length := by
      rw [Nat.mul_comm (10 ^ m.length) 10, ← Nat.mul_assoc]; congr 1; omega
    rw [e1, e2]
    refine ⟨Nat.lt_of_lt_of_le this.1 (Nat.mul_le_mul_right _ (by omega)), Nat.le_trans (Nat.mul_le_mul_right _ (by omega)) this.2⟩
theorem valG_mono (m : List UInt8) : ∀ (n n' : Nat), n ≤ n' → valG n m ≤ valG n' m := by
  induction m with
  | nil => intro n n' h; exact h
  | cons c m ih =>
    intro n n' h
    exact ih (10 * n + (c.toNat - 48)) (10 * n' + (c.toNat - 48)) (by omega)

/-- the number of a text, or why there is none -/
def readL (l : List UInt8) : Int × Int :=
  if l.head? = some 45 then
    (if digitsL l.tail = true ∧ l.tail ≠ [48] then (if valL l.tail ≤ 9223372036854775808 then (-(valL l.tail : Int), 0) else (0, 9)) else (0, 8))
  else (if digitsL l = true then (if valL l ≤ 9223372036854775807 then ((valL l : Int), 0) else (0, 9)) else (0, 8))

theorem getD_dig {l : List UInt8} (h : l.all isDig = true) {i : Nat} (hi : i < l.length) : 48 ≤ (l.getD i 0).toNat ∧ (l.getD i 0).toNat ≤ 57 := by
  have := List.all_eq_true.1 h (l.getD i 0) (by simp [List.getD_eq_getElem?_getD, hi])
  simpa [isDig] using this
theorem take_all {l : List UInt8} {i : Nat} (h : (l.take i).all isDig = true) (hi : i < l.length) (hd : 48 ≤ (l.getD i 0).toNat ∧ (l.getD i 0).toNat ≤ 57) : (l.take (i + 1)).all isDig = true := by
  rw [List.take_add_one, List.all_append, h]
  simp [List.getD_eq_getElem?_getD, hi] at hd
  simp [hi, isDig, hd]
theorem not_all {l : List UInt8} {i : Nat} (hi : i < l.length) (hd : ¬ (48 ≤ (l.getD i 0).toNat ∧ (l.getD i 0).toNat ≤ 57)) : l.all isDig = false := by
  cases h : l.all isDig
  · rfl
  · exact absurd (getD_dig h hi) hd

theorem dec_low (l : List UInt8) (i : Nat) (h : i < l.length) (ha : (l.getD i 0).toNat < 128) : Utf8.decode (bs l) i = ((l.getD i 0).toNat, 1) := by
  have e : (bs l)[i]'(by rw [bs_size]; exact h) = l.getD i 0 := by
    show (bs l).data[i]'_ = _
    simp [bs, List.getD_eq_getElem?_getD, h]
  rw [decode_ascii (bs l) i (by rw [bs_size]; exact h) (by rw [e]; exact ha), e]
theorem dec_high (l : List UInt8) (i : Nat) (h : i < l.length) (ha : 128 ≤ (l.getD i 0).toNat) : 128 ≤ (Utf8.decode (bs l) i).1 ∧ 1 ≤ (Utf8.decode (bs l) i).2 := by
  have e : (bs l)[i]'(by rw [bs_size]; exact h) = l.getD i 0 := by
    show (bs l).data[i]'_ = _
    simp [bs, List.getD_eq_getElem?_getD, h]
  exact decode_high (bs l) i (by rw [bs_size]; exact h) (by rw [e]; exact ha)
theorem dec_dig (l : List UInt8) (i : Nat) (h : i < l.length) : (48 ≤ (((Utf8.decode (bs l) i).1 : Nat) : Int) ∧ (((Utf8.decode (bs l) i).1 : Nat) : Int) ≤ 57) ↔ (48 ≤ (l.getD i 0).toNat ∧ (l.getD i 0).toNat ≤ 57) := by
  by_cases ha : (l.getD i 0).toNat < 128
  · rw [dec_low l i h ha]
    constructor <;> intro h <;> omega
  · have := dec_high l i h (by omega)
    constructor <;> intro h <;> omega
end Go.Proofs.Ytdgjcdhomfhfpaa
