/- What text.Read and the document's Read compute: the number of a text. Condition: a text that a machine can hold. -/
import Derived.Test.YtodjimecekaaeaaGreatDoorCt1
namespace Go.Proofs.YtodjimecekaaeaaGreatDoor
open Go.RowKit Go.IntWalk
set_option linter.unusedSimpArgs false
set_option linter.unusedVariables false
def isDig (c : UInt8) : Bool := decide (48 ≤ c.toNat) && decide (c.toNat ≤ 57)
def digitsL (l : List UInt8) : Bool := l.all isDig && (l.length == 1 || (decide (1 < l.length) && !(l.getD 0 0 == 48)))
def valG (n : Nat) (l : List UInt8) : Nat := l.foldl (fun n c => 10 * n + (c.toNat - 48)) n
def valL (l : List UInt8) : Nat := valG 0 l
def Sz (l : List UInt8) : Prop := l.length ≤ 9223372036854775807
theorem valG_app (n : Nat) (l m : List UInt8) : valG n (l ++ m) = valG (valG n l) m := by simp [valG]
theorem valG_one (n : Nat) (c : UInt8) : valG n [c] = 10 * n + (c.toNat - 48) := rfl
theorem valG_lt (m : List UInt8) : ∀ (n : Nat), m.all isDig = true → valG n m < (n + 1) * 10 ^ m.length ∧ n * 10 ^ m.length ≤ valG n m := by
 induction m with
 | nil => intro n _; simp [valG]
 | cons c m ih =>
  intro n h
  simp only [List.all_cons, Bool.and_eq_true] at h
  obtain ⟨h1, h2⟩ := h
  simp only [isDig, Bool.and_eq_true, decide_eq_true_eq] at h1
  have := ih (10 * n + (c.toNat - 48)) h2
  have e : valG n (c :: m) = valG (10 * n + (c.toNat - 48)) m := rfl
  rw [e, List.length_cons, Nat.pow_succ]
  have e1 : (n + 1) * (10 ^ m.length * 10) = (10 * n + 10) * 10 ^ m.length := by
   rw [Nat.mul_comm (10 ^ m.length) 10, ← Nat.mul_assoc]; congr 1; omega
  have e2 : n * (10 ^ m.length * 10) = (10 * n) * 10 ^ m.length := by
   rw [Nat.mul_comm (10 ^ m.length) 10, ← Nat.mul_assoc]; congr 1; omega
  rw [e1, e2]
  refine ⟨Nat.lt_of_lt_of_le this.1 (Nat.mul_le_mul_right _ (by omega)), Nat.le_trans (Nat.mul_le_mul_right _ (by omega)) this.2⟩
def readL (l : List UInt8) : Int × Int :=
 if l.head? = some 45 then
  (if digitsL l.tail = true ∧ l.tail ≠ [48] then (if valL l.tail ≤ 9223372036854775808 then (-(valL l.tail : Int), 0) else (0, 9)) else (0, 8))
 else (if digitsL l = true then (if valL l ≤ 9223372036854775807 then ((valL l : Int), 0) else (0, 9)) else (0, 8))
theorem getD_dig {l : List UInt8} (h : l.all isDig = true) {i : Nat} (hi : i < l.length) : 48 ≤ (l.getD i 0).toNat ∧ (l.getD i 0).toNat ≤ 57 := by
 have := List.all_eq_true.1 h (l.getD i 0) (by simp [List.getD_eq_getElem?_getD, hi])
 simpa [isDig] using this
theorem take_all {l : List UInt8} {i : Nat} (h : (l.take i).all isDig = true) (hi : i < l.length) (hd : 48 ≤ (l.getD i 0).toNat ∧ (l.getD i 0).toNat ≤ 57) : (l.take (i + 1)).all isDig = true := by
 rw [List.take_add_one, List.all_append, h]
 simp [List.getD_eq_getElem?_getD, hi] at hd
 simp [hi, isDig, hd]
theorem not_all {l : List UInt8} {i : Nat} (hi : i < l.length) (hd : ¬ (48 ≤ (l.getD i 0).toNat ∧ (l.getD i 0).toNat ≤ 57)) : l.all isDig = false := by
 cases h : l.all isDig
 · rfl
 · exact absurd (getD_dig h hi) hd
theorem c_r3digits (l : List UInt8) (hs : Sz l) : FnC Tryz.prog 110 [.c (.v (.string (bs l)))] (.c (.v (.bool (digitsL l)))) := by
 unfold Sz at hs
 refine w110 (bs l) ?_
 simp only [bs_size, byteAt_bs]
 refine ⟨fun i k => 0 ≤ i ∧ i ≤ l.length ∧ (l.take i.toNat).all isDig = true ∧ k = l.length - i.toNat, ⟨_, by omega, by omega, by simp, rfl⟩, ?_⟩
 rintro k i ⟨h0, h1, h2, rfl⟩
 constructor
 · intro hi
   refine ⟨by omega, fun _ => by omega, fun hb => ?_, fun hb => ?_⟩
   · rw [digitsL, not_all (l := l) (i := i.toNat) (by omega) (by omega)]; rfl
   · rw [i64_in _ (by omega)]
     refine ⟨_, ?_, by omega, by omega, ?_, rfl⟩
     · omega
     · have e : (i + 1).toNat = i.toNat + 1 := by omega
       rw [e]
       exact take_all h2 (by omega) (by omega)
 · intro hi
   refine ⟨fun _ => by omega, ?_⟩
   have e : i.toNat = l.length := by omega
   rw [e, List.take_length] at h2
   simp only [digitsL, h2, Bool.true_and]
   congr 2
   by_cases h1 : l.length = 1
   · simp [h1]
   · by_cases h2 : 1 < l.length
     · have : ((l.length : Int) == 1) = false := by simp; omega
       have h3 : (1 : Int) < l.length := by omega
       have h4 : (l.length == 1) = false := by simp [h1]
       simp only [this, h3, h2, h4, decide_true, if_true, Bool.false_eq_true, if_false, Bool.false_or, Bool.true_and]
       congr 1
       show (!(((l.getD 0 0).toNat : Int) == 48)) = (!(l.getD 0 0 == 48))
       congr 1
       by_cases h5 : l.getD 0 0 = 48
       · rw [h5]; rfl
       · have : ¬ ((l.getD 0 0).toNat : Int) = 48 := fun e => h5 (u8_ext (b := 48) e)
         rw [beq_false_of_ne h5, beq_false_of_ne this]
     · have h3 : ¬ (1 : Int) < l.length := by omega
       have : ((l.length : Int) == 1) = false := by simp; omega
       have h4 : (l.length == 1) = false := by simp [h1]
       simp [this, h3, h2, h4]
theorem c_digit (c : Int) : FnC Tryz.prog 167 [.c (.v (.int .i32 c))] (.c (.v (.bool (decide (48 ≤ c ∧ c ≤ 57))))) := by
 refine w167 c ?_
 by_cases h1 : 48 ≤ c <;> by_cases h2 : c ≤ 57 <;> simp [h1, h2]
theorem dec_low (l : List UInt8) (i : Nat) (h : i < l.length) (ha : (l.getD i 0).toNat < 128) : Utf8.decode (bs l) i = ((l.getD i 0).toNat, 1) := by
 have e : (bs l)[i]'(by rw [bs_size]; exact h) = l.getD i 0 := by
  show (bs l).data[i]'_ = _
  simp [bs, List.getD_eq_getElem?_getD, h]
 rw [decode_ascii (bs l) i (by rw [bs_size]; exact h) (by rw [e]; exact ha), e]
theorem dec_high (l : List UInt8) (i : Nat) (h : i < l.length) (ha : 128 ≤ (l.getD i 0).toNat) : 128 ≤ (Utf8.decode (bs l) i).1 ∧ 1 ≤ (Utf8.decode (bs l) i).2 := by
 have e : (bs l)[i]'(by rw [bs_size]; exact h) = l.getD i 0 := by
  show (bs l).data[i]'_ = _
  simp [bs, List.getD_eq_getElem?_getD, h]
 exact decode_high (bs l) i (by rw [bs_size]; exact h) (by rw [e]; exact ha)
theorem dec_dig (l : List UInt8) (i : Nat) (h : i < l.length) : (48 ≤ (((Utf8.decode (bs l) i).1 : Nat) : Int) ∧ (((Utf8.decode (bs l) i).1 : Nat) : Int) ≤ 57) ↔ (48 ≤ (l.getD i 0).toNat ∧ (l.getD i 0).toNat ≤ 57) := by
 by_cases ha : (l.getD i 0).toNat < 128
 · rw [dec_low l i h ha]
   constructor <;> intro h <;> omega
 · have := dec_high l i h (by omega)
   constructor <;> intro h <;> omega
theorem c_tdigits (l : List UInt8) (hs : Sz l) : FnC Tryz.prog 156 [.c (.v (.string (bs l)))] (.c (.v (.bool (digitsL l)))) := by
 unfold Sz at hs
 refine w156 (bs l) ?_
 simp only [bs_size, byteAt_bs, mk_bs, bs_inj]
 refine ⟨fun h => by omega, fun h => ?_, fun h => ?_⟩
 · congr 3
   rcases h with rfl | ⟨h1, h2⟩
   · simp [digitsL]
   · have h2 : l.getD 0 0 = 48 := u8_ext (b := 48) h2
     have h3 : (l.length == 1) = false := by simp; omega
     have h4 : l[0]?.getD 0 = 48 := h2
     simp [digitsL, h3, h4]
 have hne : l ≠ [] := fun e => h (.inl e)
 have hpos : 0 < l.length := List.length_pos_iff.2 hne
 have hd0 : (l.length == 1 || (decide (1 < l.length) && !(l.getD 0 0 == 48))) = true := by
  by_cases h1 : l.length = 1
  · simp [h1]
  · have h2 : 1 < l.length := by omega
    have h3 : ¬ l.getD 0 0 = 48 := fun e => h (.inr ⟨by omega, by
     show ((l.getD 0 0).toNat : Int) = 48
     rw [e]; rfl⟩)
    have h4 : ¬ l[0]?.getD 0 = 48 := h3
    simp [h2, h4]
 refine ⟨fun i k => 0 ≤ i ∧ i ≤ l.length ∧ (l.take i.toNat).all isDig = true ∧ k = l.length - i.toNat, ⟨_, by omega, by omega, by simp, rfl⟩, ?_⟩
 rintro k i ⟨h0, h1, h2, rfl⟩
 constructor
 · intro hi
   have hi' : i.toNat < l.length := by omega
   refine ⟨_, c_digit _, fun hb => ?_, fun hb => ?_⟩
   · simp only [decide_eq_true_eq, dec_dig l _ hi'] at hb
     rw [digitsL, not_all hi' hb]
     rfl
   · simp only [decide_eq_true_eq, dec_dig l _ hi', Classical.not_not] at hb
     rw [dec_low l _ hi' (by omega)]
     refine ⟨_, ?_, by omega, by simp; omega, ?_, rfl⟩
     · simp; omega
     · have e : (i + ((1 : Nat) : Int)).toNat = i.toNat + 1 := by omega
       rw [e]
       exact take_all h2 hi' hb
 · intro hi
   have e : i.toNat = l.length := by omega
   rw [e, List.take_length] at h2
   simp only [digitsL, h2, hd0, Bool.and_self]
end Go.Proofs.YtodjimecekaaeaaGreatDoor
