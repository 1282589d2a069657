/- What the small functions of package value and of its document's answer compute. Conditions: numbers of 64 bits, texts that a machine can hold. What text.Fold computes: a text in small letters. Condition: a text that a machine can hold. What Compare, Arith, Join, Cast and Fits of package value compute, and what the document's do. Conditions: numbers of 64 bits, texts that a machine can hold. What Arith, Join, Cast and Fits of package value compute, and what the document's do. Conditions: numbers of 64 bits, texts that a machine can hold. Rows of values, as closed data. No condition. Truths, operators and two values held against each other: what package eval makes of any values. Conditions: numbers of 64 bits, texts that a machine can hold. Expressions as closed data; what Eval of package eval makes of one whose parts are reckoned. Conditions: numbers of 64 bits, at most a million parts. What package eval makes of an expression whose parts are reckoned, by its kind; expressions that the statements build. Conditions: numbers of 64 bits, texts that a machine can hold. Eval of the expressions that the statements build; the chapter's examples. Conditions: numbers of 64 bits, texts that a machine can hold. What the document's operators make of any values: the same. Conditions: numbers of 64 bits, texts that a machine can hold, values that may be. -/
import Derived.Test.YtmpnglbonmifiaaGreatDoorCt4
import Derived.Test.YtmpnglbonmifiaaGreatDoorPa
import Derived.Test.YtmpnglbonmifiaaGreatDoorDv
import Derived.Lib.IndexAny
import Derived.Test.YtmpnglbonmifiaaGreatDoorShelf
import Derived.Test.YtmpnglbonmifiaaGreatDoorCt2
namespace Go.Proofs.YtmpnglbonmifiaaGreatDoor
open Go.RowKit Go.IntWalk
set_option linter.unusedSimpArgs false
set_option linter.unusedVariables false

theorem c_strCompare (a b : List UInt8) : FnC Tryz.prog 82 [sD a, sD b] (iD (Lib.compareBytes a b)) := by
  have := fnC_calls2 Tryz.func82 (by kernel_rfl) (by kernel_rfl) (by rfl) (Tryz.strings_Compare (bs a) (bs b))
  rwa [bs_data, bs_data] at this
theorem c_contains (a : List UInt8) (c : UInt8) : FnC Tryz.prog 74 [sD a, sD [c]] (bD (a.contains c)) := by
  have := fnC_calls2 Tryz.func74 (by kernel_rfl) (by kernel_rfl) (by rfl) (Tryz.strings_Contains_one (bs a) c)
  rw [bs_data] at this
  rwa [Lib.contains_iff_indexByte]
theorem c_isNaN (x : Int) : FnC Tryz.prog 103 [iD x] (bD false) := by
  refine w103 x ?_
  (try simp only [mk_bs, bs_inj, bs_size, bs_toList, bs_append, byteAt_bs])
  (repeat' (first | with_reducible refine ⟨fun _ => ?_, fun _ => ?_⟩ | fail))
  all_goals (simp_all)
theorem c_isNaN64 (x : Int) : FnC Tryz.prog 104 [iD x] (bD false) := by
  refine w104 x ?_
  (try simp only [mk_bs, bs_inj, bs_size, bs_toList, bs_append, byteAt_bs])
  (repeat' (first | with_reducible refine ⟨fun _ => ?_, fun _ => ?_⟩ | fail))
  all_goals (simp_all)
def cmpI (x y : Int) : Int := if x < y then -1 else if y < x then 1 else 0
theorem c_compare (x y : Int) : FnC Tryz.prog 80 [iD x, iD y] (iD (cmpI x y)) := by
  refine w80 x y ?_
  (try simp only [mk_bs, bs_inj, bs_size, bs_toList, bs_append, byteAt_bs])
  (repeat' (first | (with_reducible refine ⟨_, (c_isNaN _), ?_⟩) | (with_reducible refine ⟨_, _, (c_isNaN _), ?_⟩) | (with_reducible refine ⟨_, _, _, (c_isNaN _), ?_⟩) | (with_reducible refine ⟨_, _, _, _, (c_isNaN _), ?_⟩) | (with_reducible refine ⟨_, fun _ => (c_isNaN _), ?_⟩) | (with_reducible refine ⟨_, _, fun _ => (c_isNaN _), ?_⟩) | (with_reducible refine ⟨_, _, _, fun _ => (c_isNaN _), ?_⟩) | (with_reducible refine ⟨_, _, _, _, fun _ => (c_isNaN _), ?_⟩) | with_reducible refine ⟨fun _ => ?_, fun _ => ?_⟩ | fail))
  all_goals (((try simp only [cmpI] at *); (repeat' split) <;> (first | rfl | (exfalso; omega) | (simp_all; done) | (simp_all; omega))))
theorem c_compare64 (x y : Int) : FnC Tryz.prog 81 [iD x, iD y] (iD (cmpI x y)) := by
  refine w81 x y ?_
  (try simp only [mk_bs, bs_inj, bs_size, bs_toList, bs_append, byteAt_bs])
  (repeat' (first | (with_reducible refine ⟨_, (c_isNaN64 _), ?_⟩) | (with_reducible refine ⟨_, _, (c_isNaN64 _), ?_⟩) | (with_reducible refine ⟨_, _, _, (c_isNaN64 _), ?_⟩) | (with_reducible refine ⟨_, _, _, _, (c_isNaN64 _), ?_⟩) | (with_reducible refine ⟨_, fun _ => (c_isNaN64 _), ?_⟩) | (with_reducible refine ⟨_, _, fun _ => (c_isNaN64 _), ?_⟩) | (with_reducible refine ⟨_, _, _, fun _ => (c_isNaN64 _), ?_⟩) | (with_reducible refine ⟨_, _, _, _, fun _ => (c_isNaN64 _), ?_⟩) | with_reducible refine ⟨fun _ => ?_, fun _ => ?_⟩ | fail))
  all_goals (((try simp only [cmpI] at *); (repeat' split) <;> (first | rfl | (exfalso; omega) | (simp_all; done) | (simp_all; omega))))

theorem c_vNum (n : Int) : FnC Tryz.prog 42 [iD n] (vD (1, n, [])) := by
  refine w42 n ?_
  (try simp only [mk_bs, bs_inj, bs_size, bs_toList, bs_append, byteAt_bs])
  (repeat' (first | with_reducible refine ⟨fun _ => ?_, fun _ => ?_⟩ | fail))
  all_goals (rfl)
theorem c_vStr (s : List UInt8) : FnC Tryz.prog 79 [sD s] (vD (2, 0, s)) := by
  refine w79 (bs s) ?_
  (try simp only [mk_bs, bs_inj, bs_size, bs_toList, bs_append, byteAt_bs])
  (repeat' (first | with_reducible refine ⟨fun _ => ?_, fun _ => ?_⟩ | fail))
  all_goals (rfl)
theorem c_vBytes (s : List UInt8) : FnC Tryz.prog 123 [sD s] (vD (3, 0, s)) := by
  refine w123 (bs s) ?_
  (try simp only [mk_bs, bs_inj, bs_size, bs_toList, bs_append, byteAt_bs])
  (repeat' (first | with_reducible refine ⟨fun _ => ?_, fun _ => ?_⟩ | fail))
  all_goals (rfl)
theorem c_r4Num (n : Int) : FnC Tryz.prog 69 [iD n] (vD (1, n, [])) := by
  refine w69 n ?_
  (try simp only [mk_bs, bs_inj, bs_size, bs_toList, bs_append, byteAt_bs])
  (repeat' (first | with_reducible refine ⟨fun _ => ?_, fun _ => ?_⟩ | fail))
  all_goals (rfl)
theorem c_r4Str (s : List UInt8) : FnC Tryz.prog 70 [sD s] (vD (2, 0, s)) := by
  refine w70 (bs s) ?_
  (try simp only [mk_bs, bs_inj, bs_size, bs_toList, bs_append, byteAt_bs])
  (repeat' (first | with_reducible refine ⟨fun _ => ?_, fun _ => ?_⟩ | fail))
  all_goals (rfl)
theorem c_r4Bytes (s : List UInt8) : FnC Tryz.prog 71 [sD s] (vD (3, 0, s)) := by
  refine w71 (bs s) ?_
  (try simp only [mk_bs, bs_inj, bs_size, bs_toList, bs_append, byteAt_bs])
  (repeat' (first | with_reducible refine ⟨fun _ => ?_, fun _ => ?_⟩ | fail))
  all_goals (rfl)
theorem c_vBool (b : Bool) : FnC Tryz.prog 52 [bD b] (vD (1, if b then 1 else 0, [])) := by
  refine w52 b ?_
  (try simp only [mk_bs, bs_inj, bs_size, bs_toList, bs_append, byteAt_bs])
  (repeat' (first | (with_reducible refine ⟨_, (c_vNum _), ?_⟩) | (with_reducible refine ⟨_, _, (c_vNum _), ?_⟩) | (with_reducible refine ⟨_, _, _, (c_vNum _), ?_⟩) | (with_reducible refine ⟨_, _, _, _, (c_vNum _), ?_⟩) | (with_reducible refine ⟨_, fun _ => (c_vNum _), ?_⟩) | (with_reducible refine ⟨_, _, fun _ => (c_vNum _), ?_⟩) | (with_reducible refine ⟨_, _, _, fun _ => (c_vNum _), ?_⟩) | (with_reducible refine ⟨_, _, _, _, fun _ => (c_vNum _), ?_⟩) | with_reducible refine ⟨fun _ => ?_, fun _ => ?_⟩ | fail))
  all_goals (simp_all)
def bareV (v : V3) : V3 × Bool := if v.1 = 0 then (nul, true) else if v.1 = 1 then ((1, v.2.1, []), true) else if v.1 = 2 ∨ v.1 = 3 then ((v.1, 0, v.2.2), true) else (nul, false)
theorem c_bare (v : V3) : FnC Tryz.prog 106 [vD v] (.tup [vD (bareV v).1, bD (bareV v).2]) := by
  refine w106 v.1 v.2.1 (bs v.2.2) ?_
  (try simp only [mk_bs, bs_inj, bs_size, bs_toList, bs_append, byteAt_bs])
  (repeat' (first | (with_reducible refine ⟨_, (c_vNum _), ?_⟩) | (with_reducible refine ⟨_, _, (c_vNum _), ?_⟩) | (with_reducible refine ⟨_, _, _, (c_vNum _), ?_⟩) | (with_reducible refine ⟨_, _, _, _, (c_vNum _), ?_⟩) | (with_reducible refine ⟨_, fun _ => (c_vNum _), ?_⟩) | (with_reducible refine ⟨_, _, fun _ => (c_vNum _), ?_⟩) | (with_reducible refine ⟨_, _, _, fun _ => (c_vNum _), ?_⟩) | (with_reducible refine ⟨_, _, _, _, fun _ => (c_vNum _), ?_⟩) | with_reducible refine ⟨fun _ => ?_, fun _ => ?_⟩ | fail))
  all_goals (((try simp only [bareV, nul] at *); (repeat' split) <;> (first | rfl | (exfalso; omega) | (simp_all; done) | (simp_all; omega))))
def checkV (v : V3) : Int := if v.1 < 0 ∨ 3 < v.1 ∨ (v.1 ≠ 1 ∧ v.2.1 ≠ 0) ∨ (v.1 < 2 ∧ v.2.2 ≠ []) then 1 else if 4096 < (v.2.2.length : Int) then 3 else 0
theorem bare_check (v : V3) : ((bareV v).2 = true ∧ v = (bareV v).1) ↔ ¬ (v.1 < 0 ∨ 3 < v.1 ∨ (v.1 ≠ 1 ∧ v.2.1 ≠ 0) ∨ (v.1 < 2 ∧ v.2.2 ≠ [])) := by
  obtain ⟨k, n, s⟩ := v
  simp only [bareV, nul]
  by_cases h0 : k = 0
  · subst h0; simp
  by_cases h1 : k = 1
  · subst h1; simp
  by_cases h2 : k = 2
  · subst h2; simp
  by_cases h3 : k = 3
  · subst h3; simp
  simp [h0, h1, h2, h3]
  omega
theorem c_vCheck (v : V3) : FnC Tryz.prog 86 [vD v] (iD (checkV v)) := by
  refine w86 v.1 v.2.1 (bs v.2.2) ?_
  refine ⟨_, _, _, _, c_bare v, ?_⟩
  have hb := bare_check v
  have e : (v.1 = (bareV v).1.1 ∧ v.2.1 = (bareV v).1.2.1 ∧ bs v.2.2 = bs (bareV v).1.2.2 ∧ (true = true)) ↔ v = (bareV v).1 := by
    rw [bs_inj]
    constructor
    · rintro ⟨h1, h2, h3, _⟩
      exact Prod.ext h1 (Prod.ext h2 h3)
    · intro h; rw [← h]; simp
  rw [e, bs_size]
  have e2 : (¬ (bareV v).2 = true ∨ ¬ v = (bareV v).1) ↔ (v.1 < 0 ∨ 3 < v.1 ∨ (v.1 ≠ 1 ∧ v.2.1 ≠ 0) ∨ (v.1 < 2 ∧ v.2.2 ≠ [])) := by
    rw [← Classical.not_and_iff_not_or_not, hb, Classical.not_not]
  rw [e2]
  refine ⟨fun h => ?_, fun h => ⟨fun h2 => ?_, fun h2 => ?_⟩⟩
  · simp only [checkV, h, if_true]
  · simp only [checkV, h, h2, if_true, if_false]
  · simp only [checkV, h, h2, if_false]
theorem c_r4Check (v : V3) : FnC Tryz.prog 60 [vD v] (iD (checkV v)) := by
  refine w60 v.1 v.2.1 (bs v.2.2) ?_
  simp only [mk_bs, bs_inj, bs_size]
  have e2 : (((v.1 < 0 ∨ 3 < v.1) ∨ ¬ v.1 = 1 ∧ ¬ v.2.1 = 0) ∨ v.1 < 2 ∧ ¬ v.2.2 = []) ↔ (v.1 < 0 ∨ 3 < v.1 ∨ (v.1 ≠ 1 ∧ v.2.1 ≠ 0) ∨ (v.1 < 2 ∧ v.2.2 ≠ [])) := by
    simp only [or_assoc, ne_eq]
  rw [e2]
  refine ⟨fun h => ?_, fun h => ⟨fun h2 => ?_, fun h2 => ?_⟩⟩
  · simp only [checkV, h, if_true]
  · simp only [checkV, h, h2, if_true, if_false]
  · simp only [checkV, h, h2, if_false]
theorem c_typed (ty : Int) : FnC Tryz.prog 121 [iD ty] (bD (decide (0 ≤ ty ∧ ty ≤ 3))) := by
  refine w121 ty ?_
  by_cases h1 : 0 ≤ ty <;> by_cases h2 : ty ≤ 3 <;> simp [h1, h2]
theorem c_vTruth (v : V3) : FnC Tryz.prog 73 [vD v] (.tup [bD (v.1 == 1 && !(v.2.1 == 0)), bD (v.1 == 1)]) := by
  refine w73 v.1 v.2.1 (bs v.2.2) ?_
  (try simp only [mk_bs, bs_inj, bs_size, bs_toList, bs_append, byteAt_bs])
  (repeat' (first | with_reducible refine ⟨fun _ => ?_, fun _ => ?_⟩ | fail))
  all_goals (simp_all)
def wordsV (v : V3) : List UInt8 × Bool := if v.1 = 1 then (numL v.2.1, true) else if v.1 = 2 then (v.2.2, true) else ([], false)
theorem c_words (v : V3) (h : I64 v.2.1) : FnC Tryz.prog 78 [vD v] (.tup [sD (wordsV v).1, bD (wordsV v).2]) := by
  refine w78 v.1 v.2.1 (bs v.2.2) ?_
  (try simp only [mk_bs, bs_inj, bs_size, bs_toList, bs_append, byteAt_bs])
  (repeat' (first | (with_reducible refine ⟨_, (c_tNum _ h), ?_⟩) | (with_reducible refine ⟨_, _, (c_tNum _ h), ?_⟩) | (with_reducible refine ⟨_, _, _, (c_tNum _ h), ?_⟩) | (with_reducible refine ⟨_, _, _, _, (c_tNum _ h), ?_⟩) | (with_reducible refine ⟨_, fun _ => (c_tNum _ h), ?_⟩) | (with_reducible refine ⟨_, _, fun _ => (c_tNum _ h), ?_⟩) | (with_reducible refine ⟨_, _, _, fun _ => (c_tNum _ h), ?_⟩) | (with_reducible refine ⟨_, _, _, _, fun _ => (c_tNum _ h), ?_⟩) | with_reducible refine ⟨fun _ => ?_, fun _ => ?_⟩ | fail))
  all_goals (((try simp only [wordsV] at *); (repeat' split) <;> (first | rfl | (exfalso; omega) | (simp_all; done) | (simp_all; omega))))
def textV (v : V3) : List UInt8 := if v.1 = 1 then numL v.2.1 else v.2.2
theorem c_r4Text (v : V3) (h : I64 v.2.1) : FnC Tryz.prog 67 [vD v] (.tup [sD (textV v), bD (v.1 == 1 || v.1 == 2)]) := by
  refine w67 v.1 v.2.1 (bs v.2.2) ?_
  (try simp only [mk_bs, bs_inj, bs_size, bs_toList, bs_append, byteAt_bs])
  (repeat' (first | (with_reducible refine ⟨_, (c_r3Num _ h), ?_⟩) | (with_reducible refine ⟨_, _, (c_r3Num _ h), ?_⟩) | (with_reducible refine ⟨_, _, _, (c_r3Num _ h), ?_⟩) | (with_reducible refine ⟨_, _, _, _, (c_r3Num _ h), ?_⟩) | (with_reducible refine ⟨_, fun _ => (c_r3Num _ h), ?_⟩) | (with_reducible refine ⟨_, _, fun _ => (c_r3Num _ h), ?_⟩) | (with_reducible refine ⟨_, _, _, fun _ => (c_r3Num _ h), ?_⟩) | (with_reducible refine ⟨_, _, _, _, fun _ => (c_r3Num _ h), ?_⟩) | with_reducible refine ⟨fun _ => ?_, fun _ => ?_⟩ | fail))
  all_goals ((simp_all [textV]; done))
def numberV (v : V3) : V3 × Int := if v.1 = 1 then (v, 0) else if v.1 = 2 then (if (readL v.2.2).2 ≠ 0 then (nul, (readL v.2.2).2) else ((1, (readL v.2.2).1, []), 0)) else (nul, 11)
theorem c_number (v : V3) (h : Sz v.2.2) : FnC Tryz.prog 122 [vD v] (.tup [vD (numberV v).1, iD (numberV v).2]) := by
  refine w122 v.1 v.2.1 (bs v.2.2) ?_
  (try simp only [mk_bs, bs_inj, bs_size, bs_toList, bs_append, byteAt_bs])
  (repeat' (first | (with_reducible refine ⟨_, (c_vNum _), ?_⟩) | (with_reducible refine ⟨_, _, (c_vNum _), ?_⟩) | (with_reducible refine ⟨_, _, _, (c_vNum _), ?_⟩) | (with_reducible refine ⟨_, _, _, _, (c_vNum _), ?_⟩) | (with_reducible refine ⟨_, fun _ => (c_vNum _), ?_⟩) | (with_reducible refine ⟨_, _, fun _ => (c_vNum _), ?_⟩) | (with_reducible refine ⟨_, _, _, fun _ => (c_vNum _), ?_⟩) | (with_reducible refine ⟨_, _, _, _, fun _ => (c_vNum _), ?_⟩) | (with_reducible refine ⟨_, (c_tRead _ h), ?_⟩) | (with_reducible refine ⟨_, _, (c_tRead _ h), ?_⟩) | (with_reducible refine ⟨_, _, _, (c_tRead _ h), ?_⟩) | (with_reducible refine ⟨_, _, _, _, (c_tRead _ h), ?_⟩) | (with_reducible refine ⟨_, fun _ => (c_tRead _ h), ?_⟩) | (with_reducible refine ⟨_, _, fun _ => (c_tRead _ h), ?_⟩) | (with_reducible refine ⟨_, _, _, fun _ => (c_tRead _ h), ?_⟩) | (with_reducible refine ⟨_, _, _, _, fun _ => (c_tRead _ h), ?_⟩) | with_reducible refine ⟨fun _ => ?_, fun _ => ?_⟩ | fail))
  all_goals (((try simp only [numberV, nul] at *); (repeat' split) <;> (first | rfl | (exfalso; omega) | (simp_all; done) | (simp_all; omega))))
end Go.Proofs.YtmpnglbonmifiaaGreatDoor
namespace Go.Proofs.YtmpnglbonmifiaaGreatDoor
open Go.RowKit Go.IntWalk
set_option linter.unusedSimpArgs false
set_option linter.unusedVariables false

def low (c : UInt8) : UInt8 := if 65 ≤ c ∧ c ≤ 90 then c + 32 else c
def foldL (l : List UInt8) : List UInt8 := l.map low
def foldB (s : ByteArray) : ByteArray := ⟨(foldL s.data.toList).toArray⟩
/-- a text of which the first k letters are small -/
def foldK (l : List UInt8) (k : Nat) : List UInt8 := foldL (l.take k) ++ l.drop k
theorem foldK_len (l : List UInt8) (k : Nat) : (foldK l k).length = l.length := by simp [foldK, foldL]; omega
theorem foldK_at (l : List UInt8) (k : Nat) (h : k < l.length) : (foldK l k)[k]'(by rw [foldK_len]; exact h) = l[k] := by
  unfold foldK
  rw [List.getElem_append_right (by simp [foldL]; omega)]
  simp [foldL, Nat.min_eq_left (Nat.le_of_lt h)]
theorem foldK_zero (l : List UInt8) : foldK l 0 = l := by simp [foldK, foldL]
theorem foldK_all (l : List UInt8) : foldK l l.length = foldL l := by simp [foldK]
theorem foldK_step (l : List UInt8) (k : Nat) (h : k < l.length) : (foldK l k).set k (low l[k]) = foldK l (k + 1) := by
  unfold foldK
  rw [List.set_append_right _ _ (by simp [foldL]; omega)]
  have e : k - (foldL (l.take k)).length = 0 := by simp [foldL]; omega
  rw [e, List.drop_eq_getElem_cons h, List.set_cons_zero, List.take_succ_eq_append_getElem h]
  simp [foldL]
  rw [List.take_succ_eq_append_getElem (by simpa using h)]
  simp
theorem foldK_stay (l : List UInt8) (k : Nat) (h : k < l.length) (hc : low l[k] = l[k]) : foldK l k = foldK l (k + 1) := by
  rw [← foldK_step l k h, hc]
  have := foldK_at l k h
  rw [← this, List.set_getElem_self]

theorem low_stay (c : UInt8) (h : ¬ (65 ≤ (c.toNat : Int) ∧ (c.toNat : Int) ≤ 90)) : low c = c := by
  unfold low
  rw [if_neg]
  rintro ⟨h1, h2⟩
  have h1 : 65 ≤ c.toNat := h1
  have h2 : c.toNat ≤ 90 := h2
  omega
theorem low_up (c : UInt8) (h : 65 ≤ (c.toNat : Int) ∧ (c.toNat : Int) ≤ 90) : ((low c).toNat : Int) = (c.toNat : Int) + 32 := by
  have h1 : 65 ≤ c := by show 65 ≤ c.toNat; omega
  have h2 : c ≤ 90 := by show c.toNat ≤ 90; omega
  unfold low
  rw [if_pos ⟨h1, h2⟩, UInt8.toNat_add]
  simp
  omega
theorem foldL_len (l : List UInt8) : (foldL l).length = l.length := by simp [foldL]
theorem getD_foldK (l : List UInt8) (k : Nat) (h : k < l.length) : (foldK l k).getD k 0 = l.getD k 0 := by
  have := foldK_at l k h
  rw [List.getD_eq_getElem?_getD, List.getD_eq_getElem?_getD, List.getElem?_eq_getElem (by rw [foldK_len]; exact h), this, List.getElem?_eq_getElem h]
theorem getD_at (l : List UInt8) (k : Nat) (h : k < l.length) : l.getD k 0 = l[k] := by
  rw [List.getD_eq_getElem?_getD, List.getElem?_eq_getElem h]; rfl

theorem c_tFold (l : List UInt8) (hs : Sz l) : FnC Tryz.prog 83 [sD l] (sD (foldL l)) := by
  unfold Sz at hs
  refine w83 (bs l) ?_
  intro x1 hx1
  rw [bc_bs] at hx1
  subst hx1
  rw [bc_len]
  refine ⟨fun rows i k => 0 ≤ i ∧ i ≤ l.length ∧ rows = bc (foldK l i.toNat) ∧ k = l.length - i.toNat, ⟨_, by omega, by omega, by rw [Int.toNat_zero, foldK_zero], rfl⟩, ?_⟩
  rintro k rows i ⟨h0, h1, rfl, rfl⟩
  refine ⟨fun hi => ?_, fun hi => ?_⟩
  · have hk : i.toNat < l.length := by omega
    have hk2 : i < ((foldK l i.toNat).length : Int) := by rw [foldK_len]; omega
    rw [bc_at _ _ h0 hk2, getD_foldK l _ hk, i64_in (i + 1) (by omega)]
    refine ⟨by omega, bc_kind _ _ h0 hk2, fun hc => ?_, fun hc => ?_⟩
    · rw [bc_len, foldK_len]
      refine ⟨by omega, by omega, fun x4 hx4 => ?_⟩
      have e := u8_in ((l.getD i.toNat 0).toNat + 97) (by omega)
      rw [e, bc_set (b := low (l.getD i.toNat 0)) (hz := by rw [u8_in _ (by omega), low_up _ hc]; omega), getD_at l _ hk, foldK_step l _ hk] at hx4
      subst hx4
      refine ⟨_, ?_, by omega, by omega, ?_, rfl⟩
      · omega
      · rw [show (i + 1).toNat = i.toNat + 1 by omega]
    · refine ⟨_, ?_, by omega, by omega, ?_, rfl⟩
      · omega
      · rw [show (i + 1).toNat = i.toNat + 1 by omega, foldK_stay l _ hk (by rw [← getD_at l _ hk]; exact low_stay _ hc)]
  · have e : i.toNat = l.length := by omega
    rw [e, foldK_all, bc_len, foldL_len, Int.toNat_natCast, bc_take, bc_str, ← foldL_len l, List.take_length]
    exact ⟨by omega, bc_all _, rfl⟩
end Go.Proofs.YtmpnglbonmifiaaGreatDoor
namespace Go.Proofs.YtmpnglbonmifiaaGreatDoor
open Go.RowKit Go.IntWalk
set_option linter.unusedSimpArgs false
set_option linter.unusedVariables false

theorem c_r4fold (l : List UInt8) (hs : Sz l) : FnC Tryz.prog 72 [sD l] (sD (foldL l)) := by
  unfold Sz at hs
  refine w72 (bs l) ?_
  intro x1 hx1
  rw [bc_bs] at hx1
  subst hx1
  rw [bc_len]
  refine ⟨fun rows i k => 0 ≤ i ∧ i ≤ l.length ∧ rows = bc (foldK l i.toNat) ∧ k = l.length - i.toNat, ⟨_, by omega, by omega, by rw [Int.toNat_zero, foldK_zero], rfl⟩, ?_⟩
  rintro k rows i ⟨h0, h1, rfl, rfl⟩
  refine ⟨fun hi => ?_, fun hi => ?_⟩
  · have hk : i.toNat < l.length := by omega
    have hk2 : i < ((foldK l i.toNat).length : Int) := by rw [foldK_len]; omega
    rw [bc_at _ _ h0 hk2, getD_foldK l _ hk, i64_in (i + 1) (by omega)]
    refine ⟨by omega, bc_kind _ _ h0 hk2, fun _ => by omega, fun _ => bc_kind _ _ h0 hk2, fun hc => ?_, fun hc => ?_⟩
    · rw [bc_len, foldK_len]
      refine ⟨by omega, bc_kind _ _ h0 hk2, by omega, by omega, fun x4 hx4 => ?_⟩
      have e := u8_in ((l.getD i.toNat 0).toNat - 65) (by omega)
      rw [e, bc_set (b := low (l.getD i.toNat 0)) (hz := by rw [u8_in _ (by omega), low_up _ hc]; omega), getD_at l _ hk, foldK_step l _ hk] at hx4
      subst hx4
      refine ⟨_, ?_, by omega, by omega, ?_, rfl⟩
      · omega
      · rw [show (i + 1).toNat = i.toNat + 1 by omega]
    · refine ⟨_, ?_, by omega, by omega, ?_, rfl⟩
      · omega
      · rw [show (i + 1).toNat = i.toNat + 1 by omega, foldK_stay l _ hk (by rw [← getD_at l _ hk]; exact low_stay _ hc)]
  · have e : i.toNat = l.length := by omega
    rw [e, foldK_all, bc_len, foldL_len, Int.toNat_natCast, bc_take, bc_str, ← foldL_len l, List.take_length]
    exact ⟨by omega, bc_all _, rfl⟩

theorem cb_eq : ∀ (a b : List UInt8), Lib.compareBytes a b = if Op.bytesLess a b = true then -1 else if a = b then 0 else 1
  | [], [] => rfl
  | [], _ :: _ => rfl
  | _ :: _, [] => rfl
  | a :: l, b :: m => by
    have ih := cb_eq l m
    unfold Lib.compareBytes Op.bytesLess
    by_cases h1 : a < b
    · simp [h1]
    · by_cases h2 : b < a
      · have h3 : a ≠ b := fun e => by subst e; exact h1 h2
        simp [h1, h2, h3]
      · have h3 : a = b := by
          apply UInt8.toNat_inj.1
          have h1 : ¬ a.toNat < b.toNat := h1
          have h2 : ¬ b.toNat < a.toNat := h2
          omega
        subst h3
        simp [h1, ih]
def cmpV (a b : V3) (coll : Int) : Int :=
  if a.1 ≠ b.1 then cmpI a.1 b.1 else if a.1 = 1 then cmpI a.2.1 b.2.1
  else if a.1 = 2 then (if coll = 1 then Lib.compareBytes (foldL a.2.2) (foldL b.2.2) else Lib.compareBytes a.2.2 b.2.2)
  else if a.1 = 3 then Lib.compareBytes a.2.2 b.2.2 else 0
theorem c_vCompare (a b : V3) (coll : Int) (ha : Sz a.2.2) (hb : Sz b.2.2) : FnC Tryz.prog 53 [vD a, vD b, iD coll] (iD (cmpV a b coll)) := by
  refine w53 a.1 a.2.1 (bs a.2.2) b.1 b.2.1 (bs b.2.2) coll ?_
  (try simp only [mk_bs, bs_inj, bs_size, bs_toList, bs_append, byteAt_bs])
  (repeat' (first | (with_reducible refine ⟨_, (c_tFold _ ha), ?_⟩) | (with_reducible refine ⟨_, _, (c_tFold _ ha), ?_⟩) | (with_reducible refine ⟨_, _, _, (c_tFold _ ha), ?_⟩) | (with_reducible refine ⟨_, _, _, _, (c_tFold _ ha), ?_⟩) | (with_reducible refine ⟨_, fun _ => (c_tFold _ ha), ?_⟩) | (with_reducible refine ⟨_, _, fun _ => (c_tFold _ ha), ?_⟩) | (with_reducible refine ⟨_, _, _, fun _ => (c_tFold _ ha), ?_⟩) | (with_reducible refine ⟨_, _, _, _, fun _ => (c_tFold _ ha), ?_⟩) | (with_reducible refine ⟨_, (c_tFold _ hb), ?_⟩) | (with_reducible refine ⟨_, _, (c_tFold _ hb), ?_⟩) | (with_reducible refine ⟨_, _, _, (c_tFold _ hb), ?_⟩) | (with_reducible refine ⟨_, _, _, _, (c_tFold _ hb), ?_⟩) | (with_reducible refine ⟨_, fun _ => (c_tFold _ hb), ?_⟩) | (with_reducible refine ⟨_, _, fun _ => (c_tFold _ hb), ?_⟩) | (with_reducible refine ⟨_, _, _, fun _ => (c_tFold _ hb), ?_⟩) | (with_reducible refine ⟨_, _, _, _, fun _ => (c_tFold _ hb), ?_⟩) | (with_reducible refine ⟨_, (c_compare _ _), ?_⟩) | (with_reducible refine ⟨_, _, (c_compare _ _), ?_⟩) | (with_reducible refine ⟨_, _, _, (c_compare _ _), ?_⟩) | (with_reducible refine ⟨_, _, _, _, (c_compare _ _), ?_⟩) | (with_reducible refine ⟨_, fun _ => (c_compare _ _), ?_⟩) | (with_reducible refine ⟨_, _, fun _ => (c_compare _ _), ?_⟩) | (with_reducible refine ⟨_, _, _, fun _ => (c_compare _ _), ?_⟩) | (with_reducible refine ⟨_, _, _, _, fun _ => (c_compare _ _), ?_⟩) | (with_reducible refine ⟨_, (c_compare64 _ _), ?_⟩) | (with_reducible refine ⟨_, _, (c_compare64 _ _), ?_⟩) | (with_reducible refine ⟨_, _, _, (c_compare64 _ _), ?_⟩) | (with_reducible refine ⟨_, _, _, _, (c_compare64 _ _), ?_⟩) | (with_reducible refine ⟨_, fun _ => (c_compare64 _ _), ?_⟩) | (with_reducible refine ⟨_, _, fun _ => (c_compare64 _ _), ?_⟩) | (with_reducible refine ⟨_, _, _, fun _ => (c_compare64 _ _), ?_⟩) | (with_reducible refine ⟨_, _, _, _, fun _ => (c_compare64 _ _), ?_⟩) | (with_reducible refine ⟨_, (c_strCompare _ _), ?_⟩) | (with_reducible refine ⟨_, _, (c_strCompare _ _), ?_⟩) | (with_reducible refine ⟨_, _, _, (c_strCompare _ _), ?_⟩) | (with_reducible refine ⟨_, _, _, _, (c_strCompare _ _), ?_⟩) | (with_reducible refine ⟨_, fun _ => (c_strCompare _ _), ?_⟩) | (with_reducible refine ⟨_, _, fun _ => (c_strCompare _ _), ?_⟩) | (with_reducible refine ⟨_, _, _, fun _ => (c_strCompare _ _), ?_⟩) | (with_reducible refine ⟨_, _, _, _, fun _ => (c_strCompare _ _), ?_⟩) | with_reducible refine ⟨fun _ => ?_, fun _ => ?_⟩ | fail))
  all_goals (((try simp only [cmpV] at *); (repeat' split) <;> (first | rfl | (exfalso; omega) | (simp_all; done) | (simp_all; omega))))
theorem c_r4Compare (a b : V3) (coll : Int) (ha : Sz a.2.2) (hb : Sz b.2.2) : FnC Tryz.prog 33 [vD a, vD b, iD coll] (iD (cmpV a b coll)) := by
  obtain ⟨ka, na, sa⟩ := a
  obtain ⟨kb, nb, sb⟩ := b
  refine w33 ka na (bs sa) kb nb (bs sb) coll ?_
  have leaf : ∀ x y : List UInt8, (Op.bytesLess x y = true → iD (-1) = iD (Lib.compareBytes x y)) ∧ (¬ Op.bytesLess x y = true → (¬ (Op.bytesLess x y = true ∨ x = y) → iD 1 = iD (Lib.compareBytes x y)) ∧ (¬ ¬ (Op.bytesLess x y = true ∨ x = y) → iD 0 = iD (Lib.compareBytes x y))) := fun x y => by
    rw [cb_eq]
    refine ⟨fun h => by simp [h], fun h => ⟨fun h2 => ?_, fun h2 => ?_⟩⟩
    · have : ¬ x = y := fun e => h2 (.inr e)
      simp [h, this]
    · have : x = y := (Classical.not_not.1 h2).resolve_left h
      simp [this] at h ⊢
      exact h
  have leafI : ∀ x y : Int, (x < y → iD (-1) = iD (cmpI x y)) ∧ (¬ x < y → (y < x → iD 1 = iD (cmpI x y)) ∧ (¬ y < x → iD 0 = iD (cmpI x y))) := fun x y => by
    unfold cmpI
    refine ⟨fun h => by rw [if_pos h], fun h => ⟨fun h2 => by rw [if_neg h, if_pos h2], fun h2 => by rw [if_neg h, if_neg h2]⟩⟩
  simp only [bs_inj, bs_toList]
  by_cases hf : (ka = 2 ∧ kb = 2) ∧ coll = 1
  · obtain ⟨⟨rfl, rfl⟩, rfl⟩ := hf
    refine ⟨fun _ => ⟨_, c_r4fold sa ha, _, c_r4fold sb hb, ?_⟩, fun h => absurd ⟨⟨rfl, rfl⟩, rfl⟩ h⟩
    simp only [bs_inj, bs_toList]
    refine ⟨fun h => absurd h.2 (by decide), fun _ => ⟨fun _ => ?_, fun h => absurd ⟨trivial, .inl trivial⟩ h⟩⟩
    exact leaf _ _
  · refine ⟨fun h => absurd h hf, fun _ => ?_⟩
    by_cases hk : ka = kb
    · subst hk
      by_cases h1 : ka = 1
      · subst h1
        refine ⟨fun _ => ⟨fun h => absurd h.2 (by decide), fun _ => ?_⟩, fun h => absurd ⟨rfl, rfl⟩ h⟩
        exact leafI _ _
      · refine ⟨fun h => absurd h.2 h1, fun _ => ⟨fun h => ?_, fun h => ?_⟩⟩
        · have e : cmpV (ka, na, sa) (ka, nb, sb) coll = Lib.compareBytes sa sb := by
            rcases h.2 with h2 | h2
            · subst h2
              have : ¬ coll = 1 := fun e => hf ⟨⟨rfl, rfl⟩, e⟩
              simp [cmpV, this]
            · subst h2; simp [cmpV]
          rw [e]
          exact leaf _ _
        · have e : cmpV (ka, na, sa) (ka, nb, sb) coll = 0 := by
            have h2 : ¬ ka = 2 := fun e => h ⟨rfl, .inl e⟩
            have h3 : ¬ ka = 3 := fun e => h ⟨rfl, .inr e⟩
            simp [cmpV, h1, h2, h3]
          rw [e]
          refine ⟨fun h => absurd h (by omega), fun _ => ⟨fun h => absurd h (by omega), fun _ => rfl⟩⟩
    · have e : cmpV (ka, na, sa) (kb, nb, sb) coll = cmpI ka kb := by simp [cmpV, hk]
      rw [e]
      refine ⟨fun h => absurd h.1 hk, fun _ => ⟨fun h => absurd h.1 hk, fun _ => ?_⟩⟩
      exact leafI _ _
end Go.Proofs.YtmpnglbonmifiaaGreatDoor
namespace Go.Proofs.YtmpnglbonmifiaaGreatDoor
open Go.RowKit Go.IntWalk
set_option linter.unusedSimpArgs false
set_option linter.unusedVariables false

theorem i64w (n : Int) : IntKind.wrap .i64 n = wrap64 n := i64_left n
def fitR (s : Int) : V3 × Int := if fit64 s then ((1, s, []), 0) else (nul, 9)
theorem c_fits (n : Int) (ok : Bool) : FnC Tryz.prog 75 [iD n, bD ok] (.tup [vD (if ok then (1, n, []) else nul), iD (if ok then 0 else 9)]) := by
  refine w75 n ok ?_
  (try simp only [mk_bs, bs_inj, bs_size, bs_toList, bs_append, byteAt_bs])
  (repeat' (first | (with_reducible refine ⟨_, (c_vNum _), ?_⟩) | (with_reducible refine ⟨_, _, (c_vNum _), ?_⟩) | (with_reducible refine ⟨_, _, _, (c_vNum _), ?_⟩) | (with_reducible refine ⟨_, _, _, _, (c_vNum _), ?_⟩) | (with_reducible refine ⟨_, fun _ => (c_vNum _), ?_⟩) | (with_reducible refine ⟨_, _, fun _ => (c_vNum _), ?_⟩) | (with_reducible refine ⟨_, _, _, fun _ => (c_vNum _), ?_⟩) | (with_reducible refine ⟨_, _, _, _, fun _ => (c_vNum _), ?_⟩) | with_reducible refine ⟨fun _ => ?_, fun _ => ?_⟩ | fail))
  all_goals (simp_all)
theorem c_fits' (s : Int) : FnC Tryz.prog 75 [iD (wrap64 s), bD (fit64 s)] (.tup [vD (fitR s).1, iD (fitR s).2]) := by
  have := c_fits (wrap64 s) (fit64 s)
  cases h : fit64 s
  · rw [h] at this
    simpa [fitR, h] using this
  · rw [h] at this
    rw [wrap64_fit s ((fit64_iff s).1 h)] at this ⊢
    simpa [fitR, h] using this
theorem c_product (a b : Int) (ha : I64 a) (hb : I64 b) : FnC Tryz.prog 76 [iD a, iD b] (.tup [iD (wrap64 (a * b)), bD (fit64 (a * b))]) := by
  refine w76 a b ?_
  simp only [i64w]
  refine ⟨fun h => ?_, fun h => ⟨fun h1 => ?_, fun h1 => ⟨?_, ?_⟩⟩⟩
  · have : a * b = 0 := by rcases h with h | h <;> subst h <;> simp
    have e1 : wrap64 0 = 0 := wrap64_fit 0 (by omega)
    have e2 : fit64 0 = true := by decide
    rw [this, e1, e2]
  · have e : (if (!a == -9223372036854775808) = true then !b == -9223372036854775808 else false) = fit64 (a * b) := ?_
    · rw [e]
    apply bool_eq
    rw [fit64_iff]
    rcases h1 with h1 | h1
    · subst h1
      rw [Int.neg_mul, Int.one_mul]
      simp
      omega
    · subst h1
      rw [Int.mul_neg, Int.mul_one]
      by_cases hh : a = -9223372036854775808
      · subst hh; simp
      · simp [hh]; omega
  · omega
  · rw [mul_back a b (by omega) (by omega) hb]
def divR (op : List UInt8) (x y : Int) : V3 × Int := if y = 0 then (nul, 0) else if op = [37] then ((1, x.tmod y, []), 0) else fitR (x.tdiv y)
theorem fit_div (x y : Int) (hx : I64 x) (hy : y ≠ 0) : fit64 (x.tdiv y) = (if (!(x == -9223372036854775808)) then true else (!(y == -1))) := by
  apply bool_eq
  rw [fit64_iff]
  by_cases h : y = -1
  · subst h
    rw [tdiv_m1]
    by_cases hh : x = -9223372036854775808
    · subst hh; simp
    · simp [hh]; omega
  · have := tdiv_small x y hx h
    simp [h, this]
theorem c_divide (op : List UInt8) (x y : Int) (hx : I64 x) (hy : I64 y) : FnC Tryz.prog 77 [sD op, iD x, iD y] (.tup [vD (divR op x y).1, iD (divR op x y).2]) := by
  refine w77 (bs op) x y ?_
  simp only [mk_bs, bs_inj, i64w]
  refine ⟨fun h => by simp [divR, h, bs], fun h => ⟨fun h1 => ⟨_, _, _, c_vNum _, ?_⟩, fun h1 => ⟨fun h2 => ⟨h, _, _, _, c_vNum _, ?_⟩, fun h2 => ⟨h, _, _, _, _, ?_, rfl⟩⟩⟩⟩
  · obtain ⟨rfl, rfl⟩ := h1
    simp [divR, tmod_m1]
  · subst h2
    simp [divR, h]
  · have := c_fits' (x.tdiv y)
    rw [fit_div x y hx h] at this
    have e : divR op x y = fitR (x.tdiv y) := by simp [divR, h, h2]
    rw [e]
    exact this
def opOk (op : List UInt8) : Bool := op == [43] || op == [45] || op == [42] || op == [47] || op == [37]
def arithV (op : List UInt8) (a b : V3) : V3 × Int :=
  if opOk op = true then (if a.1 = 0 ∨ b.1 = 0 then (nul, 0) else if a.1 ≠ 1 ∨ b.1 ≠ 1 then (nul, 11) else
    if op = [43] then fitR (a.2.1 + b.2.1) else if op = [45] then fitR (a.2.1 - b.2.1) else if op = [42] then fitR (a.2.1 * b.2.1) else divR op a.2.1 b.2.1)
  else (nul, 1)
theorem c_vArith (op : List UInt8) (a b : V3) (ha : I64 a.2.1) (hb : I64 b.2.1) : FnC Tryz.prog 41 [sD op, vD a, vD b] (.tup [vD (arithV op a b).1, iD (arithV op a b).2]) := by
  refine w41 (bs op) a.1 a.2.1 (bs a.2.2) b.1 b.2.1 (bs b.2.2) ?_
  simp only [mk_bs, bs_inj, bs_size, i64w]
  have hok : opOk op = (decide ((op.length : Int) = 1) && ([43, 45, 42, 47, 37] : List UInt8).contains (op.getD 0 0)) := by
    match op with
    | [] => rfl
    | [c] =>
      apply bool_eq
      simp only [opOk, List.contains_cons, Bool.or_eq_true, beq_iff_eq, List.cons.injEq, and_true, List.length_singleton, Bool.and_eq_true, decide_eq_true_eq, List.getD_cons_zero]
      simp [or_assoc]
    | _ :: _ :: _ =>
      have h1 : ∀ n : Nat, ¬ ((n : Int) + 1 + 1 = 1) := fun n => by omega
      simp [opOk, h1]
  have hcall : (op.length : Int) = 1 → FnC Tryz.prog 74 [sD [43, 45, 42, 47, 37], sD op] (bD (([43, 45, 42, 47, 37] : List UInt8).contains (op.getD 0 0))) := fun h => by
    match op, h with
    | [c], _ => exact c_contains _ c
    | [], h => simp at h
    | _ :: _ :: r, h => simp at h; omega
  refine ⟨_, hcall, fun h => ?_, fun h => ?_⟩
  · have : opOk op = false := by
      rw [hok]
      rcases h with h | h
      · simp [h]
      · rw [Bool.eq_false_iff.2 h, Bool.and_false]
    simp [arithV, this, bs]
  have hk : opOk op = true := by
    rw [hok]
    have h1 : (op.length : Int) = 1 := Classical.byContradiction fun hc => h (.inl hc)
    have h2 := Classical.byContradiction fun hc => h (.inr hc)
    rw [h2]
    simp [h1]
  simp only [arithV, hk, if_true]
  refine ⟨fun h => by simp only [h, if_true], fun h => ⟨fun h1 => by simp only [h, if_false, h1, ne_eq, if_true], fun h1 => ?_⟩⟩
  simp only [h, if_false, h1, ne_eq]
  refine ⟨fun h => ?_, fun h => ⟨fun h1 => ?_, fun h1 => ⟨fun h2 => ?_, fun h2 => ?_⟩⟩⟩
  · simp only [h, if_true]
    rw [add_up _ _ ha hb]
    exact ⟨_, _, _, _, c_fits' _, rfl⟩
  · simp only [h, h1, if_true, if_false]
    rw [sub_up _ _ ha hb]
    exact ⟨_, _, _, _, c_fits' _, rfl⟩
  · simp only [h, h1, h2, if_true, if_false]
    exact ⟨_, _, c_product _ _ ha hb, _, _, _, _, c_fits' _, rfl⟩
  · simp only [h, h1, h2, if_false]
    exact ⟨_, _, _, _, c_divide _ _ _ ha hb, rfl⟩
theorem c_r4Arith (op : List UInt8) (a b : V3) (ha : I64 a.2.1) (hb : I64 b.2.1) : FnC Tryz.prog 46 [sD op, vD a, vD b] (.tup [vD (arithV op a b).1, iD (arithV op a b).2]) := by
  refine w46 (bs op) a.1 a.2.1 (bs a.2.2) b.1 b.2.1 (bs b.2.2) ?_
  simp only [mk_bs, bs_inj, bs_size, i64w]
  have hok : opOk op = true ↔ ¬ ((((¬ op = [43] ∧ ¬ op = [45]) ∧ ¬ op = [42]) ∧ ¬ op = [47]) ∧ ¬ op = [37]) := by
    simp only [opOk, Bool.or_eq_true, beq_iff_eq]
    constructor
    · rintro ((((h | h) | h) | h) | h) <;> subst h <;> decide
    · intro h
      apply Classical.byContradiction
      intro hc
      simp only [not_or] at hc
      exact h hc
  refine ⟨fun h => ?_, fun h => ?_⟩
  · have : opOk op = false := by rw [Bool.eq_false_iff]; exact fun hc => hok.1 hc h
    simp [arithV, this, bs]
  have hk := hok.2 h
  simp only [arithV, hk, if_true]
  refine ⟨fun h => by simp only [h, if_true], fun h => ⟨fun h1 => by simp only [h, if_false, h1, ne_eq, if_true], fun h1 => ?_⟩⟩
  simp only [h, if_false, h1, ne_eq]
  have fin : ∀ s : Int, (fit64 s = true → ∃ x7 x8 x9, FnC Tryz.prog 69 [iD (wrap64 s)] (.agg [.v (.int .i64 x7), .v (.int .i64 x8), .v (.string x9)]) ∧ DV.tup [.agg [.v (.int .i64 x7), .v (.int .i64 x8), .v (.string x9)], iD 0] = .tup [vD (fitR s).1, iD (fitR s).2]) := fun s hs => by
    rw [wrap64_fit s ((fit64_iff s).1 hs)]
    refine ⟨_, _, _, c_r4Num _, ?_⟩
    simp [fitR, hs]
  have fin2 : ∀ s : Int, ¬ fit64 s = true → DV.tup [.agg [.v (.int .i64 0), .v (.int .i64 0), .v (.string (bs []))], iD 9] = .tup [vD (fitR s).1, iD (fitR s).2] := fun s hs => by
    simp [fitR, hs]
  refine ⟨fun h => ?_, fun h => ⟨fun h1 => ?_, fun h1 => ⟨fun h2 => ?_, fun h2 => ?_⟩⟩⟩
  · simp only [h, if_true]
    have e : (decide (0 ≤ b.2.1) = decide (a.2.1 ≤ wrap64 (a.2.1 + b.2.1))) ↔ fit64 (a.2.1 + b.2.1) = true := by rw [← ge_up _ _ ha hb, beq_iff_eq]
    rw [e]
    exact ⟨fin _, fin2 _⟩
  · simp only [h, h1, if_true, if_false]
    have e : (decide (0 ≤ b.2.1) = decide (wrap64 (a.2.1 - b.2.1) ≤ a.2.1)) ↔ fit64 (a.2.1 - b.2.1) = true := by rw [← le_up _ _ ha hb, beq_iff_eq]
    rw [e]
    exact ⟨fin _, fin2 _⟩
  · simp only [h, h1, h2, if_true, if_false]
    have e : (a.2.1 = 0 ∨ (wrap64 ((wrap64 (a.2.1 * b.2.1)).tdiv a.2.1) = b.2.1 ∧ (¬ a.2.1 = -1 ∨ ¬ b.2.1 = -9223372036854775808))) ↔ fit64 (a.2.1 * b.2.1) = true := by
      by_cases h0 : a.2.1 = 0
      · simp [h0]; decide
      by_cases h1 : a.2.1 = -1
      · rw [h1, fit64_iff]
        rw [Int.neg_mul, Int.one_mul, tdiv_m1]
        have hb' := hb
        unfold wrap64
        omega
      · have := mul_back b.2.1 a.2.1 h0 h1 ha
        rw [Int.mul_comm b.2.1 a.2.1] at this
        rw [← this, beq_iff_eq]
        simp [h0, h1]
    rw [e]
    exact ⟨fun h => h, fin _, fin2 _⟩
  · simp only [h, h1, h2, if_false]
    refine ⟨fun h => ?_, fun h => ⟨fun h1 => ?_, fun h1 => ?_⟩⟩
    · subst h
      refine ⟨fun h => by simp [divR, h], fun h => ⟨fun h1 => ⟨h, ?_⟩, fun h1 => ?_⟩⟩
      · have e : divR [47] a.2.1 b.2.1 = fitR (a.2.1.tdiv b.2.1) := by simp [divR, h]
        rw [e]
        refine fin _ ?_
        rw [fit_div _ _ ha h]
        rcases h1 with h1 | h1
        · simp [h1]
        · simp [h1]
      · have e : divR [47] a.2.1 b.2.1 = fitR (a.2.1.tdiv b.2.1) := by simp [divR, h]
        rw [e]
        refine fin2 _ ?_
        rw [fit_div _ _ ha h]
        simp only [not_or, Classical.not_not] at h1
        simp [h1.1, h1.2]
    · subst h1
      refine ⟨fun h => by simp [divR, h], fun h => ⟨fun h1 => ⟨_, _, _, c_r4Num _, ?_⟩, fun h1 => ⟨h, _, _, _, c_r4Num _, ?_⟩⟩⟩
      · rw [h1]; simp [divR, tmod_m1]
      · simp [divR, h]
    · exfalso
      simp only [opOk, Bool.or_eq_true, beq_iff_eq] at hk
      simp_all

def joinV2 (a b : V3) : V3 × Int := if a.1 = 0 ∨ b.1 = 0 then (nul, 0) else if ¬ (a.1 = 1 ∨ a.1 = 2) ∨ ¬ (b.1 = 1 ∨ b.1 = 2) then (nul, 11)
  else if 4096 < (textV a).length + (textV b).length then (nul, 3) else ((2, 0, textV a ++ textV b), 0)
theorem wordsV_eq (v : V3) : wordsV v = if v.1 = 1 ∨ v.1 = 2 then (textV v, true) else ([], false) := by
  unfold wordsV textV
  by_cases h1 : v.1 = 1
  · simp [h1]
  · by_cases h2 : v.1 = 2 <;> simp [h1, h2]
theorem textV_sz (v : V3) (h : I64 v.2.1) (hs : Sz v.2.2) : (textV v).length ≤ 9223372036854775807 := by
  unfold textV
  split
  · have := numL_len v.2.1 h; omega
  · exact hs
theorem c_vJoin (a b : V3) (ha : I64 a.2.1) (hb : I64 b.2.1) (sa : Sz a.2.2) (sb : Sz b.2.2) : FnC Tryz.prog 47 [vD a, vD b] (.tup [vD (joinV2 a b).1, iD (joinV2 a b).2]) := by
  refine w47 a.1 a.2.1 (bs a.2.2) b.1 b.2.1 (bs b.2.2) ?_
  simp only [mk_bs]
  refine ⟨fun h => by simp only [joinV2, h, if_true], fun h => ⟨_, _, c_words a ha, _, _, c_words b hb, ?_⟩⟩
  simp only [joinV2, h, if_false]
  rw [wordsV_eq, wordsV_eq]
  have l1 := textV_sz a ha sa
  have l2 := textV_sz b hb sb
  by_cases ka : a.1 = 1 ∨ a.1 = 2
  rotate_left
  · simp only [ka, if_false, not_false_eq_true, true_or, if_true]
    exact ⟨fun _ => trivial, fun h => absurd (.inl (by simp)) h⟩
  by_cases kb : b.1 = 1 ∨ b.1 = 2
  rotate_left
  · simp only [kb, if_false, not_false_eq_true, or_true, if_true]
    exact ⟨fun _ => trivial, fun h => absurd (.inr (by simp)) h⟩
  simp only [ka, kb, if_true, not_true, or_self, if_false, bs_size, bs_append]
  refine ⟨fun h => h.elim, fun _ => ?_⟩
  by_cases hl : (textV a).length ≤ 4096
  · rw [i64_in _ (by omega)]
    refine ⟨fun h => by rw [if_pos (by omega)], fun h => ⟨by omega, _, _, _, c_vStr _, ?_⟩⟩
    rw [if_neg (by omega)]
  · refine ⟨fun h => by rw [if_pos (by omega)], fun h => absurd (.inl (by omega)) h⟩
theorem c_r4Join (a b : V3) (ha : I64 a.2.1) (hb : I64 b.2.1) (sa : Sz a.2.2) (sb : Sz b.2.2) : FnC Tryz.prog 50 [vD a, vD b] (.tup [vD (joinV2 a b).1, iD (joinV2 a b).2]) := by
  refine w50 a.1 a.2.1 (bs a.2.2) b.1 b.2.1 (bs b.2.2) ?_
  simp only [mk_bs]
  refine ⟨fun h => by simp only [joinV2, h, if_true], fun h => ⟨_, _, c_r4Text a ha, _, _, c_r4Text b hb, ?_⟩⟩
  simp only [joinV2, h, if_false]
  have l1 := textV_sz a ha sa
  have l2 := textV_sz b hb sb
  simp only [Bool.or_eq_true, beq_iff_eq, bs_size, bs_append]
  refine ⟨fun h => by rw [if_pos h], fun h => ?_⟩
  rw [if_neg h]
  by_cases hl : (textV a).length ≤ 4096
  · rw [i64_in _ (by omega)]
    refine ⟨fun h => by rw [if_pos (by omega)], fun h => ⟨by omega, _, _, _, c_r4Str _, ?_⟩⟩
    rw [if_neg (by omega)]
  · refine ⟨fun h => by rw [if_pos (by omega)], fun h => absurd (.inl (by omega)) h⟩

def castV (v : V3) (ty : Int) : V3 × Int :=
  if ty < 0 ∨ 3 < ty ∨ v.1 < 0 ∨ 3 < v.1 then (nul, 1) else if ty = 0 ∨ v.1 = 0 ∨ ty = v.1 then (v, 0)
  else if ty = 1 then numberV v else ((ty, 0, textV v), 0)
theorem c_vCast (v : V3) (ty : Int) (h : I64 v.2.1) (hs : Sz v.2.2) : FnC Tryz.prog 89 [vD v, iD ty] (.tup [vD (castV v ty).1, iD (castV v ty).2]) := by
  refine w89 v.1 v.2.1 (bs v.2.2) ty ?_
  simp only [mk_bs]
  refine ⟨_, _, _, _, c_bare v, _, c_typed ty, ?_⟩
  have hb : (bareV v).2 = decide (0 ≤ v.1 ∧ v.1 ≤ 3) := by
    apply bool_eq
    rw [decide_eq_true_eq]
    simp only [bareV]
    repeat' split
    all_goals simp
    all_goals omega
  have hb0 : (0 ≤ v.1 ∧ v.1 ≤ 3) → ((bareV v).1.1 = 0 ↔ v.1 = 0) := fun h => by
    simp only [bareV]
    repeat' split
    all_goals simp_all
    omega
  rw [hb]
  simp only [decide_eq_true_eq]
  refine ⟨fun h => ?_, fun h => ?_⟩
  · have : ty < 0 ∨ 3 < ty ∨ v.1 < 0 ∨ 3 < v.1 := by omega
    simp only [castV, this, if_true]
  have h1 : ¬ (ty < 0 ∨ 3 < ty ∨ v.1 < 0 ∨ 3 < v.1) := by omega
  rw [hb0 (by omega)]
  simp only [castV, h1, if_false]
  refine ⟨fun h => ?_, fun h => ⟨fun h2 => ?_, fun h2 => ⟨fun h3 => ?_, fun h3 => ?_⟩⟩⟩
  · rw [if_pos (by omega)]
  · subst h2
    refine ⟨_, _, _, _, c_number v hs, ?_⟩
    by_cases hv : v.1 = 1
    · rw [if_pos (by omega)]; simp [numberV, hv]
    · rw [if_neg (by omega), if_pos rfl]
  · rw [if_pos (by omega)]
  rw [if_neg (by omega), if_neg h2]
  refine ⟨_, _, c_words v ‹_›, ?_⟩
  rw [wordsV_eq]
  have ht : ¬ (v.1 = 1 ∨ v.1 = 2) → textV v = v.2.2 := fun h => by unfold textV; rw [if_neg (fun e => h (.inl e))]
  by_cases hv : v.1 = 1 ∨ v.1 = 2
  · simp only [hv, if_true, not_true, false_implies, true_and, not_false_eq_true, true_implies]
    refine ⟨fun h => ⟨_, _, _, c_vStr _, by rw [h]⟩, fun h => ⟨_, _, _, c_vBytes _, ?_⟩⟩
    have : ty = 3 := by omega
    rw [this]
  · rw [ht hv]
    simp only [hv, if_false, Bool.false_eq_true, not_false_eq_true, true_implies, not_true, false_implies, and_true]
    refine ⟨fun h => ⟨_, _, _, c_vStr _, by rw [h]⟩, fun h => ⟨_, _, _, c_vBytes _, ?_⟩⟩
    have : ty = 3 := by omega
    rw [this]
theorem c_r4Cast (v : V3) (ty : Int) (h : I64 v.2.1) (hs : Sz v.2.2) : FnC Tryz.prog 32 [vD v, iD ty] (.tup [vD (castV v ty).1, iD (castV v ty).2]) := by
  refine w32 v.1 v.2.1 (bs v.2.2) ty ?_
  simp only [mk_bs]
  refine ⟨fun h => ?_, fun h => ⟨_, _, c_r4Text v ‹_›, ?_⟩⟩
  · rw [castV, if_pos (by omega)]
  rw [castV, if_neg (by omega)]
  simp only [Bool.or_eq_true, beq_iff_eq]
  refine ⟨fun h => ?_, fun h => ⟨fun h2 => ?_, fun h2 => ⟨fun h3 => ?_, fun h3 => ⟨fun h4 => ?_, fun h4 => ⟨fun h5 => ?_, fun h5 => ?_⟩⟩⟩⟩⟩
  · rw [if_pos (by omega)]
  · rw [if_neg (by omega), if_pos h2.1]; simp [numberV, h2.2]
  · rw [if_neg (by omega), if_pos h3]
    have hv : v.1 = 2 := by omega
    refine ⟨_, _, c_r3Read _ hs, fun h => ?_, fun h => ⟨_, _, _, c_r4Num _, ?_⟩⟩
    · simp [numberV, hv, h]
    · simp [numberV, hv, h]
  · rw [if_neg (by omega), if_neg h3]
    refine ⟨_, _, _, c_r4Str _, ?_⟩
    simp only [textV]
    rw [if_neg (by omega), h4.1]
  · rw [if_neg (by omega), if_neg h3]
    refine ⟨_, _, _, c_r4Str _, ?_⟩
    rw [h5]
  · rw [if_neg (by omega), if_neg h3]
    refine ⟨_, _, _, c_r4Bytes _, ?_⟩
    have : ty = 3 := by omega
    rw [this]

def fitsV (v : V3) (ty : Int) : V3 × Bool :=
  if checkV v ≠ 0 ∨ ty < 0 ∨ 3 < ty then (nul, false) else if ty = 0 ∨ v.1 = 0 then (v, true)
  else if ty = 1 then ((numberV v).1, (numberV v).2 == 0) else if ty = 3 then (if v.1 = 3 then (v, true) else (nul, false))
  else if v.1 = 1 ∨ v.1 = 2 then ((2, 0, textV v), true) else (nul, false)
end Go.Proofs.YtmpnglbonmifiaaGreatDoor
namespace Go.Proofs.YtmpnglbonmifiaaGreatDoor
open Go.RowKit Go.IntWalk
set_option linter.unusedSimpArgs false
set_option linter.unusedVariables false

/-- values as rows -/
def vc (L : List V3) : List (List CV) := L.map fun v => [.v (.int .i64 v.1), .v (.int .i64 v.2.1), .v (.string (bs v.2.2))]
theorem vc_len (L : List V3) : (vc L).length = L.length := by simp [vc]
theorem vc_sz (L : List V3) : ∀ el ∈ vc L, el.length = 3 := by
  intro el h
  simp only [vc, List.mem_map] at h
  obtain ⟨v, _, rfl⟩ := h
  rfl
theorem vc_drop (L : List V3) (n : Nat) : (vc L).drop n = vc (L.drop n) := by simp [vc]
theorem vc_get (L : List V3) (i : Nat) (h : i < L.length) : (vc L).getD i [] = [.v (.int .i64 (L.getD i nul).1), .v (.int .i64 (L.getD i nul).2.1), .v (.string (bs (L.getD i nul).2.2))] := by simp [vc, h]
theorem vc_k (L : List V3) (i : Int) (h0 : 0 ≤ i) (h : i < L.length) : [4, 4, 10] = ((((vc L).getD i.toNat []).drop 0).take 3).map kindC := by rw [vc_get L _ (by omega)]; rfl
theorem vc_k0 (L : List V3) (i : Int) (h0 : 0 ≤ i) (h : i < L.length) : [4] = ((((vc L).getD i.toNat []).drop 0).take 1).map kindC := by rw [vc_get L _ (by omega)]; rfl
theorem vc_k1 (L : List V3) (i : Int) (h0 : 0 ≤ i) (h : i < L.length) : [4] = ((((vc L).getD i.toNat []).drop 1).take 1).map kindC := by rw [vc_get L _ (by omega)]; rfl
theorem vc_k2 (L : List V3) (i : Int) (h0 : 0 ≤ i) (h : i < L.length) : [10] = ((((vc L).getD i.toNat []).drop 2).take 1).map kindC := by rw [vc_get L _ (by omega)]; rfl
theorem vc_0 (L : List V3) (i : Int) (h0 : 0 ≤ i) (h : i < L.length) : (cellAt (vc L) i 0).int = (L.getD i.toNat nul).1 := by simp only [cellAt]; rw [vc_get L _ (by omega)]; rfl
theorem vc_1 (L : List V3) (i : Int) (h0 : 0 ≤ i) (h : i < L.length) : (cellAt (vc L) i 1).int = (L.getD i.toNat nul).2.1 := by simp only [cellAt]; rw [vc_get L _ (by omega)]; rfl
theorem vc_2 (L : List V3) (i : Int) (h0 : 0 ≤ i) (h : i < L.length) : (cellAt (vc L) i 2).str = bs (L.getD i.toNat nul).2.2 := by simp only [cellAt]; rw [vc_get L _ (by omega)]; rfl
theorem vc_vD (L : List V3) (i : Int) (h0 : 0 ≤ i) (h : i < L.length) : DV.agg [.v (.int .i64 (cellAt (vc L) i 0).int), .v (.int .i64 (cellAt (vc L) i 1).int), .v (.string (cellAt (vc L) i 2).str)] = vD (L.getD i.toNat nul) := by
  rw [vc_0 L i h0 h, vc_1 L i h0 h, vc_2 L i h0 h]

theorem vc_rep (n : Nat) : List.replicate n [CV.v (.int .i64 0), CV.v (.int .i64 0), CV.v (.string ⟨#[]⟩)] = vc (List.replicate n nul) := by
  simp only [vc, List.map_replicate]; rfl
theorem vc_set (L : List V3) (K : Nat) (v : V3) (h : K < L.length) : (vc L).set K (overL ((vc L).getD K []) 0 [.v (.int .i64 v.1), .v (.int .i64 v.2.1), .v (.string (bs v.2.2))]) = vc (L.set K v) := by
  rw [vc_get L K h]
  simp only [vc, List.map_set]; rfl
theorem vc_take (L : List V3) (n : Nat) : (vc L).take n = vc (L.take n) := by simp [vc]
/-- a value that may be -/
def Can (v : V3) : Prop := ¬ (v.1 < 0 ∨ 3 < v.1 ∨ (v.1 ≠ 1 ∧ v.2.1 ≠ 0) ∨ (v.1 < 2 ∧ v.2.2 ≠ []))
end Go.Proofs.YtmpnglbonmifiaaGreatDoor
namespace Go.Proofs.YtmpnglbonmifiaaGreatDoor
open Go.RowKit Go.IntWalk
set_option linter.unusedSimpArgs false
set_option linter.unusedVariables false

def tupE (r : V3 × Int) : DV := .tup [vD r.1, iD r.2]
/-- a value's truth: is it true, is that known, what is wrong -/
def tru (v : V3) : Bool × Bool × Int := if v.1 ≠ 0 ∧ v.1 ≠ 1 then (false, false, 11) else (v.1 == 1 && !(v.2.1 == 0), v.1 == 1, 0)
theorem c_truth (v : V3) : FnC Tryz.prog 39 [vD v] (.tup [bD (tru v).1, bD (tru v).2.1, iD (tru v).2.2]) := by
  refine w39 v.1 v.2.1 (bs v.2.2) ?_
  unfold tru
  refine ⟨fun h => by rw [if_pos h] <;> rfl, fun h => ?_⟩
  rw [if_neg h]
  exact ⟨_, _, c_vTruth v, rfl⟩
/-- the value of a truth -/
def truV (is known : Bool) : V3 := if known = true then (1, if is then 1 else 0, []) else nul
theorem c_truths (is known : Bool) : FnC Tryz.prog 40 [bD is, bD known] (vD (truV is known)) := by
  refine w40 is known ?_
  unfold truV
  refine ⟨fun h => by rw [if_neg h]; rfl, fun h => ?_⟩
  rw [if_pos (Classical.not_not.1 h)]
  exact ⟨_, _, _, c_vBool is, rfl⟩
def turnV (v : V3) (no : Bool) : V3 := truV (!((v.1 == 1 && !(v.2.1 == 0)) == no)) (v.1 == 1)
theorem c_eturned (v : V3) (no : Bool) : FnC Tryz.prog 54 [vD v, bD no] (vD (turnV v no)) :=
  w54 v.1 v.2.1 (bs v.2.2) no ⟨_, _, c_vTruth v, _, _, _, c_truths _ _, rfl⟩
def wNot : List UInt8 := [110, 111, 116]
def wAnd : List UInt8 := [97, 110, 100]
def wOr : List UInt8 := [111, 114]
def unV (op : List UInt8) (v : V3) : V3 × Int :=
  if op = wNot then (truV (if (!(tru v).1) = true then ((tru v).2.2 == 0) else false) (tru v).2.1, (tru v).2.2)
  else if op = [45] then (if v.1 = 0 then (nul, 0) else if ¬ v.1 = 1 then (nul, 11) else arithV [45] (1, 0, []) v)
  else if op = [43] then (if v.1 = 0 then (nul, 0) else if ¬ v.1 = 1 then (nul, 11) else ((1, v.2.1, []), 0))
  else (nul, 1)
theorem c_Un (op : List UInt8) (v : V3) (h : I64 v.2.1) : FnC Tryz.prog 12 [sD op, vD v] (tupE (unV op v)) := by
  refine w12 (bs op) v.1 v.2.1 (bs v.2.2) ?_
  simp only [mk_bs, bs_inj]
  unfold unV
  refine ⟨fun h => ?_, fun h0 => ?_⟩
  · rw [if_pos (show op = wNot from h)]
    exact ⟨_, _, _, c_truth v, _, _, _, c_truths _ _, rfl⟩
  rw [if_neg (show ¬ op = wNot from h0)]
  refine ⟨fun h1 => ⟨fun h2 => ?_, fun h2 => ⟨fun h3 => ?_, fun h3 => ⟨fun _ => ?_, fun h4 => absurd h1 h4⟩⟩⟩, fun h1 => ?_⟩
  · rw [if_pos h1, if_pos h2]; rfl
  · rw [if_pos h1, if_neg h2, if_pos h3]; rfl
  · rw [if_pos h1, if_neg h2, if_neg h3]
    exact ⟨_, _, _, c_vNum 0, _, _, _, _, c_vArith [45] (1, 0, []) v (by constructor <;> decide) h, rfl⟩
  rw [if_neg h1]
  refine ⟨fun h5 => ⟨fun h2 => ?_, fun h2 => ⟨fun h3 => ?_, fun h3 => ⟨fun h4 => absurd h4 h1, fun _ => ?_⟩⟩⟩, fun h5 => ?_⟩
  · rw [if_pos h5, if_pos h2]; rfl
  · rw [if_pos h5, if_neg h2, if_pos h3]; rfl
  · rw [if_pos h5, if_neg h2, if_neg h3]
    exact ⟨_, _, _, c_vNum _, rfl⟩
  · rw [if_neg h5]; rfl
def relB (op : List UInt8) (c : Int) : Bool :=
  if op = [61] then c == 0 else if op = [60, 62] then !(c == 0) else if op = [60] then decide (c < 0) else if op = [60, 61] then decide (c ≤ 0) else if op = [62] then decide (0 < c) else if op = [62, 61] then decide (0 ≤ c) else false
def heldV (op : List UInt8) (a b : V3) : V3 := truV (relB op (cmpV a b 0)) (if (!(a.1 == 0)) = true then !(b.1 == 0) else false)
theorem c_held (op : List UInt8) (a b : V3) (ha : Sz a.2.2) (hb : Sz b.2.2) : FnC Tryz.prog 48 [sD op, vD a, vD b] (vD (heldV op a b)) := by
  refine w48 (bs op) a.1 a.2.1 (bs a.2.2) b.1 b.2.1 (bs b.2.2) ⟨_, c_vCompare a b 0 ha hb, ?_⟩
  simp only [mk_bs, bs_inj]
  unfold heldV relB
  (repeat' (first | with_reducible refine ⟨fun _ => ?_, fun _ => ?_⟩ | fail))
  all_goals (simp only [*, if_true, if_false, if_pos, if_neg, not_false_eq_true]; exact ⟨_, _, _, c_truths _ _, rfl⟩)
def bothV (a b : V3) (sure : Bool) : V3 × Int :=
  if (tru a).2.2 ≠ 0 then (nul, (tru a).2.2) else if (tru b).2.2 ≠ 0 then (nul, (tru b).2.2)
  else if ((tru a).2.1 = true ∧ (tru a).1 = sure) ∨ ((tru b).2.1 = true ∧ (tru b).1 = sure) then (truV sure true, 0)
  else (truV (!sure) ((tru a).2.1 && (tru b).2.1), 0)
theorem c_both (a b : V3) (sure : Bool) : FnC Tryz.prog 49 [vD a, vD b, bD sure] (tupE (bothV a b sure)) := by
  refine w49 a.1 a.2.1 (bs a.2.2) b.1 b.2.1 (bs b.2.2) sure ?_
  unfold bothV
  have e0 : ∀ {α : Type} (x y : α), (if ((0 : Int) == 0) = true then x else y) = x := fun x y => rfl
  have e1 : ∀ {α : Type} (x y : α), (if ((1 : Int) == 0) = true then x else y) = y := fun x y => rfl
  have t1 : ∀ c : Bool, (if true = true then c else false) = c := fun c => rfl
  have t2 : ∀ c d : Bool, (if c = true then d else false) = (c && d) := fun c d => by cases c <;> rfl
  refine ⟨fun kn i m => (i = 0 ∧ kn = true ∧ m = 2) ∨ (i = 1 ∧ kn = (tru a).2.1 ∧ (tru a).2.2 = 0 ∧ m = 1) ∨ (i = 2 ∧ kn = ((tru a).2.1 && (tru b).2.1) ∧ (tru a).2.2 = 0 ∧ (tru b).2.2 = 0 ∧ m = 0), ⟨_, .inl ⟨rfl, rfl, rfl⟩⟩, ?_⟩
  rintro m kn i (⟨rfl, rfl, rfl⟩ | ⟨rfl, rfl, ha, rfl⟩ | ⟨rfl, rfl, ha, hb, rfl⟩)
  · refine ⟨fun _ => ⟨by omega, ?_⟩, fun h => absurd h (by omega)⟩
    simp only [e0]
    refine ⟨_, _, _, c_truth a, fun h => ?_, fun h => ⟨1, by omega, .inr (.inl ⟨by decide, by simp, Classical.not_not.1 h, rfl⟩)⟩⟩
    rw [if_pos h]; rfl
  · refine ⟨fun _ => ⟨by omega, ?_⟩, fun h => absurd h (by omega)⟩
    simp only [e1]
    refine ⟨_, _, _, c_truth b, fun h => ?_, fun h => ⟨0, by omega, .inr (.inr ⟨by decide, by rw [t2], ha, Classical.not_not.1 h, rfl⟩)⟩⟩
    rw [if_neg (by simp [ha]), if_pos h]; rfl
  · refine ⟨fun h => absurd h (by omega), fun _ => ?_⟩
    rw [if_neg (by simp [ha]), if_neg (by simp [hb])]
    refine ⟨fun i m => (i = 0 ∧ m = 2) ∨ (i = 1 ∧ ¬ ((tru a).2.1 = true ∧ (tru a).1 = sure) ∧ m = 1) ∨ (i = 2 ∧ ¬ (((tru a).2.1 = true ∧ (tru a).1 = sure) ∨ ((tru b).2.1 = true ∧ (tru b).1 = sure)) ∧ m = 0), ⟨_, .inl ⟨rfl, rfl⟩⟩, ?_⟩
    rintro m i (⟨rfl, rfl⟩ | ⟨rfl, h1, rfl⟩ | ⟨rfl, h1, rfl⟩)
    · refine ⟨fun _ => ⟨by omega, ?_⟩, fun h => absurd h (by omega)⟩
      simp only [e0]
      refine ⟨_, _, _, c_truth a, fun h => ?_, fun h => ⟨1, by omega, .inr (.inl ⟨by decide, h, rfl⟩)⟩⟩
      rw [if_pos (.inl h)]
      exact ⟨_, _, _, c_vBool sure, rfl⟩
    · refine ⟨fun _ => ⟨by omega, ?_⟩, fun h => absurd h (by omega)⟩
      simp only [e1]
      refine ⟨_, _, _, c_truth b, fun h => ?_, fun h => ⟨0, by omega, .inr (.inr ⟨by decide, fun e => e.elim h1 h, rfl⟩)⟩⟩
      rw [if_pos (.inr h)]
      exact ⟨_, _, _, c_vBool sure, rfl⟩
    · refine ⟨fun h => absurd h (by omega), fun _ => ?_⟩
      rw [if_neg h1]
      exact ⟨_, _, _, c_truths _ _, rfl⟩
def arOp (op : List UInt8) : Prop := op = [42] ∨ op = [47] ∨ op = [37] ∨ op = [43] ∨ op = [45]
def cmOp (op : List UInt8) : Prop := op = [61] ∨ op = [60, 62] ∨ op = [60] ∨ op = [60, 61] ∨ op = [62] ∨ op = [62, 61]
instance (op : List UInt8) : Decidable (arOp op) := by unfold arOp; infer_instance
instance (op : List UInt8) : Decidable (cmOp op) := by unfold cmOp; infer_instance
def binV (op : List UInt8) (a b : V3) : V3 × Int :=
  if op = [124, 124] then joinV2 a b else if arOp op then arithV op a b else if cmOp op then (heldV op a b, 0) else if op = wAnd then bothV a b false else if op = wOr then bothV a b true else (nul, 1)
theorem c_Bin (op : List UInt8) (a b : V3) (ha : I64 a.2.1) (hb : I64 b.2.1) (sa : Sz a.2.2) (sb : Sz b.2.2) : FnC Tryz.prog 14 [sD op, vD a, vD b] (tupE (binV op a b)) := by
  have cj := c_vJoin a b ha hb sa sb
  have ca := c_vArith op a b ha hb
  have ch := c_held op a b sa sb
  refine w14 (bs op) a.1 a.2.1 (bs a.2.2) b.1 b.2.1 (bs b.2.2) ?_
  simp only [mk_bs, bs_inj]
  unfold binV
  refine ⟨fun h => ?_, fun h0 => ?_⟩
  · rw [if_pos h]; exact ⟨_, _, _, _, cj, rfl⟩
  rw [if_neg h0]
  have yes : arOp op → ∃ x7 x8 x9 x10, FnC Tryz.prog 41 [sD op, vD a, vD b] (.tup [.agg [.v (.int .i64 x7), .v (.int .i64 x8), .v (.string x9)], .c (.v (.int .i64 x10))]) ∧ DV.tup [.agg [.v (.int .i64 x7), .v (.int .i64 x8), .v (.string x9)], .c (.v (.int .i64 x10))] = tupE (if arOp op then arithV op a b else if cmOp op then (heldV op a b, 0) else if op = wAnd then bothV a b false else if op = wOr then bothV a b true else (nul, 1)) := fun h => by
    rw [if_pos h]; exact ⟨_, _, _, _, ca, rfl⟩
  refine ⟨fun h => yes (.inl h), fun g1 => ⟨fun h => yes (.inr (.inl h)), fun g2 => ⟨fun h => yes (.inr (.inr (.inl h))), fun g3 => ⟨fun h => yes (.inr (.inr (.inr (.inl h)))), fun g4 => ⟨fun h => yes (.inr (.inr (.inr (.inr h)))), fun g5 => ?_⟩⟩⟩⟩⟩
  have na : ¬ arOp op := by rintro (h | h | h | h | h) <;> contradiction
  rw [if_neg na]
  have yes2 : cmOp op → ∃ x7 x8 x9, FnC Tryz.prog 48 [sD op, vD a, vD b] (.agg [.v (.int .i64 x7), .v (.int .i64 x8), .v (.string x9)]) ∧ DV.tup [.agg [.v (.int .i64 x7), .v (.int .i64 x8), .v (.string x9)], .c (.v (.int .i64 0))] = tupE (if cmOp op then (heldV op a b, 0) else if op = wAnd then bothV a b false else if op = wOr then bothV a b true else (nul, 1)) := fun h => by
    rw [if_pos h]; exact ⟨_, _, _, ch, rfl⟩
  refine ⟨fun h => yes2 (.inl h), fun g6 => ⟨fun h => yes2 (.inr (.inl h)), fun g7 => ⟨fun h => yes2 (.inr (.inr (.inl h))), fun g8 => ⟨fun h => yes2 (.inr (.inr (.inr (.inl h)))), fun g9 => ⟨fun h => yes2 (.inr (.inr (.inr (.inr (.inl h))))), fun g10 => ⟨fun h => yes2 (.inr (.inr (.inr (.inr (.inr h))))), fun g11 => ?_⟩⟩⟩⟩⟩⟩
  have nc : ¬ cmOp op := by rintro (h | h | h | h | h | h) <;> contradiction
  rw [if_neg nc]
  refine ⟨fun h => ?_, fun h1 => ⟨fun h => ?_, fun h2 => ?_⟩⟩
  · rw [if_pos (show op = wAnd from h)]; exact ⟨_, _, _, _, c_both a b false, rfl⟩
  · rw [if_neg (show ¬ op = wAnd from h1), if_pos (show op = wOr from h)]; exact ⟨_, _, _, _, c_both a b true, rfl⟩
  · rw [if_neg (show ¬ op = wAnd from h1), if_neg (show ¬ op = wOr from h2)]; rfl
/-- may a value be? -/
def mayB (v : V3) : Bool := if v.1 = 0 then (v.2.1 == 0 && decide (v.2.2 = [])) else if v.1 = 1 then decide (v.2.2 = []) else if v.1 = 2 ∨ v.1 = 3 then (v.2.1 == 0 && decide (v.2.2.length ≤ 4096)) else false
theorem c_May (v : V3) : FnC Tryz.prog 11 [vD v] (bD (mayB v)) := by
  refine w11 v.1 v.2.1 (bs v.2.2) ?_
  simp only [mk_bs, bs_toList, bs_size]
  unfold mayB
  have e : (v.2.2 == []) = decide (v.2.2 = []) := by cases v.2.2 <;> rfl
  have l : decide ((v.2.2.length : Int) ≤ 4096) = decide (v.2.2.length ≤ 4096) := by
    rw [decide_eq_decide]; omega
  have t2 : ∀ c d : Bool, (if c = true then d else false) = (c && d) := fun c d => by cases c <;> rfl
  rw [e, l, t2, t2]
  refine ⟨fun h => by rw [if_pos h] <;> rfl, fun h0 => ⟨fun h => by rw [if_neg h0, if_pos h] <;> rfl, fun h1 => ⟨fun h => by rw [if_neg h0, if_neg h1, if_pos (.inl h)] <;> rfl, fun h2 => ⟨fun h => by rw [if_neg h0, if_neg h1, if_pos (.inr h)] <;> rfl, fun h3 => by rw [if_neg h0, if_neg h1, if_neg (fun e => e.elim h2 h3)] <;> rfl⟩⟩⟩⟩
theorem may_sz {v : V3} (h : mayB v = true) : Sz v.2.2 := by
  unfold mayB at h
  unfold Sz
  split at h
  · simp only [Bool.and_eq_true, decide_eq_true_eq] at h
    rw [h.2]; simp
  · split at h
    · simp only [decide_eq_true_eq] at h
      rw [h]; simp
    · split at h
      · simp only [Bool.and_eq_true, decide_eq_true_eq] at h
        omega
      · cases h
theorem c_num31 (n : Int) : FnC Tryz.prog 22 [iD n] (vD (1, n, [])) := by
  refine w22 n ?_
  (try simp only [mk_bs, bs_inj, bs_size, bs_toList, bs_append, byteAt_bs])
  (repeat' (first | with_reducible refine ⟨fun _ => ?_, fun _ => ?_⟩ | fail))
  all_goals (rfl)
end Go.Proofs.YtmpnglbonmifiaaGreatDoor
namespace Go.Proofs.YtmpnglbonmifiaaGreatDoor
open Go.RowKit Go.IntWalk
set_option linter.unusedSimpArgs false
set_option linter.unusedVariables false

inductive Xp where
  | mk (k : Int) (op : List UInt8) (v : V3) (tb nm : List UInt8) (sl : Int) (nt ds : Bool) (args : List Xp)
  deriving Inhabited
mutual
def Xp.cells : Xp → List CV
  | .mk k op v tb nm sl nt ds args => [.v (.int .i64 k), .v (.string (bs op)), .v (.int .i64 v.1), .v (.int .i64 v.2.1), .v (.string (bs v.2.2)), .v (.string (bs tb)), .v (.string (bs nm)), .v (.int .i64 sl), .v (.bool nt), .v (.bool ds), .vs (xcs args)]
def xcs : List Xp → List (List CV)
  | [] => []
  | e :: r => e.cells :: xcs r
end
def xD (e : Xp) : DV := .agg e.cells
theorem cells_len : ∀ e : Xp, e.cells.length = 11
  | .mk .. => by simp [Xp.cells]
theorem xcs_len : ∀ l : List Xp, (xcs l).length = l.length
  | [] => rfl
  | e :: r => by simp [xcs, xcs_len r]
theorem xcs_sz : ∀ l : List Xp, ∀ el ∈ xcs l, el.length = 11
  | [], el, h => by simp [xcs] at h
  | e :: r, el, h => by
    simp only [xcs, List.mem_cons] at h
    rcases h with rfl | h
    · exact cells_len e
    · exact xcs_sz r el h
theorem xcs_get : ∀ (l : List Xp) (i : Nat) (h : i < l.length), (xcs l).getD i [] = (l[i]).cells
  | [], i, h => by simp at h
  | e :: r, 0, h => rfl
  | e :: r, i + 1, h => by
    have := xcs_get r i (by simpa using h)
    simpa [xcs] using this
theorem xcs_app : ∀ l r : List Xp, xcs (l ++ r) = xcs l ++ xcs r
  | [], r => rfl
  | e :: l, r => by simp [xcs, xcs_app l r]
theorem xs_k (l : List Xp) (i : Int) (h0 : 0 ≤ i) (h : i < l.length) : [4, 10, 4, 4, 10, 10, 10, 4, 9, 9, 11] = ((((xcs l).getD i.toNat []).drop 0).take 11).map kindC := by
  rw [xcs_get l _ (by omega)]
  cases l[i.toNat]'(by omega)
  simp only [Xp.cells]; rfl
theorem xs_D (l : List Xp) (i : Int) (h0 : 0 ≤ i) (h : i < l.length) : DV.agg [.v (.int .i64 (cellAt (xcs l) i 0).int), .v (.string (cellAt (xcs l) i 1).str), .v (.int .i64 (cellAt (xcs l) i 2).int), .v (.int .i64 (cellAt (xcs l) i 3).int), .v (.string (cellAt (xcs l) i 4).str), .v (.string (cellAt (xcs l) i 5).str), .v (.string (cellAt (xcs l) i 6).str), .v (.int .i64 (cellAt (xcs l) i 7).int), .v (.bool (cellAt (xcs l) i 8).bool), .v (.bool (cellAt (xcs l) i 9).bool), .vs (cellAt (xcs l) i 10).els] = xD (l[i.toNat]'(by omega)) := by
  simp only [cellAt]
  rw [xcs_get l _ (by omega)]
  cases l[i.toNat]'(by omega)
  simp only [xD, Xp.cells]; rfl

/-- has an expression as many parts as its kind has? -/
def okN (k : Int) (ds : Bool) (n : Nat) : Prop := ((k = 1 ∨ k = 2) ∧ n = 0) ∨ ((k = 3 ∨ k = 12) ∧ n = 1) ∨ ((k = 4 ∨ k = 5 ∨ k = 8) ∧ n = 2) ∨ (k = 6 ∧ 2 ≤ n) ∨ (k = 7 ∧ n = 3) ∨ (k = 9 ∧ 2 ≤ n ∧ (ds = false ∨ 3 ≤ n)) ∨ k = 10
instance (k : Int) (ds : Bool) (n : Nat) : Decidable (okN k ds n) := by unfold okN; infer_instance
def mayV (k : Int) (ds : Bool) (n : Nat) : Int := if k = 11 then 26 else if okN k ds n then 0 else 1
theorem c_emay (k : Int) (op : List UInt8) (v : V3) (tb nm : List UInt8) (sl : Int) (nt ds : Bool) (args : List Xp) : FnC Tryz.prog 25 [xD (.mk k op v tb nm sl nt ds args)] (iD (mayV k ds args.length)) := by
  unfold xD
  simp only [Xp.cells]
  refine w25 k (bs op) v.1 v.2.1 (bs v.2.2) (bs tb) (bs nm) sl nt ds (xcs args) ?_
  rw [xcs_len]
  generalize args.length = n
  have yes : k ≠ 11 → okN k ds n → iD 0 = iD (mayV k ds n) := fun h1 h2 => by rw [mayV, if_neg h1, if_pos h2]
  have no : k ≠ 11 → ¬ okN k ds n → iD 1 = iD (mayV k ds n) := fun h1 h2 => by rw [mayV, if_neg h1, if_neg h2]
  have dsf : ∀ {b : Bool}, ¬ b = true → b = false := fun h => by simpa using h
  (repeat' (first | with_reducible refine ⟨fun _ => ?_, fun _ => ?_⟩ | fail))
  all_goals first
    | (refine yes (by omega) ?_; unfold okN; cases ds <;> simp at * <;> omega)
    | (refine no (by omega) ?_; unfold okN; cases ds <;> simp at * <;> omega)
    | (rw [mayV, if_pos (by assumption)] <;> rfl)
    | fail
def errV : List (V3 × Int) → Int
  | [] => 0
  | x :: r => if x.2 = 0 then errV r else x.2
theorem errV_at : ∀ (X : List (V3 × Int)) (i : Nat), i < X.length → (∀ j, j < i → (X.getD j (nul, 0)).2 = 0) → (X.getD i (nul, 0)).2 ≠ 0 → errV X = (X.getD i (nul, 0)).2
  | [], i, h, _, _ => by simp at h
  | x :: r, 0, h, _, hx => by
    have hx : x.2 ≠ 0 := hx
    rw [errV, if_neg hx]; rfl
  | x :: r, i + 1, h, hj, hx => by
    have h0 : x.2 = 0 := hj 0 (by omega)
    rw [errV, if_pos h0]
    exact errV_at r i (by simpa using h) (fun j hji => hj (j + 1) (by omega)) hx
theorem errV_none : ∀ (X : List (V3 × Int)), (∀ j, j < X.length → (X.getD j (nul, 0)).2 = 0) → errV X = 0
  | [], _ => rfl
  | x :: r, h => by
    have h0 : x.2 = 0 := h 0 (by simp)
    rw [errV, if_pos h0]
    exact errV_none r fun j hj => h (j + 1) (by simpa using hj)
def finP (r : V3 × Int) : V3 × Int := if r.2 ≠ 0 then (nul, r.2) else (r.1, 0)
def nodeV (k : Int) (ds : Bool) (n : Nat) (X : List (V3 × Int)) (R : V3 × Int) : V3 × Int :=
  if mayV k ds n ≠ 0 then (nul, mayV k ds n) else if errV X ≠ 0 then (nul, errV X) else finP R
theorem c_Eval_node (k : Int) (op : List UInt8) (v : V3) (tb nm : List UInt8) (sl : Int) (nt ds : Bool) (args : List Xp) (row : List V3) (hk : k ≠ 9) (hn : args.length ≤ 1000000) (X : List (V3 × Int)) (hX : X.length = args.length)
    (hA : mayV k ds args.length = 0 → ∀ i (h : i < args.length), FnC Tryz.prog 9 [xD args[i], .c (.vs (vc row))] (tupE (X.getD i (nul, 0)))) (R : V3 × Int)
    (hR : mayV k ds args.length = 0 → errV X = 0 → FnC Tryz.prog 27 [xD (.mk k op v tb nm sl nt ds args), .c (.vs (vc (X.map (·.1)))), .c (.vs (vc row))] (tupE R)) :
    FnC Tryz.prog 9 [xD (.mk k op v tb nm sl nt ds args), .c (.vs (vc row))] (tupE (nodeV k ds args.length X R)) := by
  have hm := c_emay k op v tb nm sl nt ds args
  unfold xD at hR hm ⊢
  simp only [Xp.cells] at hR hm ⊢
  refine w9 k (bs op) v.1 v.2.1 (bs v.2.2) (bs tb) (bs nm) sl nt ds (xcs args) (vc row) ⟨_, hm, ?_⟩
  unfold nodeV
  refine ⟨fun h => by rw [if_pos h]; rfl, fun h => ?_⟩
  rw [if_neg h]
  have hm0 := Classical.not_not.1 h
  refine ⟨fun h => absurd h hk, fun _ => ?_⟩
  rw [xcs_len]
  refine ⟨by omega, by omega, ?_⟩
  rintro x13 rfl
  rw [Int.toNat_natCast, vc_rep, vc_len, List.length_replicate]
  refine ⟨fun rows i m => ∃ (K : Nat) (L : List V3), rows = vc L ∧ i = K ∧ K ≤ args.length ∧ L.length = args.length ∧ (∀ j, j < K → (X.getD j (nul, 0)).2 = 0 ∧ L.getD j nul = (X.getD j (nul, 0)).1) ∧ m = args.length - K, ⟨_, 0, _, rfl, rfl, by omega, by simp, fun j hj => by omega, rfl⟩, ?_⟩
  rintro m rows i ⟨K, L, rfl, rfl, hK, hL, hJ, rfl⟩
  rw [vc_len, hL]
  refine ⟨fun hi => ⟨by omega, xcs_sz _, xs_k _ _ (by omega) (by omega), ?_⟩, fun hi => ?_⟩
  · rw [xs_D _ _ (by omega) (by omega)]
    have ha := hA hm0 K (by omega)
    have e : args[(K : Int).toNat]'(by omega) = args[K]'(by omega) := by simp
    rw [e]
    refine ⟨_, _, _, _, ha, fun h => ?_, fun h => ⟨by omega, by omega, ?_⟩⟩
    · have := errV_at X K (by omega) (fun j hj => (hJ j hj).1) h
      rw [if_pos (by rw [this]; exact h), this]; rfl
    · rintro x20 rfl
      refine ⟨args.length - (K + 1), by omega, K + 1, L.set K (X.getD K (nul, 0)).1, ?_, by rw [i64_in _ (by omega)]; omega, by omega, by simpa using hL, fun j hj => ?_, rfl⟩
      · rw [Int.toNat_natCast]
        exact vc_set L K _ (by omega)
      · by_cases ej : j = K
        · subst ej
          refine ⟨Classical.not_not.1 h, ?_⟩
          rw [List.getD_eq_getElem?_getD, List.getElem?_set_self (by omega)]; rfl
        · refine ⟨(hJ j (by omega)).1, ?_⟩
          rw [List.getD_eq_getElem?_getD, List.getElem?_set_ne (by omega), ← List.getD_eq_getElem?_getD]
          exact (hJ j (by omega)).2
  · have eK : K = args.length := by omega
    subst eK
    have he := errV_none X fun j hj => (hJ j (by omega)).1
    rw [if_neg (by rw [he]; exact fun h => h rfl)]
    have eL : L = X.map (·.1) := by
      apply List.ext_getElem (by simp [hL, hX])
      intro j h1 h2
      have := (hJ j (by omega)).2
      rw [List.getD_eq_getElem?_getD, List.getElem?_eq_getElem h1, List.getD_eq_getElem?_getD, List.getElem?_eq_getElem (by omega)] at this
      simpa using this
    have hr := hR hm0 he
    rw [← eL] at hr
    rw [Int.toNat_natCast, vc_take, ← hL, List.take_length]
    refine ⟨by omega, _, _, _, _, hr, fun h => ?_, fun h => ?_⟩
    · rw [finP, if_pos h]; rfl
    · rw [finP, if_neg h]; rfl
end Go.Proofs.YtmpnglbonmifiaaGreatDoor
namespace Go.Proofs.YtmpnglbonmifiaaGreatDoor
open Go.RowKit Go.IntWalk
set_option linter.unusedSimpArgs false
set_option linter.unusedVariables false

theorem fnC_res {P : Program} {f : FuncId} {args : List DV} {res res' : DV} (h : FnC P f args res) (hw : ∀ w X r, DVR w X res r → DVR w X res' r) : FnC P f args res' :=
  ⟨h.1, fun w X vs hg hx hv => (h.2 w X vs hg hx hv).mono fun e w' ⟨v, he, hr, hb⟩ => ⟨v, he, hw _ _ _ hr, hb⟩⟩
theorem fnC_arg {P : Program} {f : FuncId} {args args' : List DV} {res : DV} (h : FnC P f args res) (hw : ∀ w X vs, DVRs w X args' vs → DVRs w X args vs) : FnC P f args' res :=
  ⟨h.1, fun w X vs hg hx hv => h.2 w X vs hg hx (hw _ _ _ hv)⟩
def nilD : DV := .c (.v (.slice none 0 0))
theorem nil_row {w : World} {X : Nat → Prop} {r : Value} (h : DVR w X nilD r) : DVR w X (.c (.vs (vc []))) r := by
  simp only [nilD, DVR] at h ⊢
  cases h
  exact .nil
theorem Eval_nil {e : Xp} {R : V3 × Int} (h : FnC Tryz.prog 9 [xD e, .c (.vs (vc []))] (tupE R)) : FnC Tryz.prog 9 [xD e, nilD] (tupE R) :=
  fnC_arg h fun w X vs hv => by
    match vs, hv with
    | [a, b], hv =>
      simp only [DVRs] at hv ⊢
      exact ⟨hv.1, nil_row hv.2.1, trivial⟩
    | [], hv => simp [DVRs] at hv
    | [_], hv => simp [DVRs] at hv
    | _ :: _ :: _ :: _, hv => simp [DVRs] at hv
def valX (v : V3) : Xp := .mk 1 [] v [] [] 0 false false []
theorem c_val (v : V3) : FnC Tryz.prog 24 [vD v] (xD (valX v)) :=
  fnC_res (w24 v.1 v.2.1 (bs v.2.2) rfl) fun w X r h => by
    simp only [DVR] at h
    obtain ⟨a, rfl, ha⟩ := h
    unfold xD valX
    simp only [Xp.cells, xcs, DVR]
    refine ⟨a, rfl, ?_⟩
    generalize a.toList = l at ha
    match l, ha with
    | [r0, r1, r2, r3, r4, r5, r6, r7, r8, r9, r10], ha =>
      simp only [CVRs] at ha ⊢
      obtain ⟨h0, h1, h2, h3, h4, h5, h6, h7, h8, h9, h10, _⟩ := ha
      refine ⟨h0, h1, h2, h3, h4, h5, h6, h7, h8, h9, ?_, trivial⟩
      cases h10
      exact .nil
def ofX (k : Int) (op : List UInt8) (l : List Xp) : Xp := .mk k op nul [] [] 0 false false l
theorem c_of (k : Int) (op : List UInt8) (l : List Xp) (hl : l.length ≤ 1000000) : FnC Tryz.prog 23 [iD k, sD op, .c (.vs (xcs l))] (xD (ofX k op l)) := by
  refine w23 k (bs op) (xcs l) ?_
  rintro x3 rfl
  rw [xcs_len]
  refine ⟨xcs_sz _, by simp only [List.length_nil]; omega, ?_⟩
  rintro x4 rfl
  rw [List.nil_append]
  unfold xD ofX
  simp only [Xp.cells]; rfl

/-- is a value one of others? -/
def inV (a : V3) : List V3 → Bool → V3
  | [], kn => truV false kn
  | v :: R, kn => if (heldV [61] a v).1 = 1 ∧ ¬ (heldV [61] a v).2.1 = 0 then heldV [61] a v else inV a R (if kn = true then (heldV [61] a v).1 == 1 else false)
theorem c_ein (a : V3) (R : List V3) (ha : Sz a.2.2) (hR : ∀ v ∈ R, Sz v.2.2) (hl : R.length ≤ 1000000) : FnC Tryz.prog 55 [.c (.vs (vc (a :: R)))] (vD (inV a R true)) := by
  refine w55 (vc (a :: R)) ?_
  rw [vc_len]
  have hd : (vc (a :: R)).drop (1 : Int).toNat = vc R := by rw [vc_drop]; rfl
  rw [hd, vc_len]
  have hln : ((a :: R).length : Int) = R.length + 1 := by simp
  refine ⟨by omega, vc_sz _, ?_⟩
  refine ⟨fun kn i m => ∃ K : Nat, i = K ∧ K ≤ R.length ∧ inV a R true = inV a (R.drop K) kn ∧ m = R.length - K, ⟨_, 0, rfl, by omega, rfl, rfl⟩, ?_⟩
  rintro m kn i ⟨K, rfl, hK, hi0, rfl⟩
  refine ⟨fun hi => ⟨by omega, vc_sz _, vc_k _ _ (by omega) (by omega), by omega, vc_sz _, vc_k _ _ (by omega) (by simp), ?_⟩, fun hi => ?_⟩
  · rw [vc_vD (a :: R) (0 : Int) (by omega) (by simp), vc_vD R _ (by omega) (by omega), Int.toNat_natCast]
    have hdK : R.drop K = R.getD K nul :: R.drop (K + 1) := by
      rw [List.drop_eq_getElem_cons (by omega)]
      congr 1
      simp [List.getD_eq_getElem?_getD, show K < R.length by omega]
    have hm : Sz (R.getD K nul).2.2 := by
      refine hR _ ?_
      rw [List.getD_eq_getElem?_getD, List.getElem?_eq_getElem (by omega)]
      exact List.getElem_mem _
    refine ⟨_, _, _, c_held [61] a (R.getD K nul) ha hm, _, _, c_vTruth _, fun h => ?_, fun h => ?_⟩
    · have h1 : (heldV [61] a (R.getD K nul)).1 = 1 := by simpa using h.1
      have h2 : ¬ (heldV [61] a (R.getD K nul)).2.1 = 0 := by
        have := h.2
        simp only [Bool.and_eq_true, Bool.not_eq_true', beq_eq_false_iff_ne] at this
        exact this.2
      rw [hi0, hdK, inV, if_pos ⟨h1, h2⟩]
    · refine ⟨R.length - (K + 1), by omega, K + 1, by rw [i64_in _ (by omega)]; omega, by omega, ?_, rfl⟩
      rw [hi0, hdK, inV, if_neg]
      rintro ⟨h1, h2⟩
      exact h ⟨beq_iff_eq.2 h1, by rw [Bool.and_eq_true]; exact ⟨beq_iff_eq.2 h1, by rw [Bool.not_eq_true', beq_eq_false_iff_ne]; exact h2⟩⟩
  · have e : K = R.length := by omega
    rw [hi0, e, List.drop_length, inV]
    exact ⟨_, _, _, c_truths false kn, rfl⟩

section
variable (k : Int) (op : List UInt8) (v : V3) (tb nm : List UInt8) (sl : Int) (nt ds : Bool) (args : List Xp) (row : List V3)
theorem reck_val : FnC Tryz.prog 27 [xD (.mk 1 op v tb nm sl nt ds args), .c (.vs (vc [])), .c (.vs (vc row))] (tupE (v, 0)) := by
  unfold xD
  simp only [Xp.cells]
  exact w27 1 (bs op) v.1 v.2.1 (bs v.2.2) (bs tb) (bs nm) sl nt ds (xcs args) (vc []) (vc row) ⟨fun _ => rfl, fun h => absurd rfl h⟩
theorem reck_un (a : V3) (ha : I64 a.2.1) : FnC Tryz.prog 27 [xD (.mk 3 op v tb nm sl nt ds args), .c (.vs (vc [a])), .c (.vs (vc row))] (tupE (unV op a)) := by
  unfold xD
  simp only [Xp.cells]
  refine w27 3 (bs op) v.1 v.2.1 (bs v.2.2) (bs tb) (bs nm) sl nt ds (xcs args) (vc [a]) (vc row) ?_
  iterate 2 refine ⟨fun h => absurd h (by decide), fun _ => ?_⟩
  refine ⟨fun _ => ?_, fun h => absurd rfl h⟩
  rw [vc_vD _ (0 : Int) (by omega) (by simp)]
  exact ⟨by simp [vc_len], vc_sz _, vc_k _ _ (by omega) (by simp), _, _, _, _, c_Un op a ha, rfl⟩
theorem reck_bin (a b : V3) (ha : I64 a.2.1) (hb : I64 b.2.1) (sa : Sz a.2.2) (sb : Sz b.2.2) : FnC Tryz.prog 27 [xD (.mk 4 op v tb nm sl nt ds args), .c (.vs (vc [a, b])), .c (.vs (vc row))] (tupE (binV op a b)) := by
  unfold xD
  simp only [Xp.cells]
  refine w27 4 (bs op) v.1 v.2.1 (bs v.2.2) (bs tb) (bs nm) sl nt ds (xcs args) (vc [a, b]) (vc row) ?_
  iterate 3 refine ⟨fun h => absurd h (by decide), fun _ => ?_⟩
  refine ⟨fun _ => ?_, fun h => absurd rfl h⟩
  rw [vc_vD _ (0 : Int) (by omega) (by simp), vc_vD _ (1 : Int) (by omega) (by simp)]
  exact ⟨by simp [vc_len], vc_sz _, vc_k _ _ (by omega) (by simp), by simp [vc_len], vc_sz _, vc_k _ _ (by omega) (by simp), _, _, _, _, c_Bin op a b ha hb sa sb, rfl⟩
theorem reck_is (a b : V3) (sa : Sz a.2.2) (sb : Sz b.2.2) : FnC Tryz.prog 27 [xD (.mk 5 op v tb nm sl nt ds args), .c (.vs (vc [a, b])), .c (.vs (vc row))] (tupE (truV (!((cmpV a b 0 == 0) == nt)) true, 0)) := by
  unfold xD
  simp only [Xp.cells]
  refine w27 5 (bs op) v.1 v.2.1 (bs v.2.2) (bs tb) (bs nm) sl nt ds (xcs args) (vc [a, b]) (vc row) ?_
  iterate 4 refine ⟨fun h => absurd h (by decide), fun _ => ?_⟩
  refine ⟨fun _ => ?_, fun h => absurd rfl h⟩
  rw [vc_vD _ (0 : Int) (by omega) (by simp), vc_vD _ (1 : Int) (by omega) (by simp)]
  exact ⟨by simp [vc_len], vc_sz _, vc_k _ _ (by omega) (by simp), by simp [vc_len], vc_sz _, vc_k _ _ (by omega) (by simp), _, c_vCompare a b 0 sa sb, _, _, _, c_vBool _, rfl⟩
theorem reck_in (a : V3) (R : List V3) (ha : Sz a.2.2) (hR : ∀ v ∈ R, Sz v.2.2) (hl : R.length ≤ 1000000) : FnC Tryz.prog 27 [xD (.mk 6 op v tb nm sl nt ds args), .c (.vs (vc (a :: R))), .c (.vs (vc row))] (tupE (turnV (inV a R true) nt, 0)) := by
  unfold xD
  simp only [Xp.cells]
  refine w27 6 (bs op) v.1 v.2.1 (bs v.2.2) (bs tb) (bs nm) sl nt ds (xcs args) (vc (a :: R)) (vc row) ?_
  iterate 5 refine ⟨fun h => absurd h (by decide), fun _ => ?_⟩
  exact ⟨fun _ => ⟨_, _, _, c_ein a R ha hR hl, _, _, _, c_eturned _ nt, rfl⟩, fun h => absurd rfl h⟩
theorem reck_between (a b c : V3) (sa : Sz a.2.2) (sb : Sz b.2.2) (sc : Sz c.2.2) : FnC Tryz.prog 27 [xD (.mk 7 op v tb nm sl nt ds args), .c (.vs (vc [a, b, c])), .c (.vs (vc row))] (tupE (turnV (bothV (heldV [62, 61] a b) (heldV [60, 61] a c) false).1 nt, 0)) := by
  unfold xD
  simp only [Xp.cells]
  refine w27 7 (bs op) v.1 v.2.1 (bs v.2.2) (bs tb) (bs nm) sl nt ds (xcs args) (vc [a, b, c]) (vc row) ?_
  iterate 6 refine ⟨fun h => absurd h (by decide), fun _ => ?_⟩
  refine ⟨fun _ => ?_, fun h => absurd rfl h⟩
  rw [vc_vD _ (0 : Int) (by omega) (by simp), vc_vD _ (1 : Int) (by omega) (by simp), vc_vD _ (2 : Int) (by omega) (by simp)]
  exact ⟨by simp [vc_len], vc_sz _, vc_k _ _ (by omega) (by simp), by simp [vc_len], vc_sz _, vc_k _ _ (by omega) (by simp), _, _, _, c_held [62, 61] a b sa sb,
    by simp [vc_len], vc_sz _, vc_k _ _ (by omega) (by simp), by simp [vc_len], vc_sz _, vc_k _ _ (by omega) (by simp), _, _, _, c_held [60, 61] a c sa sc, _, _, _, _, c_both _ _ false, _, _, _, c_eturned _ nt, rfl⟩
end
end Go.Proofs.YtmpnglbonmifiaaGreatDoor
namespace Go.Proofs.YtmpnglbonmifiaaGreatDoor
open Go.RowKit Go.IntWalk
set_option linter.unusedSimpArgs false
set_option linter.unusedVariables false

theorem ev_node {k : Int} {op : List UInt8} {v : V3} {tb nm : List UInt8} {sl : Int} {nt ds : Bool} {args : List Xp} {row : List V3} (hk : k ≠ 9) (hn : args.length ≤ 1000000) (L : List V3) (hL : L.length = args.length) (hm : mayV k ds args.length = 0)
    (hA : ∀ i (h : i < args.length), FnC Tryz.prog 9 [xD args[i], .c (.vs (vc row))] (tupE (L.getD i nul, 0))) {R : V3 × Int}
    (hR : FnC Tryz.prog 27 [xD (.mk k op v tb nm sl nt ds args), .c (.vs (vc L)), .c (.vs (vc row))] (tupE R)) :
    FnC Tryz.prog 9 [xD (.mk k op v tb nm sl nt ds args), .c (.vs (vc row))] (tupE (finP R)) := by
  have e1 : ∀ i, i < args.length → (L.map fun v => (v, (0 : Int))).getD i (nul, 0) = (L.getD i nul, 0) := fun i h => by
    simp [List.getD_eq_getElem?_getD, show i < L.length by omega]
  have e2 : errV (L.map fun v => (v, (0 : Int))) = 0 := errV_none _ fun j hj => by
    rw [e1 j (by simpa [hL] using hj)]
  have := c_Eval_node k op v tb nm sl nt ds args row hk hn (L.map fun v => (v, (0 : Int))) (by simp [hL]) (fun _ i h => by rw [e1 i h]; exact hA i h) R (fun _ _ => by
    have e3 : (L.map fun v => (v, (0 : Int))).map (·.1) = L := by rw [List.map_map]; exact List.map_id' L
    rw [e3]; exact hR)
  rw [nodeV, if_neg (by rw [hm]; exact fun h => h rfl), if_neg (by rw [e2]; exact fun h => h rfl)] at this
  exact this
section
variable {row : List V3}
abbrev EvR (row : List V3) (e : Xp) (r : V3 × Int) : Prop := FnC Tryz.prog 9 [xD e, .c (.vs (vc row))] (tupE r)
theorem ev_val (v : V3) : EvR row (valX v) (v, 0) :=
  ev_node (R := (v, 0)) (by decide) (by simp) [] rfl (by decide) (fun i h => by simp at h) (reck_val [] v [] [] 0 false false [] row)
theorem ev_val1 (v : V3) (nt : Bool) : EvR row (.mk 1 [] v [] [] 0 nt false []) (v, 0) :=
  ev_node (R := (v, 0)) (by decide) (by simp) [] rfl (by decide) (fun i h => by simp at h) (reck_val [] v [] [] 0 nt false [] row)
theorem at2 {e1 e2 : Xp} {a b : V3} (h1 : EvR row e1 (a, 0)) (h2 : EvR row e2 (b, 0)) : ∀ i (h : i < [e1, e2].length), FnC Tryz.prog 9 [xD [e1, e2][i], .c (.vs (vc row))] (tupE ([a, b].getD i nul, 0))
  | 0, _ => h1
  | 1, _ => h2
  | n + 2, h => absurd h (by simp)
theorem at3 {e1 e2 e3 : Xp} {a b c : V3} (h1 : EvR row e1 (a, 0)) (h2 : EvR row e2 (b, 0)) (h3 : EvR row e3 (c, 0)) : ∀ i (h : i < [e1, e2, e3].length), FnC Tryz.prog 9 [xD [e1, e2, e3][i], .c (.vs (vc row))] (tupE ([a, b, c].getD i nul, 0))
  | 0, _ => h1
  | 1, _ => h2
  | 2, _ => h3
  | n + 3, h => absurd h (by simp)
theorem ev_un (op : List UInt8) {e1 : Xp} {a : V3} (h1 : EvR row e1 (a, 0)) (ha : I64 a.2.1) : EvR row (ofX 3 op [e1]) (finP (unV op a)) :=
  ev_node (by decide) (by simp) [a] rfl (show mayV 3 false 1 = 0 by decide) (fun i h => by
    have : i = 0 := by simp at h; omega
    subst this; exact h1) (reck_un op nul [] [] 0 false false [e1] row a ha)
theorem ev_bin (op : List UInt8) {e1 e2 : Xp} {a b : V3} (h1 : EvR row e1 (a, 0)) (h2 : EvR row e2 (b, 0)) (ha : I64 a.2.1) (hb : I64 b.2.1) (sa : Sz a.2.2) (sb : Sz b.2.2) : EvR row (ofX 4 op [e1, e2]) (finP (binV op a b)) :=
  ev_node (by decide) (by simp) [a, b] rfl (show mayV 4 false 2 = 0 by decide) (at2 h1 h2) (reck_bin op nul [] [] 0 false false [e1, e2] row a b ha hb sa sb)
theorem ev_is (nt : Bool) {e1 e2 : Xp} {a b : V3} (h1 : EvR row e1 (a, 0)) (h2 : EvR row e2 (b, 0)) (sa : Sz a.2.2) (sb : Sz b.2.2) : EvR row (.mk 5 [] nul [] [] 0 nt false [e1, e2]) (truV (!((cmpV a b 0 == 0) == nt)) true, 0) :=
  ev_node (R := (truV (!((cmpV a b 0 == 0) == nt)) true, 0)) (by decide) (by simp) [a, b] rfl (show mayV 5 false 2 = 0 by decide) (at2 h1 h2) (reck_is [] nul [] [] 0 nt false [e1, e2] row a b sa sb)
theorem ev_in2 (nt : Bool) {e1 e2 : Xp} {a b : V3} (h1 : EvR row e1 (a, 0)) (h2 : EvR row e2 (b, 0)) (sa : Sz a.2.2) (sb : Sz b.2.2) : EvR row (.mk 6 [] nul [] [] 0 nt false [e1, e2]) (turnV (inV a [b] true) nt, 0) :=
  ev_node (R := (turnV (inV a [b] true) nt, 0)) (by decide) (by simp) [a, b] rfl (show mayV 6 false 2 = 0 by decide) (at2 h1 h2) (reck_in [] nul [] [] 0 nt false [e1, e2] row a [b] sa (by simpa using sb) (by simp))
theorem ev_in3 (nt : Bool) {e1 e2 e3 : Xp} {a b c : V3} (h1 : EvR row e1 (a, 0)) (h2 : EvR row e2 (b, 0)) (h3 : EvR row e3 (c, 0)) (sa : Sz a.2.2) (sb : Sz b.2.2) (sc : Sz c.2.2) : EvR row (.mk 6 [] nul [] [] 0 nt false [e1, e2, e3]) (turnV (inV a [b, c] true) nt, 0) :=
  ev_node (R := (turnV (inV a [b, c] true) nt, 0)) (by decide) (by simp) [a, b, c] rfl (show mayV 6 false 3 = 0 by decide) (at3 h1 h2 h3) (reck_in [] nul [] [] 0 nt false [e1, e2, e3] row a [b, c] sa (by simp [sb, sc]) (by simp))
theorem ev_between (nt : Bool) {e1 e2 e3 : Xp} {a b c : V3} (h1 : EvR row e1 (a, 0)) (h2 : EvR row e2 (b, 0)) (h3 : EvR row e3 (c, 0)) (sa : Sz a.2.2) (sb : Sz b.2.2) (sc : Sz c.2.2) : EvR row (.mk 7 [] nul [] [] 0 nt false [e1, e2, e3]) (turnV (bothV (heldV [62, 61] a b) (heldV [60, 61] a c) false).1 nt, 0) :=
  ev_node (R := (turnV (bothV (heldV [62, 61] a b) (heldV [60, 61] a c) false).1 nt, 0)) (by decide) (by simp) [a, b, c] rfl (show mayV 7 false 3 = 0 by decide) (at3 h1 h2 h3) (reck_between [] nul [] [] 0 nt false [e1, e2, e3] row a b c sa sb sc)
end
/-- are all true? -/
def allV : List (V3 × Int) → Bool × Int
  | [] => (true, 0)
  | x :: r => if x.2 ≠ 0 then (false, x.2) else if (tru x.1).2.2 ≠ 0 ∨ ¬ (tru x.1).1 = true then (false, (tru x.1).2.2) else allV r
theorem c_All (l : List Xp) (row : List V3) (hl : l.length ≤ 1000000) (X : List (V3 × Int)) (hX : X.length = l.length) (hA : ∀ i (h : i < l.length), EvR row l[i] (X.getD i (nul, 0))) :
    FnC Tryz.prog 16 [.c (.vs (xcs l)), .c (.vs (vc row))] (.tup [bD (allV X).1, iD (allV X).2]) := by
  refine w16 (xcs l) (vc row) ?_
  rw [xcs_len]
  refine ⟨fun i m => ∃ K : Nat, i = K ∧ K ≤ l.length ∧ allV X = allV (X.drop K) ∧ m = l.length - K, ⟨_, 0, rfl, by omega, rfl, rfl⟩, ?_⟩
  rintro m i ⟨K, rfl, hK, ha, rfl⟩
  refine ⟨fun hi => ⟨by omega, xcs_sz _, xs_k _ _ (by omega) (by omega), ?_⟩, fun hi => ?_⟩
  · rw [xs_D _ _ (by omega) (by omega)]
    have h1 := hA K (by omega)
    have e : l[(K : Int).toNat]'(by omega) = l[K]'(by omega) := by simp
    have hd : X.drop K = X.getD K (nul, 0) :: X.drop (K + 1) := by
      rw [List.drop_eq_getElem_cons (by omega)]
      congr 1
      simp [List.getD_eq_getElem?_getD, show K < X.length by omega]
    rw [e, ha, hd, allV]
    refine ⟨_, _, _, _, h1, fun h => by rw [if_pos h] <;> rfl, fun h => ⟨_, _, _, c_truth _, fun h2 => ?_, fun h2 => ?_⟩⟩
    · rw [if_neg h, if_pos h2] <;> rfl
    · refine ⟨l.length - (K + 1), by omega, K + 1, by rw [i64_in _ (by omega)]; omega, by omega, ?_, rfl⟩
      rw [if_neg h, if_neg h2]
  · have e : K = l.length := by omega
    rw [ha, e, ← hX, List.drop_length]; rfl
theorem All_nil {l : List Xp} {r : Bool × Int} (h : FnC Tryz.prog 16 [.c (.vs (xcs l)), .c (.vs (vc []))] (.tup [bD r.1, iD r.2])) : FnC Tryz.prog 16 [.c (.vs (xcs l)), nilD] (.tup [bD r.1, iD r.2]) :=
  fnC_arg h fun w X vs hv => by
    match vs, hv with
    | [a, b], hv =>
      simp only [DVRs] at hv ⊢
      exact ⟨hv.1, nil_row hv.2.1, trivial⟩
    | [], hv => simp [DVRs] at hv
    | [_], hv => simp [DVRs] at hv
    | _ :: _ :: _ :: _, hv => simp [DVRs] at hv
theorem i64_small (n : Int) (h : -1000 ≤ n ∧ n ≤ 1000) : I64 n := by unfold I64; omega
theorem sz_nil : Sz ([] : List UInt8) := by unfold Sz; simp
theorem c_live31 : FnC Tryz.prog 8 [] (bD true) := by
  have i0 : I64 ((nul : V3).2.1) := i64_small 0 (by omega)
  have sN : Sz (nul : V3).2.2 := sz_nil
  have b1 := c_Bin wAnd nul (1, 0, []) i0 (i64_small 0 (by omega)) sN sz_nil
  have b2 := c_Bin wOr nul (1, 0, []) i0 (i64_small 0 (by omega)) sN sz_nil
  rw [show binV wAnd nul (1, 0, []) = ((1, 0, []), 0) by decide +kernel] at b1
  rw [show binV wOr nul (1, 0, []) = (nul, 0) by decide +kernel] at b2
  have e1 := Eval_nil (ev_in3 (row := []) false (ev_val (1, 2, [])) (ev_val (1, 1, [])) (ev_val nul) sz_nil sz_nil sN)
  have e2 := Eval_nil (ev_in3 (row := []) false (ev_val (1, 1, [])) (ev_val (1, 1, [])) (ev_val nul) sz_nil sz_nil sN)
  rw [show turnV (inV (1, 2, []) [(1, 1, []), nul] true) false = nul by decide +kernel] at e1
  rw [show turnV (inV (1, 1, []) [(1, 1, []), nul] true) false = (1, 1, []) by decide +kernel] at e2
  have u := c_Un wNot (2, 0, [97]) (i64_small 0 (by omega))
  rw [show unV wNot (2, 0, [97]) = (nul, 11) by decide +kernel] at u
  have al := All_nil (c_All [valX (1, 3, [])] [] (by simp) [((1, 3, []), 0)] rfl (fun i h => by
    have : i = 0 := by simp at h; omega
    subst this; exact ev_val (1, 3, [])))
  rw [show allV [((1, 3, []), 0)] = (true, 0) by decide +kernel] at al
  refine w8 ⟨_, _, _, c_num31 0, _, _, _, _, b1, _, _, _, c_num31 0, _, _, _, _, b2, _, _, _, c_num31 2, _, _, _, _, _, _, _, _, _, _, _, c_val (1, 2, []), _, _, _, c_num31 1, _, _, _, _, _, _, _, _, _, _, _, c_val (1, 1, []), _, _, _, _, _, _, _, _, _, _, _, c_val nul, fun x53 h53 => ?_⟩
  obtain rfl : x53 = xcs [valX (1, 2, []), valX (1, 1, []), valX nul] := h53
  refine ⟨_, _, _, _, _, _, _, _, _, _, _, c_of 6 [] _ (by simp), _, _, _, _, e1, _, _, _, c_num31 1, _, _, _, _, _, _, _, _, _, _, _, c_val (1, 1, []), _, _, _, c_num31 1, _, _, _, _, _, _, _, _, _, _, _, c_val (1, 1, []), _, _, _, _, _, _, _, _, _, _, _, c_val nul, fun x108 h108 => ?_⟩
  obtain rfl : x108 = xcs [valX (1, 1, []), valX (1, 1, []), valX nul] := h108
  refine ⟨_, _, _, _, _, _, _, _, _, _, _, c_of 6 [] _ (by simp), _, _, _, _, e2, _, _, _, _, u, _, _, _, c_num31 3, _, _, _, _, _, _, _, _, _, _, _, c_val (1, 3, []), fun x142 h142 => ?_⟩
  obtain rfl : x142 = xcs [valX (1, 3, [])] := h142
  refine ⟨_, _, al, _, _, _, c_num31 0, _, _, _, fun _ => c_num31 1, ?_⟩
  simp only [mk_bs, bs_toList]
  rfl
end Go.Proofs.YtmpnglbonmifiaaGreatDoor
namespace Go.Proofs.YtmpnglbonmifiaaGreatDoor
open Go.RowKit Go.IntWalk
set_option linter.unusedSimpArgs false
set_option linter.unusedVariables false

/-- a truth as a number -/
def enc (i k : Bool) : Int := if k = true then (if i = true then 1 else 0) else -1
theorem enc_rng (i k : Bool) : -1 ≤ enc i k ∧ enc i k ≤ 1 := by cases i <;> cases k <;> decide
def trN (v : V3) : Int × Int := if v.1 = 0 then (-1, 0) else if ¬ v.1 = 1 then (0, 11) else if v.2.1 = 0 then (0, 0) else (1, 0)
theorem trN_tru (v : V3) : (trN v).2 = (tru v).2.2 ∧ ((tru v).2.2 = 0 → (trN v).1 = enc (tru v).1 (tru v).2.1) := by
  by_cases h0 : v.1 = 0
  · simp [trN, tru, enc, h0]
  · by_cases h1 : v.1 = 1
    · by_cases h2 : v.2.1 = 0
      · simp [trN, tru, enc, h1, h2]
      · simp [trN, tru, enc, h1, h2]
    · simp [trN, tru, enc, h0, h1]
theorem c_rTruth (v : V3) : FnC Tryz.prog 43 [vD v] (.tup [iD (trN v).1, iD (trN v).2]) := by
  refine w43 v.1 v.2.1 (bs v.2.2) ?_
  unfold trN
  exact ⟨fun h => by rw [if_pos h], fun h => ⟨fun h1 => by rw [if_neg h, if_pos h1], fun h1 => ⟨fun h2 => by rw [if_neg h, if_neg h1, if_pos h2], fun h2 => by rw [if_neg h, if_neg h1, if_neg h2]⟩⟩⟩
def ofN (t : Int) : V3 := if t < 0 then nul else (1, t, [])
theorem ofN_enc (i k : Bool) : ofN (enc i k) = truV i k := by cases i <;> cases k <;> rfl
theorem c_rOf (t : Int) : FnC Tryz.prog 44 [iD t] (vD (ofN t)) := by
  refine w44 t ?_
  unfold ofN
  exact ⟨fun h => by rw [if_pos h] <;> rfl, fun h => by rw [if_neg h] <;> rfl⟩
theorem c_rOfE (i k : Bool) : FnC Tryz.prog 44 [iD (enc i k)] (vD (truV i k)) := by
  rw [← ofN_enc]; exact c_rOf _
theorem c_rturned (i k : Bool) : FnC Tryz.prog 45 [iD (enc i k)] (iD (enc (!i) k)) := by
  refine w45 (enc i k) ?_
  cases i <;> cases k <;> exact ⟨fun h => by first | rfl | exact absurd h (by decide), fun h => by first | rfl | exact absurd (by decide) h⟩
def andB (s t : Bool × Bool) : Bool × Bool := bT2 s t where
  bT2 (s t : Bool × Bool) : Bool × Bool := if (s.2 = true ∧ s.1 = false) ∨ (t.2 = true ∧ t.1 = false) then (false, true) else (true, s.2 && t.2)
theorem c_rboth (s t : Bool × Bool) : FnC Tryz.prog 37 [iD (enc s.1 s.2), iD (enc t.1 t.2)] (iD (enc (andB s t).1 (andB s t).2)) := by
  refine w37 (enc s.1 s.2) (enc t.1 t.2) ?_
  obtain ⟨s1, s2⟩ := s
  obtain ⟨t1, t2⟩ := t
  cases s1 <;> cases s2 <;> cases t1 <;> cases t2 <;> exact ⟨fun h => by first | rfl | exact absurd h (by decide), fun h => ⟨fun h2 => by first | rfl | exact absurd h2 (by decide) | exact absurd (by decide) h, fun h2 => by first | rfl | exact absurd (by decide) h | exact absurd (by decide) h2⟩⟩
def notB (s : Bool × Bool) : Bool × Bool := (!s.1, s.2)
def orB (s t : Bool × Bool) : Bool × Bool := notB (andB (notB s) (notB t))
theorem c_reither (s t : Bool × Bool) : FnC Tryz.prog 35 [iD (enc s.1 s.2), iD (enc t.1 t.2)] (iD (enc (orB s t).1 (orB s t).2)) :=
  w35 (enc s.1 s.2) (enc t.1 t.2) ⟨_, c_rturned s.1 s.2, _, c_rturned t.1 t.2, _, c_rboth (notB s) (notB t), _, c_rturned (andB (notB s) (notB t)).1 (andB (notB s) (notB t)).2, rfl⟩
theorem c_rheld (op : List UInt8) (a b : V3) (ha : Sz a.2.2) (hb : Sz b.2.2) : FnC Tryz.prog 36 [sD op, vD a, vD b] (iD (enc (relB op (cmpV a b 0)) (if (!(a.1 == 0)) = true then !(b.1 == 0) else false))) := by
  refine w36 (bs op) a.1 a.2.1 (bs a.2.2) b.1 b.2.1 (bs b.2.2) ?_
  simp only [mk_bs, bs_inj]
  refine ⟨fun h => ?_, fun h => ?_⟩
  · have e : (if (!(a.1 == 0)) = true then !(b.1 == 0) else false) = false := by
      rcases h with h | h
      · rw [h]; rfl
      · rw [h]; split <;> rfl
    rw [e]; rfl
  have e : (if (!(a.1 == 0)) = true then !(b.1 == 0) else false) = true := by
    have h1 : ¬ a.1 = 0 := fun e => h (.inl e)
    have h2 : ¬ b.1 = 0 := fun e => h (.inr e)
    simp [h1, h2]
  rw [e]
  refine ⟨_, c_r4Compare a b 0 ha hb, ?_⟩
  generalize cmpV a b 0 = c
  have yes : ∀ {x : Bool}, x = true → iD 1 = iD (enc x true) := fun h => by rw [h]; rfl
  have no : ∀ {x : Bool}, ¬ x = true → iD 0 = iD (enc x true) := fun h => by rw [Bool.eq_false_iff.2 h]; rfl
  unfold relB
  (repeat' (first | with_reducible refine ⟨fun _ => ?_, fun _ => ?_⟩ | fail))
  all_goals first
    | (refine yes ?_; simp [*]; done)
    | (refine no ?_; simp [*]; done)
    | (refine yes ?_; simp [*]; omega)
    | (refine no ?_; simp [*]; omega)
theorem c_rmaybe (nt : Bool) (s : Bool × Bool) : FnC Tryz.prog 34 [bD nt, iD (enc s.1 s.2)] (vD (truV (!(s.1 == nt)) s.2)) := by
  refine w34 nt (enc s.1 s.2) ?_
  refine ⟨fun h => ?_, fun h => ?_⟩
  · subst h
    have : (!(s.1 == true)) = !s.1 := by cases s.1 <;> rfl
    rw [this]
    exact ⟨_, c_rturned s.1 s.2, _, _, _, c_rOfE _ _, rfl⟩
  · have h : nt = false := by simpa using h
    subst h
    have : (!(s.1 == false)) = s.1 := by cases s.1 <;> rfl
    rw [this]
    exact ⟨_, _, _, c_rOfE _ _, rfl⟩
theorem tru_imp (v : V3) : (tru v).1 = true → (tru v).2.1 = true := by
  unfold tru
  split
  · intro h; cases h
  · intro h
    simp only [Bool.and_eq_true] at h
    exact h.1
theorem can_int {v : V3} (h : Can v) (h1 : v.1 = 1) : v.2.2 = [] := by
  unfold Can at h
  by_cases e : v.2.2 = []
  · exact e
  · exact absurd (.inr (.inr (.inr ⟨by omega, e⟩))) h
theorem c_rUn (op : List UInt8) (v : V3) (h : I64 v.2.1) (hc : Can v) : FnC Tryz.prog 13 [sD op, vD v] (tupE (unV op v)) := by
  refine w13 (bs op) v.1 v.2.1 (bs v.2.2) ?_
  simp only [mk_bs, bs_inj]
  unfold unV
  obtain ⟨e1, e2⟩ := trN_tru v
  refine ⟨fun h => ?_, fun h0 => ?_⟩
  · rw [if_pos (show op = wNot from h)]
    refine ⟨_, _, c_rTruth v, fun h1 => ?_, fun h1 => ?_⟩
    · rw [e1] at h1 ⊢
      have : (tru v).2.1 = false := by
        unfold tru at h1 ⊢
        split
        · rfl
        · rename_i hn; rw [if_neg hn] at h1; exact absurd rfl h1
      rw [this]; rfl
    · have h1 := Classical.not_not.1 h1
      rw [e1] at h1
      rw [e2 h1]
      refine ⟨_, c_rturned _ _, _, _, _, c_rOfE _ _, ?_⟩
      rw [h1]
      have : (if (!(tru v).1) = true then ((0 : Int) == 0) else false) = !(tru v).1 := by cases (tru v).1 <;> rfl
      rw [this]; rfl
  rw [if_neg (show ¬ op = wNot from h0)]
  refine ⟨fun h1 => ?_, fun h1 => ?_⟩
  · rw [if_neg h1.1, if_neg h1.2]; rfl
  by_cases hm : op = [45]
  · rw [if_pos hm]
    refine ⟨fun h2 => by rw [if_pos h2]; rfl, fun h2 => ⟨fun h3 => by rw [if_neg h2, if_pos h3]; rfl, fun h3 => ⟨fun h4 => absurd (h4.symm.trans hm) (by decide), fun _ => ?_⟩⟩⟩
    rw [if_neg h2, if_neg h3]
    exact ⟨_, _, _, _, c_r4Arith [45] (1, 0, []) v (i64_small 0 (by decide)) h, rfl⟩
  · have hp : op = [43] := by
      by_cases e : op = [43]
      · exact e
      · exact absurd ⟨hm, e⟩ h1
    rw [if_neg hm, if_pos hp]
    refine ⟨fun h2 => by rw [if_pos h2]; rfl, fun h2 => ⟨fun h3 => by rw [if_neg h2, if_pos h3]; rfl, fun h3 => ⟨fun _ => ?_, fun h4 => absurd hp h4⟩⟩⟩
    have h3 := Classical.not_not.1 h3
    rw [if_neg h2, if_neg (fun e => e h3), h3, can_int hc h3]; rfl
theorem both_of (a b : V3) (ea : (tru a).2.2 = 0) (eb : (tru b).2.2 = 0) : bothV a b false = (truV (andB ((tru a).1, (tru a).2.1) ((tru b).1, (tru b).2.1)).1 (andB ((tru a).1, (tru a).2.1) ((tru b).1, (tru b).2.1)).2, 0) ∧
    bothV a b true = (truV (orB ((tru a).1, (tru a).2.1) ((tru b).1, (tru b).2.1)).1 (orB ((tru a).1, (tru a).2.1) ((tru b).1, (tru b).2.1)).2, 0) := by
  have i1 := tru_imp a
  have i2 := tru_imp b
  unfold bothV
  simp only [ea, eb, ne_eq, not_true_eq_false, if_false]
  generalize (tru a).1 = a1 at *
  generalize (tru a).2.1 = a2 at *
  generalize (tru b).1 = b1 at *
  generalize (tru b).2.1 = b2 at *
  cases a1 <;> cases a2 <;> cases b1 <;> cases b2 <;> exact ⟨rfl, rfl⟩
theorem c_rBin (op : List UInt8) (a b : V3) (ha : I64 a.2.1) (hb : I64 b.2.1) (sa : Sz a.2.2) (sb : Sz b.2.2) : FnC Tryz.prog 15 [sD op, vD a, vD b] (tupE (binV op a b)) := by
  have cj := c_r4Join a b ha hb sa sb
  have ca := c_r4Arith op a b ha hb
  have ch := c_rheld op a b sa sb
  obtain ⟨p1, p2⟩ := trN_tru a
  obtain ⟨q1, q2⟩ := trN_tru b
  refine w15 (bs op) a.1 a.2.1 (bs a.2.2) b.1 b.2.1 (bs b.2.2) ?_
  simp only [mk_bs, bs_inj]
  unfold binV
  have bad1 : ∀ s, (trN a).2 ≠ 0 → bothV a b s = (nul, (trN a).2) := fun s h => by
    rw [p1] at h ⊢
    rw [bothV, if_pos h]
  have bad2 : ∀ s, ¬ (trN a).2 ≠ 0 → (trN b).2 ≠ 0 → bothV a b s = (nul, (trN b).2) := fun s h1 h => by
    rw [p1] at h1
    rw [q1] at h ⊢
    rw [bothV, if_neg h1, if_pos h]
  refine ⟨fun h => ?_, fun h0 => ?_⟩
  · rw [if_pos h]; exact ⟨_, _, _, _, cj, rfl⟩
  rw [if_neg h0]
  have yes : arOp op → ∃ x7 x8 x9 x10, FnC Tryz.prog 46 [sD op, vD a, vD b] (.tup [.agg [.v (.int .i64 x7), .v (.int .i64 x8), .v (.string x9)], .c (.v (.int .i64 x10))]) ∧ DV.tup [.agg [.v (.int .i64 x7), .v (.int .i64 x8), .v (.string x9)], .c (.v (.int .i64 x10))] = tupE (if arOp op then arithV op a b else if cmOp op then (heldV op a b, 0) else if op = wAnd then bothV a b false else if op = wOr then bothV a b true else (nul, 1)) := fun h => by
    rw [if_pos h]; exact ⟨_, _, _, _, ca, rfl⟩
  refine ⟨fun h => yes (.inl h), fun g1 => ⟨fun h => yes (.inr (.inl h)), fun g2 => ⟨fun h => yes (.inr (.inr (.inl h))), fun g3 => ⟨fun h => yes (.inr (.inr (.inr (.inl h)))), fun g4 => ⟨fun h => yes (.inr (.inr (.inr (.inr h)))), fun g5 => ?_⟩⟩⟩⟩⟩
  have na : ¬ arOp op := by rintro (h | h | h | h | h) <;> contradiction
  rw [if_neg na]
  have yes2 : cmOp op → ∃ x7 : Int, FnC Tryz.prog 36 [sD op, vD a, vD b] (.c (.v (.int .i64 x7))) ∧ ∃ x8 x9 x10, FnC Tryz.prog 44 [.c (.v (.int .i64 x7))] (.agg [.v (.int .i64 x8), .v (.int .i64 x9), .v (.string x10)]) ∧ DV.tup [.agg [.v (.int .i64 x8), .v (.int .i64 x9), .v (.string x10)], .c (.v (.int .i64 0))] = tupE (if cmOp op then (heldV op a b, 0) else if op = wAnd then bothV a b false else if op = wOr then bothV a b true else (nul, 1)) := fun h => by
    rw [if_pos h]; exact ⟨_, ch, _, _, _, c_rOfE _ _, rfl⟩
  refine ⟨fun h => yes2 (.inl h), fun g6 => ⟨fun h => yes2 (.inr (.inl h)), fun g7 => ⟨fun h => yes2 (.inr (.inr (.inl h))), fun g8 => ⟨fun h => yes2 (.inr (.inr (.inr (.inl h)))), fun g9 => ⟨fun h => yes2 (.inr (.inr (.inr (.inr (.inl h))))), fun g10 => ⟨fun h => yes2 (.inr (.inr (.inr (.inr (.inr h))))), fun g11 => ?_⟩⟩⟩⟩⟩⟩
  have nc : ¬ cmOp op := by rintro (h | h | h | h | h | h) <;> contradiction
  rw [if_neg nc]
  have wne : wOr ≠ wAnd := by decide
  refine ⟨fun h => ?_, fun h1 => ⟨fun h => ?_, fun h2 => ?_⟩⟩
  · rw [if_pos (show op = wAnd from h)]
    refine ⟨_, _, c_rTruth a, fun h1 => by rw [bad1 _ h1]; rfl, fun h1 => ⟨_, _, c_rTruth b, fun h2 => by rw [bad2 _ h1 h2]; rfl, fun h2 => ⟨fun _ => ?_, fun h3 => absurd h h3⟩⟩⟩
    have ea : (tru a).2.2 = 0 := by rw [← p1]; exact Classical.not_not.1 h1
    have eb : (tru b).2.2 = 0 := by rw [← q1]; exact Classical.not_not.1 h2
    rw [(both_of a b ea eb).1, p2 ea, q2 eb]
    exact ⟨_, c_rboth ((tru a).1, (tru a).2.1) ((tru b).1, (tru b).2.1), _, _, _, c_rOfE _ _, rfl⟩
  · have ho : op = wOr := h
    rw [if_neg (show ¬ op = wAnd from h1), if_pos ho]
    refine ⟨_, _, c_rTruth a, fun h1 => by rw [bad1 _ h1]; rfl, fun h1 => ⟨_, _, c_rTruth b, fun h2 => by rw [bad2 _ h1 h2]; rfl, fun h2 => ⟨fun h3 => absurd (ho.symm.trans h3) wne, fun _ => ?_⟩⟩⟩
    have ea : (tru a).2.2 = 0 := by rw [← p1]; exact Classical.not_not.1 h1
    have eb : (tru b).2.2 = 0 := by rw [← q1]; exact Classical.not_not.1 h2
    rw [(both_of a b ea eb).2, p2 ea, q2 eb]
    exact ⟨_, c_reither ((tru a).1, (tru a).2.1) ((tru b).1, (tru b).2.1), _, _, _, c_rOfE _ _, rfl⟩
  · rw [if_neg (show ¬ op = wAnd from h1), if_neg (show ¬ op = wOr from h2)]; rfl
theorem may_can {v : V3} (h : mayB v = true) : Can v := by
  unfold mayB at h
  unfold Can
  split at h
  · simp only [Bool.and_eq_true, decide_eq_true_eq, beq_iff_eq] at h
    rename_i h0
    rw [h.1, h.2, h0]; simp
  · split at h
    · simp only [decide_eq_true_eq] at h
      rename_i h0 h1
      rw [h, h1]; simp
    · split at h
      · simp only [Bool.and_eq_true, decide_eq_true_eq, beq_iff_eq] at h
        rename_i h0 h1 h2
        rw [h.1]
        rintro (e | e | e | e)
        · omega
        · omega
        · exact e.2 rfl
        · have := e.1; omega
      · cases h
theorem walkOps (op : List UInt8) (a b : V3) (ha : I64 a.2.1) (hb : I64 b.2.1) : FnC Tryz.prog 4 [sD op, vD a, vD b] (bD true) := by
  refine w4 (bs op) a.1 a.2.1 (bs a.2.2) b.1 b.2.1 (bs b.2.2) ⟨_, c_May a, _, fun _ => c_May b, fun _ => ⟨_, c_live31, rfl⟩, fun h => ?_⟩
  have cl : ∀ p : Prop, ¬ ¬ p → p := fun p h => Classical.not_not.1 h
  have ma := cl _ fun e => h (.inl e)
  have mb := cl _ fun e => h (.inr e)
  have sa := may_sz ma
  have sb := may_sz mb
  refine ⟨_, _, _, _, c_Un op a ha, _, _, _, _, c_rUn op a ha (may_can ma), _, _, _, _, c_Bin op a b ha hb sa sb, _, _, _, _, c_rBin op a b ha hb sa sb, _, c_live31, ?_⟩
  simp
end Go.Proofs.YtmpnglbonmifiaaGreatDoor
