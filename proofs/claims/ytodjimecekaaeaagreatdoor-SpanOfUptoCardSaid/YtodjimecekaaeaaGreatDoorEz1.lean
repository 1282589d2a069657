/- What the small functions of package value and of its document's answer compute. Conditions: numbers of 64 bits, texts that a machine can hold. What text.Fold computes: a text in small letters. Condition: a text that a machine can hold. -/
import Derived.Test.YtodjimecekaaeaaGreatDoorCt4
import Derived.Test.YtodjimecekaaeaaGreatDoorPa
import Derived.Test.YtodjimecekaaeaaGreatDoorDv
import Derived.Lib.IndexAny
import Derived.Test.YtodjimecekaaeaaGreatDoorShelf
import Derived.Test.YtodjimecekaaeaaGreatDoorCt2
import Derived.Lib.SplitLaws
import Derived.Test.YtodjimecekaaeaaGreatDoorPl
import Derived.Test.YtodjimecekaaeaaGreatDoorFr
import Derived.Deep.Slices
namespace Go.Proofs.YtodjimecekaaeaaGreatDoor
open Go.RowKit Go.IntWalk
set_option linter.unusedSimpArgs false
set_option linter.unusedVariables false
theorem c_strCompare (a b : List UInt8) : FnC Tryz.prog 63 [sD a, sD b] (iD (Lib.compareBytes a b)) := by
 have := fnC_calls2 Tryz.func63 (by kernel_rfl) (by kernel_rfl) (by rfl) (Tryz.strings_Compare (bs a) (bs b))
 rwa [bs_data, bs_data] at this
theorem c_contains (a : List UInt8) (c : UInt8) : FnC Tryz.prog 124 [sD a, sD [c]] (bD (a.contains c)) := by
 have := fnC_calls2 Tryz.func124 (by kernel_rfl) (by kernel_rfl) (by rfl) (Tryz.strings_Contains_one (bs a) c)
 rw [bs_data] at this
 rwa [Lib.contains_iff_indexByte]
theorem c_isNaN (x : Int) : FnC Tryz.prog 97 [iD x] (bD false) := by
 refine w97 x ?_
 (try simp only [mk_bs, bs_inj, bs_size, bs_toList, bs_append, byteAt_bs])
 (repeat' (first | with_reducible refine ⟨fun _ => ?_, fun _ => ?_⟩ | fail))
 all_goals (simp_all)
theorem c_isNaN64 (x : Int) : FnC Tryz.prog 98 [iD x] (bD false) := by
 refine w98 x ?_
 (try simp only [mk_bs, bs_inj, bs_size, bs_toList, bs_append, byteAt_bs])
 (repeat' (first | with_reducible refine ⟨fun _ => ?_, fun _ => ?_⟩ | fail))
 all_goals (simp_all)
def cmpI (x y : Int) : Int := if x < y then -1 else if y < x then 1 else 0
theorem c_compare (x y : Int) : FnC Tryz.prog 61 [iD x, iD y] (iD (cmpI x y)) := by
 refine w61 x y ?_
 (try simp only [mk_bs, bs_inj, bs_size, bs_toList, bs_append, byteAt_bs])
 (repeat' (first | (with_reducible refine ⟨_, (c_isNaN _), ?_⟩) | (with_reducible refine ⟨_, _, (c_isNaN _), ?_⟩) | (with_reducible refine ⟨_, _, _, (c_isNaN _), ?_⟩) | (with_reducible refine ⟨_, _, _, _, (c_isNaN _), ?_⟩) | (with_reducible refine ⟨_, fun _ => (c_isNaN _), ?_⟩) | (with_reducible refine ⟨_, _, fun _ => (c_isNaN _), ?_⟩) | (with_reducible refine ⟨_, _, _, fun _ => (c_isNaN _), ?_⟩) | (with_reducible refine ⟨_, _, _, _, fun _ => (c_isNaN _), ?_⟩) | with_reducible refine ⟨fun _ => ?_, fun _ => ?_⟩ | fail))
 all_goals (((try simp only [cmpI] at *); (repeat' split) <;> (first | rfl | (exfalso; omega) | (simp_all; done) | (simp_all; omega))))
theorem c_compare64 (x y : Int) : FnC Tryz.prog 62 [iD x, iD y] (iD (cmpI x y)) := by
 refine w62 x y ?_
 (try simp only [mk_bs, bs_inj, bs_size, bs_toList, bs_append, byteAt_bs])
 (repeat' (first | (with_reducible refine ⟨_, (c_isNaN64 _), ?_⟩) | (with_reducible refine ⟨_, _, (c_isNaN64 _), ?_⟩) | (with_reducible refine ⟨_, _, _, (c_isNaN64 _), ?_⟩) | (with_reducible refine ⟨_, _, _, _, (c_isNaN64 _), ?_⟩) | (with_reducible refine ⟨_, fun _ => (c_isNaN64 _), ?_⟩) | (with_reducible refine ⟨_, _, fun _ => (c_isNaN64 _), ?_⟩) | (with_reducible refine ⟨_, _, _, fun _ => (c_isNaN64 _), ?_⟩) | (with_reducible refine ⟨_, _, _, _, fun _ => (c_isNaN64 _), ?_⟩) | with_reducible refine ⟨fun _ => ?_, fun _ => ?_⟩ | fail))
 all_goals (((try simp only [cmpI] at *); (repeat' split) <;> (first | rfl | (exfalso; omega) | (simp_all; done) | (simp_all; omega))))
theorem c_vNum (n : Int) : FnC Tryz.prog 114 [iD n] (vD (1, n, [])) := by
 refine w114 n ?_
 (try simp only [mk_bs, bs_inj, bs_size, bs_toList, bs_append, byteAt_bs])
 (repeat' (first | with_reducible refine ⟨fun _ => ?_, fun _ => ?_⟩ | fail))
 all_goals (rfl)
theorem c_vStr (s : List UInt8) : FnC Tryz.prog 129 [sD s] (vD (2, 0, s)) := by
 refine w129 (bs s) ?_
 (try simp only [mk_bs, bs_inj, bs_size, bs_toList, bs_append, byteAt_bs])
 (repeat' (first | with_reducible refine ⟨fun _ => ?_, fun _ => ?_⟩ | fail))
 all_goals (rfl)
theorem c_vBytes (s : List UInt8) : FnC Tryz.prog 147 [sD s] (vD (3, 0, s)) := by
 refine w147 (bs s) ?_
 (try simp only [mk_bs, bs_inj, bs_size, bs_toList, bs_append, byteAt_bs])
 (repeat' (first | with_reducible refine ⟨fun _ => ?_, fun _ => ?_⟩ | fail))
 all_goals (rfl)
theorem c_r4Num (n : Int) : FnC Tryz.prog 78 [iD n] (vD (1, n, [])) := by
 refine w78 n ?_
 (try simp only [mk_bs, bs_inj, bs_size, bs_toList, bs_append, byteAt_bs])
 (repeat' (first | with_reducible refine ⟨fun _ => ?_, fun _ => ?_⟩ | fail))
 all_goals (rfl)
theorem c_r4Str (s : List UInt8) : FnC Tryz.prog 79 [sD s] (vD (2, 0, s)) := by
 refine w79 (bs s) ?_
 (try simp only [mk_bs, bs_inj, bs_size, bs_toList, bs_append, byteAt_bs])
 (repeat' (first | with_reducible refine ⟨fun _ => ?_, fun _ => ?_⟩ | fail))
 all_goals (rfl)
theorem c_r4Bytes (s : List UInt8) : FnC Tryz.prog 80 [sD s] (vD (3, 0, s)) := by
 refine w80 (bs s) ?_
 (try simp only [mk_bs, bs_inj, bs_size, bs_toList, bs_append, byteAt_bs])
 (repeat' (first | with_reducible refine ⟨fun _ => ?_, fun _ => ?_⟩ | fail))
 all_goals (rfl)
theorem c_vBool (b : Bool) : FnC Tryz.prog 89 [bD b] (vD (1, if b then 1 else 0, [])) := by
 refine w89 b ?_
 (try simp only [mk_bs, bs_inj, bs_size, bs_toList, bs_append, byteAt_bs])
 (repeat' (first | (with_reducible refine ⟨_, (c_vNum _), ?_⟩) | (with_reducible refine ⟨_, _, (c_vNum _), ?_⟩) | (with_reducible refine ⟨_, _, _, (c_vNum _), ?_⟩) | (with_reducible refine ⟨_, _, _, _, (c_vNum _), ?_⟩) | (with_reducible refine ⟨_, fun _ => (c_vNum _), ?_⟩) | (with_reducible refine ⟨_, _, fun _ => (c_vNum _), ?_⟩) | (with_reducible refine ⟨_, _, _, fun _ => (c_vNum _), ?_⟩) | (with_reducible refine ⟨_, _, _, _, fun _ => (c_vNum _), ?_⟩) | with_reducible refine ⟨fun _ => ?_, fun _ => ?_⟩ | fail))
 all_goals (simp_all)
def bareV (v : V3) : V3 × Bool := if v.1 = 0 then (nul, true) else if v.1 = 1 then ((1, v.2.1, []), true) else if v.1 = 2 ∨ v.1 = 3 then ((v.1, 0, v.2.2), true) else (nul, false)
theorem c_bare (v : V3) : FnC Tryz.prog 130 [vD v] (.tup [vD (bareV v).1, bD (bareV v).2]) := by
 refine w130 v.1 v.2.1 (bs v.2.2) ?_
 (try simp only [mk_bs, bs_inj, bs_size, bs_toList, bs_append, byteAt_bs])
 (repeat' (first | (with_reducible refine ⟨_, (c_vNum _), ?_⟩) | (with_reducible refine ⟨_, _, (c_vNum _), ?_⟩) | (with_reducible refine ⟨_, _, _, (c_vNum _), ?_⟩) | (with_reducible refine ⟨_, _, _, _, (c_vNum _), ?_⟩) | (with_reducible refine ⟨_, fun _ => (c_vNum _), ?_⟩) | (with_reducible refine ⟨_, _, fun _ => (c_vNum _), ?_⟩) | (with_reducible refine ⟨_, _, _, fun _ => (c_vNum _), ?_⟩) | (with_reducible refine ⟨_, _, _, _, fun _ => (c_vNum _), ?_⟩) | with_reducible refine ⟨fun _ => ?_, fun _ => ?_⟩ | fail))
 all_goals (((try simp only [bareV, nul] at *); (repeat' split) <;> (first | rfl | (exfalso; omega) | (simp_all; done) | (simp_all; omega))))
def checkV (v : V3) : Int := if v.1 < 0 ∨ 3 < v.1 ∨ (v.1 ≠ 1 ∧ v.2.1 ≠ 0) ∨ (v.1 < 2 ∧ v.2.2 ≠ []) then 1 else if 4096 < (v.2.2.length : Int) then 3 else 0
theorem bare_check (v : V3) : ((bareV v).2 = true ∧ v = (bareV v).1) ↔ ¬ (v.1 < 0 ∨ 3 < v.1 ∨ (v.1 ≠ 1 ∧ v.2.1 ≠ 0) ∨ (v.1 < 2 ∧ v.2.2 ≠ [])) := by
 obtain ⟨k, n, s⟩ := v
 simp only [bareV, nul]
 by_cases h0 : k = 0
 · subst h0; simp
 by_cases h1 : k = 1
 · subst h1; simp
 by_cases h2 : k = 2
 · subst h2; simp
 by_cases h3 : k = 3
 · subst h3; simp
 simp [h0, h1, h2, h3]
 omega
theorem c_vCheck (v : V3) : FnC Tryz.prog 119 [vD v] (iD (checkV v)) := by
 refine w119 v.1 v.2.1 (bs v.2.2) ?_
 refine ⟨_, _, _, _, c_bare v, ?_⟩
 have hb := bare_check v
 have e : (v.1 = (bareV v).1.1 ∧ v.2.1 = (bareV v).1.2.1 ∧ bs v.2.2 = bs (bareV v).1.2.2 ∧ (true = true)) ↔ v = (bareV v).1 := by
  rw [bs_inj]
  constructor
  · rintro ⟨h1, h2, h3, _⟩
    exact Prod.ext h1 (Prod.ext h2 h3)
  · intro h; rw [← h]; simp
 rw [e, bs_size]
 have e2 : (¬ (bareV v).2 = true ∨ ¬ v = (bareV v).1) ↔ (v.1 < 0 ∨ 3 < v.1 ∨ (v.1 ≠ 1 ∧ v.2.1 ≠ 0) ∨ (v.1 < 2 ∧ v.2.2 ≠ [])) := by
  rw [← Classical.not_and_iff_not_or_not, hb, Classical.not_not]
 rw [e2]
 refine ⟨fun h => ?_, fun h => ⟨fun h2 => ?_, fun h2 => ?_⟩⟩
 · simp only [checkV, h, if_true]
 · simp only [checkV, h, h2, if_true, if_false]
 · simp only [checkV, h, h2, if_false]
theorem c_r4Check (v : V3) : FnC Tryz.prog 70 [vD v] (iD (checkV v)) := by
 refine w70 v.1 v.2.1 (bs v.2.2) ?_
 simp only [mk_bs, bs_inj, bs_size]
 have e2 : (((v.1 < 0 ∨ 3 < v.1) ∨ ¬ v.1 = 1 ∧ ¬ v.2.1 = 0) ∨ v.1 < 2 ∧ ¬ v.2.2 = []) ↔ (v.1 < 0 ∨ 3 < v.1 ∨ (v.1 ≠ 1 ∧ v.2.1 ≠ 0) ∨ (v.1 < 2 ∧ v.2.2 ≠ [])) := by
  simp only [or_assoc, ne_eq]
 rw [e2]
 refine ⟨fun h => ?_, fun h => ⟨fun h2 => ?_, fun h2 => ?_⟩⟩
 · simp only [checkV, h, if_true]
 · simp only [checkV, h, h2, if_true, if_false]
 · simp only [checkV, h, h2, if_false]
theorem c_typed (ty : Int) : FnC Tryz.prog 145 [iD ty] (bD (decide (0 ≤ ty ∧ ty ≤ 3))) := by
 refine w145 ty ?_
 by_cases h1 : 0 ≤ ty <;> by_cases h2 : ty ≤ 3 <;> simp [h1, h2]
theorem c_vTruth (v : V3) : FnC Tryz.prog 116 [vD v] (.tup [bD (v.1 == 1 && !(v.2.1 == 0)), bD (v.1 == 1)]) := by
 refine w116 v.1 v.2.1 (bs v.2.2) ?_
 (try simp only [mk_bs, bs_inj, bs_size, bs_toList, bs_append, byteAt_bs])
 (repeat' (first | with_reducible refine ⟨fun _ => ?_, fun _ => ?_⟩ | fail))
 all_goals (simp_all)
def wordsV (v : V3) : List UInt8 × Bool := if v.1 = 1 then (numL v.2.1, true) else if v.1 = 2 then (v.2.2, true) else ([], false)
theorem c_words (v : V3) (h : I64 v.2.1) : FnC Tryz.prog 128 [vD v] (.tup [sD (wordsV v).1, bD (wordsV v).2]) := by
 refine w128 v.1 v.2.1 (bs v.2.2) ?_
 (try simp only [mk_bs, bs_inj, bs_size, bs_toList, bs_append, byteAt_bs])
 (repeat' (first | (with_reducible refine ⟨_, (c_tNum _ h), ?_⟩) | (with_reducible refine ⟨_, _, (c_tNum _ h), ?_⟩) | (with_reducible refine ⟨_, _, _, (c_tNum _ h), ?_⟩) | (with_reducible refine ⟨_, _, _, _, (c_tNum _ h), ?_⟩) | (with_reducible refine ⟨_, fun _ => (c_tNum _ h), ?_⟩) | (with_reducible refine ⟨_, _, fun _ => (c_tNum _ h), ?_⟩) | (with_reducible refine ⟨_, _, _, fun _ => (c_tNum _ h), ?_⟩) | (with_reducible refine ⟨_, _, _, _, fun _ => (c_tNum _ h), ?_⟩) | with_reducible refine ⟨fun _ => ?_, fun _ => ?_⟩ | fail))
 all_goals (((try simp only [wordsV] at *); (repeat' split) <;> (first | rfl | (exfalso; omega) | (simp_all; done) | (simp_all; omega))))
def textV (v : V3) : List UInt8 := if v.1 = 1 then numL v.2.1 else v.2.2
theorem c_r4Text (v : V3) (h : I64 v.2.1) : FnC Tryz.prog 76 [vD v] (.tup [sD (textV v), bD (v.1 == 1 || v.1 == 2)]) := by
 refine w76 v.1 v.2.1 (bs v.2.2) ?_
 (try simp only [mk_bs, bs_inj, bs_size, bs_toList, bs_append, byteAt_bs])
 (repeat' (first | (with_reducible refine ⟨_, (c_r3Num _ h), ?_⟩) | (with_reducible refine ⟨_, _, (c_r3Num _ h), ?_⟩) | (with_reducible refine ⟨_, _, _, (c_r3Num _ h), ?_⟩) | (with_reducible refine ⟨_, _, _, _, (c_r3Num _ h), ?_⟩) | (with_reducible refine ⟨_, fun _ => (c_r3Num _ h), ?_⟩) | (with_reducible refine ⟨_, _, fun _ => (c_r3Num _ h), ?_⟩) | (with_reducible refine ⟨_, _, _, fun _ => (c_r3Num _ h), ?_⟩) | (with_reducible refine ⟨_, _, _, _, fun _ => (c_r3Num _ h), ?_⟩) | with_reducible refine ⟨fun _ => ?_, fun _ => ?_⟩ | fail))
 all_goals ((simp_all [textV]; done))
def numberV (v : V3) : V3 × Int := if v.1 = 1 then (v, 0) else if v.1 = 2 then (if (readL v.2.2).2 ≠ 0 then (nul, (readL v.2.2).2) else ((1, (readL v.2.2).1, []), 0)) else (nul, 11)
theorem c_number (v : V3) (h : Sz v.2.2) : FnC Tryz.prog 146 [vD v] (.tup [vD (numberV v).1, iD (numberV v).2]) := by
 refine w146 v.1 v.2.1 (bs v.2.2) ?_
 (try simp only [mk_bs, bs_inj, bs_size, bs_toList, bs_append, byteAt_bs])
 (repeat' (first | (with_reducible refine ⟨_, (c_vNum _), ?_⟩) | (with_reducible refine ⟨_, _, (c_vNum _), ?_⟩) | (with_reducible refine ⟨_, _, _, (c_vNum _), ?_⟩) | (with_reducible refine ⟨_, _, _, _, (c_vNum _), ?_⟩) | (with_reducible refine ⟨_, fun _ => (c_vNum _), ?_⟩) | (with_reducible refine ⟨_, _, fun _ => (c_vNum _), ?_⟩) | (with_reducible refine ⟨_, _, _, fun _ => (c_vNum _), ?_⟩) | (with_reducible refine ⟨_, _, _, _, fun _ => (c_vNum _), ?_⟩) | (with_reducible refine ⟨_, (c_tRead _ h), ?_⟩) | (with_reducible refine ⟨_, _, (c_tRead _ h), ?_⟩) | (with_reducible refine ⟨_, _, _, (c_tRead _ h), ?_⟩) | (with_reducible refine ⟨_, _, _, _, (c_tRead _ h), ?_⟩) | (with_reducible refine ⟨_, fun _ => (c_tRead _ h), ?_⟩) | (with_reducible refine ⟨_, _, fun _ => (c_tRead _ h), ?_⟩) | (with_reducible refine ⟨_, _, _, fun _ => (c_tRead _ h), ?_⟩) | (with_reducible refine ⟨_, _, _, _, fun _ => (c_tRead _ h), ?_⟩) | with_reducible refine ⟨fun _ => ?_, fun _ => ?_⟩ | fail))
 all_goals (((try simp only [numberV, nul] at *); (repeat' split) <;> (first | rfl | (exfalso; omega) | (simp_all; done) | (simp_all; omega))))
end Go.Proofs.YtodjimecekaaeaaGreatDoor
namespace Go.Proofs.YtodjimecekaaeaaGreatDoor
open Go.RowKit Go.IntWalk
set_option linter.unusedSimpArgs false
set_option linter.unusedVariables false
def low (c : UInt8) : UInt8 := if 65 ≤ c ∧ c ≤ 90 then c + 32 else c
def foldL (l : List UInt8) : List UInt8 := l.map low
def foldK (l : List UInt8) (k : Nat) : List UInt8 := foldL (l.take k) ++ l.drop k
theorem foldK_len (l : List UInt8) (k : Nat) : (foldK l k).length = l.length := by simp [foldK, foldL]; omega
theorem foldK_at (l : List UInt8) (k : Nat) (h : k < l.length) : (foldK l k)[k]'(by rw [foldK_len]; exact h) = l[k] := by
 unfold foldK
 rw [List.getElem_append_right (by simp [foldL]; omega)]
 simp [foldL, Nat.min_eq_left (Nat.le_of_lt h)]
theorem foldK_zero (l : List UInt8) : foldK l 0 = l := by simp [foldK, foldL]
theorem foldK_all (l : List UInt8) : foldK l l.length = foldL l := by simp [foldK]
theorem foldK_step (l : List UInt8) (k : Nat) (h : k < l.length) : (foldK l k).set k (low l[k]) = foldK l (k + 1) := by
 unfold foldK
 rw [List.set_append_right _ _ (by simp [foldL]; omega)]
 have e : k - (foldL (l.take k)).length = 0 := by simp [foldL]; omega
 rw [e, List.drop_eq_getElem_cons h, List.set_cons_zero, List.take_succ_eq_append_getElem h]
 simp [foldL]
 rw [List.take_succ_eq_append_getElem (by simpa using h)]
 simp
theorem foldK_stay (l : List UInt8) (k : Nat) (h : k < l.length) (hc : low l[k] = l[k]) : foldK l k = foldK l (k + 1) := by
 rw [← foldK_step l k h, hc]
 have := foldK_at l k h
 rw [← this, List.set_getElem_self]
theorem low_stay (c : UInt8) (h : ¬ (65 ≤ (c.toNat : Int) ∧ (c.toNat : Int) ≤ 90)) : low c = c := by
 unfold low
 rw [if_neg]
 rintro ⟨h1, h2⟩
 have h1 : 65 ≤ c.toNat := h1
 have h2 : c.toNat ≤ 90 := h2
 omega
theorem low_up (c : UInt8) (h : 65 ≤ (c.toNat : Int) ∧ (c.toNat : Int) ≤ 90) : ((low c).toNat : Int) = (c.toNat : Int) + 32 := by
 have h1 : 65 ≤ c := by show 65 ≤ c.toNat; omega
 have h2 : c ≤ 90 := by show c.toNat ≤ 90; omega
 unfold low
 rw [if_pos ⟨h1, h2⟩, UInt8.toNat_add]
 simp
 omega
theorem foldL_len (l : List UInt8) : (foldL l).length = l.length := by simp [foldL]
theorem getD_foldK (l : List UInt8) (k : Nat) (h : k < l.length) : (foldK l k).getD k 0 = l.getD k 0 := by
 have := foldK_at l k h
 rw [List.getD_eq_getElem?_getD, List.getD_eq_getElem?_getD, List.getElem?_eq_getElem (by rw [foldK_len]; exact h), this, List.getElem?_eq_getElem h]
theorem getD_at (l : List UInt8) (k : Nat) (h : k < l.length) : l.getD k 0 = l[k] := by
 rw [List.getD_eq_getElem?_getD, List.getElem?_eq_getElem h]; rfl
theorem c_tFold (l : List UInt8) (hs : Sz l) : FnC Tryz.prog 64 [sD l] (sD (foldL l)) := by
 unfold Sz at hs
 refine w64 (bs l) ?_
 intro x1 hx1
 rw [bc_bs] at hx1
 subst hx1
 rw [bc_len]
 refine ⟨fun rows i k => 0 ≤ i ∧ i ≤ l.length ∧ rows = bc (foldK l i.toNat) ∧ k = l.length - i.toNat, ⟨_, by omega, by omega, by rw [Int.toNat_zero, foldK_zero], rfl⟩, ?_⟩
 rintro k rows i ⟨h0, h1, rfl, rfl⟩
 refine ⟨fun hi => ?_, fun hi => ?_⟩
 · have hk : i.toNat < l.length := by omega
   have hk2 : i < ((foldK l i.toNat).length : Int) := by rw [foldK_len]; omega
   rw [bc_at _ _ h0 hk2, getD_foldK l _ hk, i64_in (i + 1) (by omega)]
   refine ⟨by omega, bc_kind _ _ h0 hk2, fun hc => ?_, fun hc => ?_⟩
   · rw [bc_len, foldK_len]
     refine ⟨by omega, by omega, fun x4 hx4 => ?_⟩
     have e := u8_in ((l.getD i.toNat 0).toNat + 97) (by omega)
     rw [e, bc_set (b := low (l.getD i.toNat 0)) (hz := by rw [u8_in _ (by omega), low_up _ hc]; omega), getD_at l _ hk, foldK_step l _ hk] at hx4
     subst hx4
     refine ⟨_, ?_, by omega, by omega, ?_, rfl⟩
     · omega
     · rw [show (i + 1).toNat = i.toNat + 1 by omega]
   · refine ⟨_, ?_, by omega, by omega, ?_, rfl⟩
     · omega
     · rw [show (i + 1).toNat = i.toNat + 1 by omega, foldK_stay l _ hk (by rw [← getD_at l _ hk]; exact low_stay _ hc)]
 · have e : i.toNat = l.length := by omega
   rw [e, foldK_all, bc_len, foldL_len, Int.toNat_natCast, bc_take, bc_str, ← foldL_len l, List.take_length]
   exact ⟨by omega, bc_all _, rfl⟩
end Go.Proofs.YtodjimecekaaeaaGreatDoor
namespace Go.Proofs.YtodjimecekaaeaaGreatDoor
open Go.RowKit Go.IntWalk
set_option linter.unusedSimpArgs false
set_option linter.unusedVariables false
theorem c_r4fold (l : List UInt8) (hs : Sz l) : FnC Tryz.prog 81 [sD l] (sD (foldL l)) := by
 unfold Sz at hs
 refine w81 (bs l) ?_
 intro x1 hx1
 rw [bc_bs] at hx1
 subst hx1
 rw [bc_len]
 refine ⟨fun rows i k => 0 ≤ i ∧ i ≤ l.length ∧ rows = bc (foldK l i.toNat) ∧ k = l.length - i.toNat, ⟨_, by omega, by omega, by rw [Int.toNat_zero, foldK_zero], rfl⟩, ?_⟩
 rintro k rows i ⟨h0, h1, rfl, rfl⟩
 refine ⟨fun hi => ?_, fun hi => ?_⟩
 · have hk : i.toNat < l.length := by omega
   have hk2 : i < ((foldK l i.toNat).length : Int) := by rw [foldK_len]; omega
   rw [bc_at _ _ h0 hk2, getD_foldK l _ hk, i64_in (i + 1) (by omega)]
   refine ⟨by omega, bc_kind _ _ h0 hk2, fun _ => by omega, fun _ => bc_kind _ _ h0 hk2, fun hc => ?_, fun hc => ?_⟩
   · rw [bc_len, foldK_len]
     refine ⟨by omega, bc_kind _ _ h0 hk2, by omega, by omega, fun x4 hx4 => ?_⟩
     have e := u8_in ((l.getD i.toNat 0).toNat - 65) (by omega)
     rw [e, bc_set (b := low (l.getD i.toNat 0)) (hz := by rw [u8_in _ (by omega), low_up _ hc]; omega), getD_at l _ hk, foldK_step l _ hk] at hx4
     subst hx4
     refine ⟨_, ?_, by omega, by omega, ?_, rfl⟩
     · omega
     · rw [show (i + 1).toNat = i.toNat + 1 by omega]
   · refine ⟨_, ?_, by omega, by omega, ?_, rfl⟩
     · omega
     · rw [show (i + 1).toNat = i.toNat + 1 by omega, foldK_stay l _ hk (by rw [← getD_at l _ hk]; exact low_stay _ hc)]
 · have e : i.toNat = l.length := by omega
   rw [e, foldK_all, bc_len, foldL_len, Int.toNat_natCast, bc_take, bc_str, ← foldL_len l, List.take_length]
   exact ⟨by omega, bc_all _, rfl⟩
theorem cb_eq : ∀ (a b : List UInt8), Lib.compareBytes a b = if Op.bytesLess a b = true then -1 else if a = b then 0 else 1
 | [], [] => rfl
 | [], _ :: _ => rfl
 | _ :: _, [] => rfl
 | a :: l, b :: m => by
  have ih := cb_eq l m
  unfold Lib.compareBytes Op.bytesLess
  by_cases h1 : a < b
  · simp [h1]
  · by_cases h2 : b < a
    · have h3 : a ≠ b := fun e => by subst e; exact h1 h2
      simp [h1, h2, h3]
    · have h3 : a = b := by
       apply UInt8.toNat_inj.1
       have h1 : ¬ a.toNat < b.toNat := h1
       have h2 : ¬ b.toNat < a.toNat := h2
       omega
      subst h3
      simp [h1, ih]
def cmpV (a b : V3) (coll : Int) : Int :=
 if a.1 ≠ b.1 then cmpI a.1 b.1 else if a.1 = 1 then cmpI a.2.1 b.2.1
 else if a.1 = 2 then (if coll = 1 then Lib.compareBytes (foldL a.2.2) (foldL b.2.2) else Lib.compareBytes a.2.2 b.2.2)
 else if a.1 = 3 then Lib.compareBytes a.2.2 b.2.2 else 0
theorem c_vCompare (a b : V3) (coll : Int) (ha : Sz a.2.2) (hb : Sz b.2.2) : FnC Tryz.prog 33 [vD a, vD b, iD coll] (iD (cmpV a b coll)) := by
 refine w33 a.1 a.2.1 (bs a.2.2) b.1 b.2.1 (bs b.2.2) coll ?_
 (try simp only [mk_bs, bs_inj, bs_size, bs_toList, bs_append, byteAt_bs])
 (repeat' (first | (with_reducible refine ⟨_, (c_tFold _ ha), ?_⟩) | (with_reducible refine ⟨_, _, (c_tFold _ ha), ?_⟩) | (with_reducible refine ⟨_, _, _, (c_tFold _ ha), ?_⟩) | (with_reducible refine ⟨_, _, _, _, (c_tFold _ ha), ?_⟩) | (with_reducible refine ⟨_, fun _ => (c_tFold _ ha), ?_⟩) | (with_reducible refine ⟨_, _, fun _ => (c_tFold _ ha), ?_⟩) | (with_reducible refine ⟨_, _, _, fun _ => (c_tFold _ ha), ?_⟩) | (with_reducible refine ⟨_, _, _, _, fun _ => (c_tFold _ ha), ?_⟩) | (with_reducible refine ⟨_, (c_tFold _ hb), ?_⟩) | (with_reducible refine ⟨_, _, (c_tFold _ hb), ?_⟩) | (with_reducible refine ⟨_, _, _, (c_tFold _ hb), ?_⟩) | (with_reducible refine ⟨_, _, _, _, (c_tFold _ hb), ?_⟩) | (with_reducible refine ⟨_, fun _ => (c_tFold _ hb), ?_⟩) | (with_reducible refine ⟨_, _, fun _ => (c_tFold _ hb), ?_⟩) | (with_reducible refine ⟨_, _, _, fun _ => (c_tFold _ hb), ?_⟩) | (with_reducible refine ⟨_, _, _, _, fun _ => (c_tFold _ hb), ?_⟩) | (with_reducible refine ⟨_, (c_compare _ _), ?_⟩) | (with_reducible refine ⟨_, _, (c_compare _ _), ?_⟩) | (with_reducible refine ⟨_, _, _, (c_compare _ _), ?_⟩) | (with_reducible refine ⟨_, _, _, _, (c_compare _ _), ?_⟩) | (with_reducible refine ⟨_, fun _ => (c_compare _ _), ?_⟩) | (with_reducible refine ⟨_, _, fun _ => (c_compare _ _), ?_⟩) | (with_reducible refine ⟨_, _, _, fun _ => (c_compare _ _), ?_⟩) | (with_reducible refine ⟨_, _, _, _, fun _ => (c_compare _ _), ?_⟩) | (with_reducible refine ⟨_, (c_compare64 _ _), ?_⟩) | (with_reducible refine ⟨_, _, (c_compare64 _ _), ?_⟩) | (with_reducible refine ⟨_, _, _, (c_compare64 _ _), ?_⟩) | (with_reducible refine ⟨_, _, _, _, (c_compare64 _ _), ?_⟩) | (with_reducible refine ⟨_, fun _ => (c_compare64 _ _), ?_⟩) | (with_reducible refine ⟨_, _, fun _ => (c_compare64 _ _), ?_⟩) | (with_reducible refine ⟨_, _, _, fun _ => (c_compare64 _ _), ?_⟩) | (with_reducible refine ⟨_, _, _, _, fun _ => (c_compare64 _ _), ?_⟩) | (with_reducible refine ⟨_, (c_strCompare _ _), ?_⟩) | (with_reducible refine ⟨_, _, (c_strCompare _ _), ?_⟩) | (with_reducible refine ⟨_, _, _, (c_strCompare _ _), ?_⟩) | (with_reducible refine ⟨_, _, _, _, (c_strCompare _ _), ?_⟩) | (with_reducible refine ⟨_, fun _ => (c_strCompare _ _), ?_⟩) | (with_reducible refine ⟨_, _, fun _ => (c_strCompare _ _), ?_⟩) | (with_reducible refine ⟨_, _, _, fun _ => (c_strCompare _ _), ?_⟩) | (with_reducible refine ⟨_, _, _, _, fun _ => (c_strCompare _ _), ?_⟩) | with_reducible refine ⟨fun _ => ?_, fun _ => ?_⟩ | fail))
 all_goals (((try simp only [cmpV] at *); (repeat' split) <;> (first | rfl | (exfalso; omega) | (simp_all; done) | (simp_all; omega))))
theorem c_r4Compare (a b : V3) (coll : Int) (ha : Sz a.2.2) (hb : Sz b.2.2) : FnC Tryz.prog 43 [vD a, vD b, iD coll] (iD (cmpV a b coll)) := by
 obtain ⟨ka, na, sa⟩ := a
 obtain ⟨kb, nb, sb⟩ := b
 refine w43 ka na (bs sa) kb nb (bs sb) coll ?_
 have leaf : ∀ x y : List UInt8, (Op.bytesLess x y = true → iD (-1) = iD (Lib.compareBytes x y)) ∧ (¬ Op.bytesLess x y = true → (¬ (Op.bytesLess x y = true ∨ x = y) → iD 1 = iD (Lib.compareBytes x y)) ∧ (¬ ¬ (Op.bytesLess x y = true ∨ x = y) → iD 0 = iD (Lib.compareBytes x y))) := fun x y => by
  rw [cb_eq]
  refine ⟨fun h => by simp [h], fun h => ⟨fun h2 => ?_, fun h2 => ?_⟩⟩
  · have : ¬ x = y := fun e => h2 (.inr e)
    simp [h, this]
  · have : x = y := (Classical.not_not.1 h2).resolve_left h
    simp [this] at h ⊢
    exact h
 have leafI : ∀ x y : Int, (x < y → iD (-1) = iD (cmpI x y)) ∧ (¬ x < y → (y < x → iD 1 = iD (cmpI x y)) ∧ (¬ y < x → iD 0 = iD (cmpI x y))) := fun x y => by
  unfold cmpI
  refine ⟨fun h => by rw [if_pos h], fun h => ⟨fun h2 => by rw [if_neg h, if_pos h2], fun h2 => by rw [if_neg h, if_neg h2]⟩⟩
 simp only [bs_inj, bs_toList]
 by_cases hf : (ka = 2 ∧ kb = 2) ∧ coll = 1
 · obtain ⟨⟨rfl, rfl⟩, rfl⟩ := hf
   refine ⟨fun _ => ⟨_, c_r4fold sa ha, _, c_r4fold sb hb, ?_⟩, fun h => absurd ⟨⟨rfl, rfl⟩, rfl⟩ h⟩
   simp only [bs_inj, bs_toList]
   refine ⟨fun h => absurd h.2 (by decide), fun _ => ⟨fun _ => ?_, fun h => absurd ⟨trivial, .inl trivial⟩ h⟩⟩
   exact leaf _ _
 · refine ⟨fun h => absurd h hf, fun _ => ?_⟩
   by_cases hk : ka = kb
   · subst hk
     by_cases h1 : ka = 1
     · subst h1
       refine ⟨fun _ => ⟨fun h => absurd h.2 (by decide), fun _ => ?_⟩, fun h => absurd ⟨rfl, rfl⟩ h⟩
       exact leafI _ _
     · refine ⟨fun h => absurd h.2 h1, fun _ => ⟨fun h => ?_, fun h => ?_⟩⟩
       · have e : cmpV (ka, na, sa) (ka, nb, sb) coll = Lib.compareBytes sa sb := by
          rcases h.2 with h2 | h2
          · subst h2
            have : ¬ coll = 1 := fun e => hf ⟨⟨rfl, rfl⟩, e⟩
            simp [cmpV, this]
          · subst h2; simp [cmpV]
         rw [e]
         exact leaf _ _
       · have e : cmpV (ka, na, sa) (ka, nb, sb) coll = 0 := by
          have h2 : ¬ ka = 2 := fun e => h ⟨rfl, .inl e⟩
          have h3 : ¬ ka = 3 := fun e => h ⟨rfl, .inr e⟩
          simp [cmpV, h1, h2, h3]
         rw [e]
         refine ⟨fun h => absurd h (by omega), fun _ => ⟨fun h => absurd h (by omega), fun _ => rfl⟩⟩
   · have e : cmpV (ka, na, sa) (kb, nb, sb) coll = cmpI ka kb := by simp [cmpV, hk]
     rw [e]
     refine ⟨fun h => absurd h.1 hk, fun _ => ⟨fun h => absurd h.1 hk, fun _ => ?_⟩⟩
     exact leafI _ _
end Go.Proofs.YtodjimecekaaeaaGreatDoor
namespace Go.Proofs.YtodjimecekaaeaaGreatDoor
open Go.RowKit Go.IntWalk
set_option linter.unusedSimpArgs false
set_option linter.unusedVariables false
theorem i64w (n : Int) : IntKind.wrap .i64 n = wrap64 n := i64_left n
def fitR (s : Int) : V3 × Int := if fit64 s then ((1, s, []), 0) else (nul, 9)
theorem c_fits (n : Int) (ok : Bool) : FnC Tryz.prog 125 [iD n, bD ok] (.tup [vD (if ok then (1, n, []) else nul), iD (if ok then 0 else 9)]) := by
 refine w125 n ok ?_
 (try simp only [mk_bs, bs_inj, bs_size, bs_toList, bs_append, byteAt_bs])
 (repeat' (first | (with_reducible refine ⟨_, (c_vNum _), ?_⟩) | (with_reducible refine ⟨_, _, (c_vNum _), ?_⟩) | (with_reducible refine ⟨_, _, _, (c_vNum _), ?_⟩) | (with_reducible refine ⟨_, _, _, _, (c_vNum _), ?_⟩) | (with_reducible refine ⟨_, fun _ => (c_vNum _), ?_⟩) | (with_reducible refine ⟨_, _, fun _ => (c_vNum _), ?_⟩) | (with_reducible refine ⟨_, _, _, fun _ => (c_vNum _), ?_⟩) | (with_reducible refine ⟨_, _, _, _, fun _ => (c_vNum _), ?_⟩) | with_reducible refine ⟨fun _ => ?_, fun _ => ?_⟩ | fail))
 all_goals (simp_all)
theorem c_fits' (s : Int) : FnC Tryz.prog 125 [iD (wrap64 s), bD (fit64 s)] (.tup [vD (fitR s).1, iD (fitR s).2]) := by
 have := c_fits (wrap64 s) (fit64 s)
 cases h : fit64 s
 · rw [h] at this
   simpa [fitR, h] using this
 · rw [h] at this
   rw [wrap64_fit s ((fit64_iff s).1 h)] at this ⊢
   simpa [fitR, h] using this
theorem c_product (a b : Int) (ha : I64 a) (hb : I64 b) : FnC Tryz.prog 126 [iD a, iD b] (.tup [iD (wrap64 (a * b)), bD (fit64 (a * b))]) := by
 refine w126 a b ?_
 simp only [i64w]
 refine ⟨fun h => ?_, fun h => ⟨fun h1 => ?_, fun h1 => ⟨?_, ?_⟩⟩⟩
 · have : a * b = 0 := by rcases h with h | h <;> subst h <;> simp
   have e1 : wrap64 0 = 0 := wrap64_fit 0 (by omega)
   have e2 : fit64 0 = true := by decide
   rw [this, e1, e2]
 · have e : (if (!a == -9223372036854775808) = true then !b == -9223372036854775808 else false) = fit64 (a * b) := ?_
   · rw [e]
   apply bool_eq
   rw [fit64_iff]
   rcases h1 with h1 | h1
   · subst h1
     rw [Int.neg_mul, Int.one_mul]
     simp
     omega
   · subst h1
     rw [Int.mul_neg, Int.mul_one]
     by_cases hh : a = -9223372036854775808
     · subst hh; simp
     · simp [hh]; omega
 · omega
 · rw [mul_back a b (by omega) (by omega) hb]
def divR (op : List UInt8) (x y : Int) : V3 × Int := if y = 0 then (nul, 0) else if op = [37] then ((1, x.tmod y, []), 0) else fitR (x.tdiv y)
theorem fit_div (x y : Int) (hx : I64 x) (hy : y ≠ 0) : fit64 (x.tdiv y) = (if (!(x == -9223372036854775808)) then true else (!(y == -1))) := by
 apply bool_eq
 rw [fit64_iff]
 by_cases h : y = -1
 · subst h
   rw [tdiv_m1]
   by_cases hh : x = -9223372036854775808
   · subst hh; simp
   · simp [hh]; omega
 · have := tdiv_small x y hx h
   simp [h, this]
theorem c_divide (op : List UInt8) (x y : Int) (hx : I64 x) (hy : I64 y) : FnC Tryz.prog 127 [sD op, iD x, iD y] (.tup [vD (divR op x y).1, iD (divR op x y).2]) := by
 refine w127 (bs op) x y ?_
 simp only [mk_bs, bs_inj, i64w]
 refine ⟨fun h => by simp [divR, h, bs], fun h => ⟨fun h1 => ⟨_, _, _, c_vNum _, ?_⟩, fun h1 => ⟨fun h2 => ⟨h, _, _, _, c_vNum _, ?_⟩, fun h2 => ⟨h, _, _, _, _, ?_, rfl⟩⟩⟩⟩
 · obtain ⟨rfl, rfl⟩ := h1
   simp [divR, tmod_m1]
 · subst h2
   simp [divR, h]
 · have := c_fits' (x.tdiv y)
   rw [fit_div x y hx h] at this
   have e : divR op x y = fitR (x.tdiv y) := by simp [divR, h, h2]
   rw [e]
   exact this
def opOk (op : List UInt8) : Bool := op == [43] || op == [45] || op == [42] || op == [47] || op == [37]
def arithV (op : List UInt8) (a b : V3) : V3 × Int :=
 if opOk op = true then (if a.1 = 0 ∨ b.1 = 0 then (nul, 0) else if a.1 ≠ 1 ∨ b.1 ≠ 1 then (nul, 11) else
  if op = [43] then fitR (a.2.1 + b.2.1) else if op = [45] then fitR (a.2.1 - b.2.1) else if op = [42] then fitR (a.2.1 * b.2.1) else divR op a.2.1 b.2.1)
 else (nul, 1)
theorem c_vArith (op : List UInt8) (a b : V3) (ha : I64 a.2.1) (hb : I64 b.2.1) : FnC Tryz.prog 113 [sD op, vD a, vD b] (.tup [vD (arithV op a b).1, iD (arithV op a b).2]) := by
 refine w113 (bs op) a.1 a.2.1 (bs a.2.2) b.1 b.2.1 (bs b.2.2) ?_
 simp only [mk_bs, bs_inj, bs_size, i64w]
 have hok : opOk op = (decide ((op.length : Int) = 1) && ([43, 45, 42, 47, 37] : List UInt8).contains (op.getD 0 0)) := by
  match op with
  | [] => rfl
  | [c] =>
   apply bool_eq
   simp only [opOk, List.contains_cons, Bool.or_eq_true, beq_iff_eq, List.cons.injEq, and_true, List.length_singleton, Bool.and_eq_true, decide_eq_true_eq, List.getD_cons_zero]
   simp [or_assoc]
  | _ :: _ :: _ =>
   have h1 : ∀ n : Nat, ¬ ((n : Int) + 1 + 1 = 1) := fun n => by omega
   simp [opOk, h1]
 have hcall : (op.length : Int) = 1 → FnC Tryz.prog 124 [sD [43, 45, 42, 47, 37], sD op] (bD (([43, 45, 42, 47, 37] : List UInt8).contains (op.getD 0 0))) := fun h => by
  match op, h with
  | [c], _ => exact c_contains _ c
  | [], h => simp at h
  | _ :: _ :: r, h => simp at h; omega
 refine ⟨_, hcall, fun h => ?_, fun h => ?_⟩
 · have : opOk op = false := by
    rw [hok]
    rcases h with h | h
    · simp [h]
    · rw [Bool.eq_false_iff.2 h, Bool.and_false]
   simp [arithV, this, bs]
 have hk : opOk op = true := by
  rw [hok]
  have h1 : (op.length : Int) = 1 := Classical.byContradiction fun hc => h (.inl hc)
  have h2 := Classical.byContradiction fun hc => h (.inr hc)
  rw [h2]
  simp [h1]
 simp only [arithV, hk, if_true]
 refine ⟨fun h => by simp only [h, if_true], fun h => ⟨fun h1 => by simp only [h, if_false, h1, ne_eq, if_true], fun h1 => ?_⟩⟩
 simp only [h, if_false, h1, ne_eq]
 refine ⟨fun h => ?_, fun h => ⟨fun h1 => ?_, fun h1 => ⟨fun h2 => ?_, fun h2 => ?_⟩⟩⟩
 · simp only [h, if_true]
   rw [add_up _ _ ha hb]
   exact ⟨_, _, _, _, c_fits' _, rfl⟩
 · simp only [h, h1, if_true, if_false]
   rw [sub_up _ _ ha hb]
   exact ⟨_, _, _, _, c_fits' _, rfl⟩
 · simp only [h, h1, h2, if_true, if_false]
   exact ⟨_, _, c_product _ _ ha hb, _, _, _, _, c_fits' _, rfl⟩
 · simp only [h, h1, h2, if_false]
   exact ⟨_, _, _, _, c_divide _ _ _ ha hb, rfl⟩
theorem c_r4Arith (op : List UInt8) (a b : V3) (ha : I64 a.2.1) (hb : I64 b.2.1) : FnC Tryz.prog 67 [sD op, vD a, vD b] (.tup [vD (arithV op a b).1, iD (arithV op a b).2]) := by
 refine w67 (bs op) a.1 a.2.1 (bs a.2.2) b.1 b.2.1 (bs b.2.2) ?_
 simp only [mk_bs, bs_inj, bs_size, i64w]
 have hok : opOk op = true ↔ ¬ ((((¬ op = [43] ∧ ¬ op = [45]) ∧ ¬ op = [42]) ∧ ¬ op = [47]) ∧ ¬ op = [37]) := by
  simp only [opOk, Bool.or_eq_true, beq_iff_eq]
  constructor
  · rintro ((((h | h) | h) | h) | h) <;> subst h <;> decide
  · intro h
    apply Classical.byContradiction
    intro hc
    simp only [not_or] at hc
    exact h hc
 refine ⟨fun h => ?_, fun h => ?_⟩
 · have : opOk op = false := by rw [Bool.eq_false_iff]; exact fun hc => hok.1 hc h
   simp [arithV, this, bs]
 have hk := hok.2 h
 simp only [arithV, hk, if_true]
 refine ⟨fun h => by simp only [h, if_true], fun h => ⟨fun h1 => by simp only [h, if_false, h1, ne_eq, if_true], fun h1 => ?_⟩⟩
 simp only [h, if_false, h1, ne_eq]
 have fin : ∀ s : Int, (fit64 s = true → ∃ x7 x8 x9, FnC Tryz.prog 78 [iD (wrap64 s)] (.agg [.v (.int .i64 x7), .v (.int .i64 x8), .v (.string x9)]) ∧ DV.tup [.agg [.v (.int .i64 x7), .v (.int .i64 x8), .v (.string x9)], iD 0] = .tup [vD (fitR s).1, iD (fitR s).2]) := fun s hs => by
  rw [wrap64_fit s ((fit64_iff s).1 hs)]
  refine ⟨_, _, _, c_r4Num _, ?_⟩
  simp [fitR, hs]
 have fin2 : ∀ s : Int, ¬ fit64 s = true → DV.tup [.agg [.v (.int .i64 0), .v (.int .i64 0), .v (.string (bs []))], iD 9] = .tup [vD (fitR s).1, iD (fitR s).2] := fun s hs => by
  simp [fitR, hs]
 refine ⟨fun h => ?_, fun h => ⟨fun h1 => ?_, fun h1 => ⟨fun h2 => ?_, fun h2 => ?_⟩⟩⟩
 · simp only [h, if_true]
   have e : (decide (0 ≤ b.2.1) = decide (a.2.1 ≤ wrap64 (a.2.1 + b.2.1))) ↔ fit64 (a.2.1 + b.2.1) = true := by rw [← ge_up _ _ ha hb, beq_iff_eq]
   rw [e]
   exact ⟨fin _, fin2 _⟩
 · simp only [h, h1, if_true, if_false]
   have e : (decide (0 ≤ b.2.1) = decide (wrap64 (a.2.1 - b.2.1) ≤ a.2.1)) ↔ fit64 (a.2.1 - b.2.1) = true := by rw [← le_up _ _ ha hb, beq_iff_eq]
   rw [e]
   exact ⟨fin _, fin2 _⟩
 · simp only [h, h1, h2, if_true, if_false]
   have e : (a.2.1 = 0 ∨ (wrap64 ((wrap64 (a.2.1 * b.2.1)).tdiv a.2.1) = b.2.1 ∧ (¬ a.2.1 = -1 ∨ ¬ b.2.1 = -9223372036854775808))) ↔ fit64 (a.2.1 * b.2.1) = true := by
    by_cases h0 : a.2.1 = 0
    · simp [h0]; decide
    by_cases h1 : a.2.1 = -1
    · rw [h1, fit64_iff]
      rw [Int.neg_mul, Int.one_mul, tdiv_m1]
      have hb' := hb
      unfold wrap64
      omega
    · have := mul_back b.2.1 a.2.1 h0 h1 ha
      rw [Int.mul_comm b.2.1 a.2.1] at this
      rw [← this, beq_iff_eq]
      simp [h0, h1]
   rw [e]
   exact ⟨fun h => h, fin _, fin2 _⟩
 · simp only [h, h1, h2, if_false]
   refine ⟨fun h => ?_, fun h => ⟨fun h1 => ?_, fun h1 => ?_⟩⟩
   · subst h
     refine ⟨fun h => by simp [divR, h], fun h => ⟨fun h1 => ⟨h, ?_⟩, fun h1 => ?_⟩⟩
     · have e : divR [47] a.2.1 b.2.1 = fitR (a.2.1.tdiv b.2.1) := by simp [divR, h]
       rw [e]
       refine fin _ ?_
       rw [fit_div _ _ ha h]
       rcases h1 with h1 | h1
       · simp [h1]
       · simp [h1]
     · have e : divR [47] a.2.1 b.2.1 = fitR (a.2.1.tdiv b.2.1) := by simp [divR, h]
       rw [e]
       refine fin2 _ ?_
       rw [fit_div _ _ ha h]
       simp only [not_or, Classical.not_not] at h1
       simp [h1.1, h1.2]
   · subst h1
     refine ⟨fun h => by simp [divR, h], fun h => ⟨fun h1 => ⟨_, _, _, c_r4Num _, ?_⟩, fun h1 => ⟨h, _, _, _, c_r4Num _, ?_⟩⟩⟩
     · rw [h1]; simp [divR, tmod_m1]
     · simp [divR, h]
   · exfalso
     simp only [opOk, Bool.or_eq_true, beq_iff_eq] at hk
     simp_all
def joinV2 (a b : V3) : V3 × Int := if a.1 = 0 ∨ b.1 = 0 then (nul, 0) else if ¬ (a.1 = 1 ∨ a.1 = 2) ∨ ¬ (b.1 = 1 ∨ b.1 = 2) then (nul, 11)
 else if 4096 < (textV a).length + (textV b).length then (nul, 3) else ((2, 0, textV a ++ textV b), 0)
theorem wordsV_eq (v : V3) : wordsV v = if v.1 = 1 ∨ v.1 = 2 then (textV v, true) else ([], false) := by
 unfold wordsV textV
 by_cases h1 : v.1 = 1
 · simp [h1]
 · by_cases h2 : v.1 = 2 <;> simp [h1, h2]
theorem textV_sz (v : V3) (h : I64 v.2.1) (hs : Sz v.2.2) : (textV v).length ≤ 9223372036854775807 := by
 unfold textV
 split
 · have := numL_len v.2.1 h; omega
 · exact hs
theorem c_vJoin (a b : V3) (ha : I64 a.2.1) (hb : I64 b.2.1) (sa : Sz a.2.2) (sb : Sz b.2.2) : FnC Tryz.prog 115 [vD a, vD b] (.tup [vD (joinV2 a b).1, iD (joinV2 a b).2]) := by
 refine w115 a.1 a.2.1 (bs a.2.2) b.1 b.2.1 (bs b.2.2) ?_
 simp only [mk_bs]
 refine ⟨fun h => by simp only [joinV2, h, if_true], fun h => ⟨_, _, c_words a ha, _, _, c_words b hb, ?_⟩⟩
 simp only [joinV2, h, if_false]
 rw [wordsV_eq, wordsV_eq]
 have l1 := textV_sz a ha sa
 have l2 := textV_sz b hb sb
 by_cases ka : a.1 = 1 ∨ a.1 = 2
 rotate_left
 · simp only [ka, if_false, not_false_eq_true, true_or, if_true]
   exact ⟨fun _ => trivial, fun h => absurd (.inl (by simp)) h⟩
 by_cases kb : b.1 = 1 ∨ b.1 = 2
 rotate_left
 · simp only [kb, if_false, not_false_eq_true, or_true, if_true]
   exact ⟨fun _ => trivial, fun h => absurd (.inr (by simp)) h⟩
 simp only [ka, kb, if_true, not_true, or_self, if_false, bs_size, bs_append]
 refine ⟨fun h => h.elim, fun _ => ?_⟩
 by_cases hl : (textV a).length ≤ 4096
 · rw [i64_in _ (by omega)]
   refine ⟨fun h => by rw [if_pos (by omega)], fun h => ⟨by omega, _, _, _, c_vStr _, ?_⟩⟩
   rw [if_neg (by omega)]
 · refine ⟨fun h => by rw [if_pos (by omega)], fun h => absurd (.inl (by omega)) h⟩
theorem c_r4Join (a b : V3) (ha : I64 a.2.1) (hb : I64 b.2.1) (sa : Sz a.2.2) (sb : Sz b.2.2) : FnC Tryz.prog 68 [vD a, vD b] (.tup [vD (joinV2 a b).1, iD (joinV2 a b).2]) := by
 refine w68 a.1 a.2.1 (bs a.2.2) b.1 b.2.1 (bs b.2.2) ?_
 simp only [mk_bs]
 refine ⟨fun h => by simp only [joinV2, h, if_true], fun h => ⟨_, _, c_r4Text a ha, _, _, c_r4Text b hb, ?_⟩⟩
 simp only [joinV2, h, if_false]
 have l1 := textV_sz a ha sa
 have l2 := textV_sz b hb sb
 simp only [Bool.or_eq_true, beq_iff_eq, bs_size, bs_append]
 refine ⟨fun h => by rw [if_pos h], fun h => ?_⟩
 rw [if_neg h]
 by_cases hl : (textV a).length ≤ 4096
 · rw [i64_in _ (by omega)]
   refine ⟨fun h => by rw [if_pos (by omega)], fun h => ⟨by omega, _, _, _, c_r4Str _, ?_⟩⟩
   rw [if_neg (by omega)]
 · refine ⟨fun h => by rw [if_pos (by omega)], fun h => absurd (.inl (by omega)) h⟩
def castV (v : V3) (ty : Int) : V3 × Int :=
 if ty < 0 ∨ 3 < ty ∨ v.1 < 0 ∨ 3 < v.1 then (nul, 1) else if ty = 0 ∨ v.1 = 0 ∨ ty = v.1 then (v, 0)
 else if ty = 1 then numberV v else ((ty, 0, textV v), 0)
theorem c_vCast (v : V3) (ty : Int) (h : I64 v.2.1) (hs : Sz v.2.2) : FnC Tryz.prog 122 [vD v, iD ty] (.tup [vD (castV v ty).1, iD (castV v ty).2]) := by
 refine w122 v.1 v.2.1 (bs v.2.2) ty ?_
 simp only [mk_bs]
 refine ⟨_, _, _, _, c_bare v, _, c_typed ty, ?_⟩
 have hb : (bareV v).2 = decide (0 ≤ v.1 ∧ v.1 ≤ 3) := by
  apply bool_eq
  rw [decide_eq_true_eq]
  simp only [bareV]
  repeat' split
  all_goals simp
  all_goals omega
 have hb0 : (0 ≤ v.1 ∧ v.1 ≤ 3) → ((bareV v).1.1 = 0 ↔ v.1 = 0) := fun h => by
  simp only [bareV]
  repeat' split
  all_goals simp_all
  omega
 rw [hb]
 simp only [decide_eq_true_eq]
 refine ⟨fun h => ?_, fun h => ?_⟩
 · have : ty < 0 ∨ 3 < ty ∨ v.1 < 0 ∨ 3 < v.1 := by omega
   simp only [castV, this, if_true]
 have h1 : ¬ (ty < 0 ∨ 3 < ty ∨ v.1 < 0 ∨ 3 < v.1) := by omega
 rw [hb0 (by omega)]
 simp only [castV, h1, if_false]
 refine ⟨fun h => ?_, fun h => ⟨fun h2 => ?_, fun h2 => ⟨fun h3 => ?_, fun h3 => ?_⟩⟩⟩
 · rw [if_pos (by omega)]
 · subst h2
   refine ⟨_, _, _, _, c_number v hs, ?_⟩
   by_cases hv : v.1 = 1
   · rw [if_pos (by omega)]; simp [numberV, hv]
   · rw [if_neg (by omega), if_pos rfl]
 · rw [if_pos (by omega)]
 rw [if_neg (by omega), if_neg h2]
 refine ⟨_, _, c_words v ‹_›, ?_⟩
 rw [wordsV_eq]
 have ht : ¬ (v.1 = 1 ∨ v.1 = 2) → textV v = v.2.2 := fun h => by unfold textV; rw [if_neg (fun e => h (.inl e))]
 by_cases hv : v.1 = 1 ∨ v.1 = 2
 · simp only [hv, if_true, not_true, false_implies, true_and, not_false_eq_true, true_implies]
   refine ⟨fun h => ⟨_, _, _, c_vStr _, by rw [h]⟩, fun h => ⟨_, _, _, c_vBytes _, ?_⟩⟩
   have : ty = 3 := by omega
   rw [this]
 · rw [ht hv]
   simp only [hv, if_false, Bool.false_eq_true, not_false_eq_true, true_implies, not_true, false_implies, and_true]
   refine ⟨fun h => ⟨_, _, _, c_vStr _, by rw [h]⟩, fun h => ⟨_, _, _, c_vBytes _, ?_⟩⟩
   have : ty = 3 := by omega
   rw [this]
theorem c_r4Cast (v : V3) (ty : Int) (h : I64 v.2.1) (hs : Sz v.2.2) : FnC Tryz.prog 42 [vD v, iD ty] (.tup [vD (castV v ty).1, iD (castV v ty).2]) := by
 refine w42 v.1 v.2.1 (bs v.2.2) ty ?_
 simp only [mk_bs]
 refine ⟨fun h => ?_, fun h => ⟨_, _, c_r4Text v ‹_›, ?_⟩⟩
 · rw [castV, if_pos (by omega)]
 rw [castV, if_neg (by omega)]
 simp only [Bool.or_eq_true, beq_iff_eq]
 refine ⟨fun h => ?_, fun h => ⟨fun h2 => ?_, fun h2 => ⟨fun h3 => ?_, fun h3 => ⟨fun h4 => ?_, fun h4 => ⟨fun h5 => ?_, fun h5 => ?_⟩⟩⟩⟩⟩
 · rw [if_pos (by omega)]
 · rw [if_neg (by omega), if_pos h2.1]; simp [numberV, h2.2]
 · rw [if_neg (by omega), if_pos h3]
   have hv : v.1 = 2 := by omega
   refine ⟨_, _, c_r3Read _ hs, fun h => ?_, fun h => ⟨_, _, _, c_r4Num _, ?_⟩⟩
   · simp [numberV, hv, h]
   · simp [numberV, hv, h]
 · rw [if_neg (by omega), if_neg h3]
   refine ⟨_, _, _, c_r4Str _, ?_⟩
   simp only [textV]
   rw [if_neg (by omega), h4.1]
 · rw [if_neg (by omega), if_neg h3]
   refine ⟨_, _, _, c_r4Str _, ?_⟩
   rw [h5]
 · rw [if_neg (by omega), if_neg h3]
   refine ⟨_, _, _, c_r4Bytes _, ?_⟩
   have : ty = 3 := by omega
   rw [this]
end Go.Proofs.YtodjimecekaaeaaGreatDoor
namespace Go.Proofs.YtodjimecekaaeaaGreatDoor
open Go.RowKit Go.IntWalk
set_option linter.unusedSimpArgs false
set_option linter.unusedVariables false
def vc (L : List V3) : List (List CV) := L.map fun v => [.v (.int .i64 v.1), .v (.int .i64 v.2.1), .v (.string (bs v.2.2))]
theorem vc_len (L : List V3) : (vc L).length = L.length := by simp [vc]
theorem vc_sz (L : List V3) : ∀ el ∈ vc L, el.length = 3 := by
 intro el h
 simp only [vc, List.mem_map] at h
 obtain ⟨v, _, rfl⟩ := h
 rfl
theorem vc_drop (L : List V3) (n : Nat) : (vc L).drop n = vc (L.drop n) := by simp [vc]
theorem vc_get (L : List V3) (i : Nat) (h : i < L.length) : (vc L).getD i [] = [.v (.int .i64 (L.getD i nul).1), .v (.int .i64 (L.getD i nul).2.1), .v (.string (bs (L.getD i nul).2.2))] := by simp [vc, h]
theorem vc_k (L : List V3) (i : Int) (h0 : 0 ≤ i) (h : i < L.length) : [4, 4, 10] = ((((vc L).getD i.toNat []).drop 0).take 3).map kindC := by rw [vc_get L _ (by omega)]; rfl
theorem vc_k0 (L : List V3) (i : Int) (h0 : 0 ≤ i) (h : i < L.length) : [4] = ((((vc L).getD i.toNat []).drop 0).take 1).map kindC := by rw [vc_get L _ (by omega)]; rfl
theorem vc_k1 (L : List V3) (i : Int) (h0 : 0 ≤ i) (h : i < L.length) : [4] = ((((vc L).getD i.toNat []).drop 1).take 1).map kindC := by rw [vc_get L _ (by omega)]; rfl
theorem vc_k2 (L : List V3) (i : Int) (h0 : 0 ≤ i) (h : i < L.length) : [10] = ((((vc L).getD i.toNat []).drop 2).take 1).map kindC := by rw [vc_get L _ (by omega)]; rfl
theorem vc_0 (L : List V3) (i : Int) (h0 : 0 ≤ i) (h : i < L.length) : (cellAt (vc L) i 0).int = (L.getD i.toNat nul).1 := by simp only [cellAt]; rw [vc_get L _ (by omega)]; rfl
theorem vc_1 (L : List V3) (i : Int) (h0 : 0 ≤ i) (h : i < L.length) : (cellAt (vc L) i 1).int = (L.getD i.toNat nul).2.1 := by simp only [cellAt]; rw [vc_get L _ (by omega)]; rfl
theorem vc_2 (L : List V3) (i : Int) (h0 : 0 ≤ i) (h : i < L.length) : (cellAt (vc L) i 2).str = bs (L.getD i.toNat nul).2.2 := by simp only [cellAt]; rw [vc_get L _ (by omega)]; rfl
theorem vc_vD (L : List V3) (i : Int) (h0 : 0 ≤ i) (h : i < L.length) : DV.agg [.v (.int .i64 (cellAt (vc L) i 0).int), .v (.int .i64 (cellAt (vc L) i 1).int), .v (.string (cellAt (vc L) i 2).str)] = vD (L.getD i.toNat nul) := by
 rw [vc_0 L i h0 h, vc_1 L i h0 h, vc_2 L i h0 h]
theorem vc_rep (n : Nat) : List.replicate n [CV.v (.int .i64 0), CV.v (.int .i64 0), CV.v (.string ⟨#[]⟩)] = vc (List.replicate n nul) := by
 simp only [vc, List.map_replicate]; rfl
theorem vc_set (L : List V3) (K : Nat) (v : V3) (h : K < L.length) : (vc L).set K (overL ((vc L).getD K []) 0 [.v (.int .i64 v.1), .v (.int .i64 v.2.1), .v (.string (bs v.2.2))]) = vc (L.set K v) := by
 rw [vc_get L K h]
 simp only [vc, List.map_set]; rfl
theorem vc_take (L : List V3) (n : Nat) : (vc L).take n = vc (L.take n) := by simp [vc]
def Can (v : V3) : Prop := ¬ (v.1 < 0 ∨ 3 < v.1 ∨ (v.1 ≠ 1 ∧ v.2.1 ≠ 0) ∨ (v.1 < 2 ∧ v.2.2 ≠ []))
end Go.Proofs.YtodjimecekaaeaaGreatDoor
namespace Go.Proofs.YtodjimecekaaeaaGreatDoor
open Go.RowKit Go.IntWalk
set_option linter.unusedSimpArgs false
set_option linter.unusedVariables false
def Sm (l : List UInt8) : Prop := l.length ≤ 1000000
theorem Sm.sz {l : List UInt8} (h : Sm l) : Sz l := by unfold Sm at h; unfold Sz; omega
theorem take_snoc (l : List UInt8) (i : Nat) (h : i < l.length) : l.take (i + 1) = l.take i ++ [l.getD i 0] := by
 rw [List.take_add_one]
 congr 1
 simp [List.getD_eq_getElem?_getD, h]
theorem nat_i (i : Int) (h : 0 ≤ i) : (i + 1).toNat = i.toNat + 1 := by omega
theorem c_r3FoldZ (l : List UInt8) (hs : Sz l) : FnC Tryz.prog 54 [sD l] (sD (foldL l)) := by
 unfold Sz at hs
 refine w54 (bs l) ?_
 simp only [bs_size, byteAt_bs]
 refine ⟨fun out i k => 0 ≤ i ∧ i ≤ l.length ∧ out = bs (foldL (l.take i.toNat)) ∧ k = l.length - i.toNat, ⟨_, by omega, by omega, by simp [foldL, mk_bs], rfl⟩, ?_⟩
 rintro k out i ⟨h0, h1, rfl, rfl⟩
 have hlen : (foldL (l.take i.toNat)).length = i.toNat := by rw [foldL_len, List.length_take]; omega
 refine ⟨fun hi => ⟨by omega, fun hc => ?_, fun hc => ?_⟩, fun hi => ?_⟩
 · intro x3 hx3
   have e : IntKind.wrap .u8 (((l.getD i.toNat 0).toNat : Int) + 32) = ((low (l.getD i.toNat 0)).toNat : Int) := by
    rw [u8_in _ (by omega), low_up _ hc]
   rw [show ([[CV.v (.int .u8 (IntKind.wrap .u8 (((l.getD i.toNat 0).toNat : Int) + 32)))]] : List (List CV)) = bc [low (l.getD i.toNat 0)] by rw [e]; rfl] at hx3
   subst hx3
   rw [bc_str, bs_size, bs_size, bs_append, i64_in _ (by omega)]
   refine ⟨bc_all _, by simp; omega, _, ?_, by omega, by omega, ?_, rfl⟩
   · omega
   · rw [nat_i i h0, take_snoc l _ (by omega)]; simp [foldL]
 · intro x3 hx3
   rw [show ([[CV.v (.int .u8 ((l.getD i.toNat 0).toNat : Int))]] : List (List CV)) = bc [low (l.getD i.toNat 0)] by rw [low_stay _ hc]; rfl] at hx3
   subst hx3
   rw [bc_str, bs_size, bs_size, bs_append, i64_in _ (by omega)]
   refine ⟨bc_all _, by simp; omega, _, ?_, by omega, by omega, ?_, rfl⟩
   · omega
   · rw [nat_i i h0, take_snoc l _ (by omega)]; simp [foldL]
 · rw [show i.toNat = l.length by omega, List.take_length]
theorem c_r3Fold (l : List UInt8) (hs : Sm l) : FnC Tryz.prog 54 [sD l] (sD (foldL l)) := c_r3FoldZ l hs.sz
end Go.Proofs.YtodjimecekaaeaaGreatDoor
namespace Go.Proofs.YtodjimecekaaeaaGreatDoor
open Go.RowKit Go.IntWalk
set_option linter.unusedSimpArgs false
set_option linter.unusedVariables false
def sgn (n : Nat) : UInt8 := ([48, 49, 50, 51, 52, 53, 54, 55, 56, 57, 97, 98, 99, 100, 101, 102] : List UInt8).getD n 0
def hex1 (c : UInt8) : List UInt8 := [sgn (c.toNat / 16), sgn (c.toNat % 16)]
def hexL (l : List UInt8) : List UInt8 := l.flatMap hex1
theorem hexL_len (l : List UInt8) : (hexL l).length = 2 * l.length := by
 induction l with
 | nil => rfl
 | cons a l ih =>
  show ((hex1 a) ++ hexL l).length = _
  rw [List.length_append, ih]
  simp [hex1]
  omega
theorem hexL_snoc (l : List UInt8) (c : UInt8) : hexL (l ++ [c]) = hexL l ++ hex1 c := by simp [hexL]
theorem low4 (c : UInt8) : IntKind.wrap .u8 (((BitVec.ofInt (IntKind.bits .u8) (c.toNat : Int) &&& BitVec.ofInt (IntKind.bits .u8) 15).toNat : Nat) : Int) = ((c.toNat % 16 : Nat) : Int) := by
 have h : ∀ n : Fin 256, IntKind.wrap .u8 (((BitVec.ofInt (IntKind.bits .u8) (n.val : Int) &&& BitVec.ofInt (IntKind.bits .u8) 15).toNat : Nat) : Int) = ((n.val % 16 : Nat) : Int) := by decide +kernel
 exact h ⟨c.toNat, c.toNat_lt⟩
theorem high4 (c : UInt8) : Int.fdiv (c.toNat : Int) (2 ^ 4) = ((c.toNat / 16 : Nat) : Int) := by
 rw [Int.fdiv_eq_ediv_of_nonneg _ (by decide)]
 have : (2 : Int) ^ 4 = 16 := by decide
 omega
theorem c_tHex (l : List UInt8) (hs : Sm l) : FnC Tryz.prog 138 [sD l] (sD (hexL l)) := by
 unfold Sm at hs
 refine w138 (bs l) ?_
 simp only [bs_size, byteAt_bs, mk_bs]
 rw [i64_in _ (by omega)]
 refine ⟨by omega, by omega, fun x1 hx1 => ?_⟩
 have e0 : x1 = bc [] := by rw [hx1]; rfl
 subst e0
 refine ⟨fun rows i k => 0 ≤ i ∧ i ≤ l.length ∧ rows = bc (hexL (l.take i.toNat)) ∧ k = l.length - i.toNat, ⟨_, by omega, by omega, by simp [hexL], rfl⟩, ?_⟩
 rintro k rows i ⟨h0, h1, rfl, rfl⟩
 have hlen : (hexL (l.take i.toNat)).length = 2 * i.toNat := by rw [hexL_len, List.length_take]; omega
 rw [high4, low4]
 have hb := (l.getD i.toNat 0).toNat_lt
 refine ⟨fun hi => ⟨by omega, by omega, by omega, by omega, fun x4 hx4 => ?_⟩, fun hi => ?_⟩
 · have e4 : x4 = bc (hex1 (l.getD i.toNat 0)) := by
    rw [hx4]
    simp only [bc, hex1, sgn, List.map_cons, List.map_nil, Int.toNat_natCast]
   subst e4
   rw [bc_len, bc_len, hlen]
   refine ⟨by simp only [hex1, List.length_cons, List.length_nil]; omega, fun x5 hx5 => ?_⟩
   rw [bc_app] at hx5
   subst hx5
   rw [i64_in _ (by omega)]
   refine ⟨_, ?_, by omega, by omega, ?_, rfl⟩
   · omega
   · rw [nat_i i h0, take_snoc l _ (by omega), hexL_snoc]
 · rw [show i.toNat = l.length by omega, List.take_length, bs_bc]
   exact ⟨bc_all _, rfl⟩
theorem cut_one (l : List UInt8) (i : Nat) (h : i < l.length) : (l.take (i + 1)).drop i = [l.getD i 0] := by
 rw [take_snoc l i h, List.drop_append_of_le_length (by simp; omega), List.drop_of_length_le (by rw [List.length_take]; omega)]
 rfl
theorem c_r3Hex (l : List UInt8) (hs : Sm l) : FnC Tryz.prog 103 [sD l] (sD (hexL l)) := by
 unfold Sm at hs
 refine w103 (bs l) ?_
 simp only [bs_size, byteAt_bs, mk_bs]
 refine ⟨fun out i k => 0 ≤ i ∧ i ≤ l.length ∧ out = bs (hexL (l.take i.toNat)) ∧ k = l.length - i.toNat, ⟨_, by omega, by omega, by simp [hexL], rfl⟩, ?_⟩
 rintro k out i ⟨h0, h1, rfl, rfl⟩
 have hlen : (hexL (l.take i.toNat)).length = 2 * i.toNat := by rw [hexL_len, List.length_take]; omega
 have hb := (l.getD i.toNat 0).toNat_lt
 have e1 : IntKind.wrap .u8 (Int.tdiv ((l.getD i.toNat 0).toNat : Int) 16) = (((l.getD i.toNat 0).toNat / 16 : Nat) : Int) := by
  rw [Int.tdiv_eq_ediv_of_nonneg (by omega), u8_in _ (by omega)]; omega
 have e2 : Int.tmod ((l.getD i.toNat 0).toNat : Int) 16 = (((l.getD i.toNat 0).toNat % 16 : Nat) : Int) := by
  rw [Int.tmod_eq_emod_of_nonneg (by omega)]; omega
 have e3 : IntKind.wrap .u8 ((((l.getD i.toNat 0).toNat / 16 : Nat) : Int) + 1) = (((l.getD i.toNat 0).toNat / 16 + 1 : Nat) : Int) := by rw [u8_in _ (by omega)]; omega
 have e4 : IntKind.wrap .u8 ((((l.getD i.toNat 0).toNat % 16 : Nat) : Int) + 1) = (((l.getD i.toNat 0).toNat % 16 + 1 : Nat) : Int) := by rw [u8_in _ (by omega)]; omega
 rw [e1, e2, e3, e4]
 simp only [bs_extract, bs_append, bs_size, Int.toNat_natCast]
 have cut : ∀ n : Nat, n < 16 → (([48, 49, 50, 51, 52, 53, 54, 55, 56, 57, 97, 98, 99, 100, 101, 102] : List UInt8).take (n + 1)).drop n = [sgn n] := fun n hn => cut_one _ n hn
 rw [cut _ (by omega), cut _ (by omega)]
 refine ⟨fun hi => ⟨by omega, by omega, by omega, by omega, by omega, ?_, by omega, by omega, by omega, by omega, by omega, ?_, ?_⟩, fun hi => ?_⟩
 · simp; omega
 · simp; omega
 · rw [i64_in _ (by omega)]
   refine ⟨_, ?_, by omega, by omega, ?_, rfl⟩
   · omega
   · rw [nat_i i h0, take_snoc l _ (by omega), hexL_snoc]; simp [hex1]
 · rw [show i.toNat = l.length by omega, List.take_length]
def dbl1 (c : UInt8) : List UInt8 := if c = 39 then [39, 39] else [c]
def dblL (l : List UInt8) : List UInt8 := l.flatMap dbl1
theorem dblL_len (l : List UInt8) : (dblL l).length ≤ 2 * l.length := by
 induction l with
 | nil => simp [dblL]
 | cons a l ih =>
  show (dbl1 a ++ dblL l).length ≤ _
  rw [List.length_append]
  have : (dbl1 a).length ≤ 2 := by unfold dbl1; split <;> simp
  simp
  omega
theorem replK_other (b : UInt8) (hb : b ≠ 39) (m : List UInt8) (k : Nat) : Lib.replaceK [39] [39, 39] k (b :: m) = b :: Lib.replaceK [39] [39, 39] k m := by
 cases k with
 | zero => rfl
 | succ k =>
  have hbe : (b == 39) = false := by simpa using hb
  have hge := Lib.indexByte_ge m 39
  rw [Lib.replaceK, Lib.replaceK, Lib.index_one, Lib.index_one, Lib.indexByte, hbe]
  by_cases h : Lib.indexByte m 39 = -1
  · simp [h]
  · have h1 : (Lib.indexByte m 39 == -1) = false := by simpa using h
    have h2 : (Lib.indexByte m 39 + 1 == -1) = false := by
     rw [beq_eq_false_iff_ne]; omega
    have h3 : (Lib.indexByte m 39 + 1).toNat = (Lib.indexByte m 39).toNat + 1 := by omega
    simp [h1, h2, h3, Nat.add_right_comm]
theorem replK (l : List UInt8) : Lib.replaceK [39] [39, 39] (l.count 39) l = dblL l := by
 induction l with
 | nil => rfl
 | cons b m ih =>
  show _ = dbl1 b ++ dblL m
  by_cases hb : b = 39
  · subst hb
    rw [List.count_cons_self, Lib.replaceK_hit _ _ _ _ 0 (by rw [Lib.index_one]; simp [Lib.indexByte])]
    simp [dbl1, ih]
  · rw [List.count_cons_of_ne (by simpa using hb), replK_other b hb, ih]
    simp [dbl1, hb]
theorem repl_dbl (l : List UInt8) : Lib.replaceAll l [39] [39, 39] = dblL l := by
 unfold Lib.replaceAll Lib.replace Lib.replaceNum
 rw [if_neg (by decide), if_pos (.inl (by decide)), Lib.count_one]
 exact replK l
theorem cells3 {w : World} {X : Nat → Prop} {a b c : Value} {vs : List Value} (h : DVRs w X [.c (.v a), .c (.v b), .c (.v c)] vs) : vs = [a, b, c] := by
 match vs, h with
 | x :: r, h =>
  have h' := h
  simp only [DVRs, DVR] at h
  have : r = [b, c] := cells2 (w := w) (X := X) (by
   have h2 : DVRs w X [.c (.v b), .c (.v c)] r := h'.2
   exact h2)
  subst this
  obtain ⟨h1, _⟩ := h
  cases h1
  rfl
 | [], h => simp [DVRs] at h
theorem c_replaceAll (l : List UInt8) (hs : Sm l) : FnC Tryz.prog 150 [sD l, sD [39], sD [39, 39]] (sD (dblL l)) := by
 refine ⟨canEnter_of Tryz.func150 (by kernel_rfl) (by rfl), fun w X vs hg _ hvs => ?_⟩
 rw [cells3 hvs]
 obtain ⟨m, hm⟩ := hg 0 (by simp [gloList])
 unfold Sm at hs
 have hcb : Lib.countB (bs l) (bs [39]) ≤ l.length := by
  have := Lib.countB_le (bs [39]) (by simp [bs_size]) _ (bs l) (Nat.le_refl _)
  rwa [bs_size] at this
 refine (Tryz.strings_ReplaceAll (bs l) (bs [39]) (bs [39, 39]) m w (by rw [bs_size]; omega) hm (by rw [bs_size]; simp) (by rw [bs_size, bs_size]; simp; omega)).mono ?_
 rintro e w' ⟨rfl, hb⟩
 refine ⟨_, rfl, ?_, hb⟩
 rw [bs_data, bs_data, bs_data, repl_dbl, mk_bs]
 simp only [DVR]
 exact .v _ rfl
def quoteL (v : V3) : List UInt8 := if v.1 = 0 then [110, 117, 108, 108] else if v.1 = 1 then numL v.2.1 else if v.1 = 2 then 39 :: (dblL v.2.2 ++ [39]) else if v.1 = 3 then 120 :: 39 :: (hexL v.2.2 ++ [39]) else []
theorem c_tQuote (v : V3) (h : I64 v.2.1) (hs : Sm v.2.2) : FnC Tryz.prog 133 [vD v] (sD (quoteL v)) := by
 refine w133 v.1 v.2.1 (bs v.2.2) ?_
 have l1 := dblL_len v.2.2
 have l2 := hexL_len v.2.2
 have hs' := hs
 unfold Sm at hs'
 simp only [mk_bs, bs_append, bs_size]
 refine ⟨fun h0 => by simp [quoteL, h0], fun h0 => ⟨fun h1 => ⟨_, c_tNum _ h, by simp [quoteL, h1]⟩, fun h1 => ⟨fun h2 => ⟨_, c_replaceAll _ hs, ?_⟩, fun h2 => ⟨fun h3 => ⟨_, c_tHex _ hs, ?_⟩, fun h3 => by simp [quoteL, h0, h1, h2, h3]⟩⟩⟩⟩
 · rw [bs_append, bs_append, bs_size, bs_size]
   refine ⟨by simp; omega, by simp; omega, ?_⟩
   simp [quoteL, h2]
 · rw [bs_append, bs_append, bs_size, bs_size]
   refine ⟨by simp; omega, by simp; omega, ?_⟩
   simp [quoteL, h3]
theorem dblL_snoc (l : List UInt8) (c : UInt8) : dblL (l ++ [c]) = dblL l ++ dbl1 c := by simp [dblL]
theorem c_r3Quote (v : V3) (h : I64 v.2.1) (hs : Sm v.2.2) : FnC Tryz.prog 72 [vD v] (sD (quoteL v)) := by
 refine w72 v.1 v.2.1 (bs v.2.2) ?_
 have l2 := hexL_len v.2.2
 have hs' := hs
 unfold Sm at hs'
 simp only [mk_bs, bs_append, bs_size, byteAt_bs]
 refine ⟨fun h0 => by simp [quoteL, h0], fun h0 => ⟨fun h1 => ⟨_, c_r3Num _ h, by simp [quoteL, h1]⟩, fun h1 => ⟨fun h2 => ?_, fun h2 => ⟨fun h3 => ⟨_, c_r3Hex _ hs, ?_⟩, fun h3 => by simp [quoteL, h0, h1, h2, h3]⟩⟩⟩⟩
 · have hq : quoteL v = 39 :: (dblL v.2.2 ++ [39]) := by simp [quoteL, h2]
   rw [hq]
   generalize v.2.2 = l at *
   refine ⟨fun out i k => 0 ≤ i ∧ i ≤ l.length ∧ out = bs (39 :: dblL (l.take i.toNat)) ∧ k = l.length - i.toNat, ⟨_, by omega, by omega, by simp [dblL], rfl⟩, ?_⟩
   rintro k out i ⟨h0, h1, rfl, rfl⟩
   have hlen := dblL_len (l.take i.toNat)
   rw [List.length_take] at hlen
   simp only [bs_append, bs_size, bs_extract, Int.toNat_natCast]
   refine ⟨fun hi => ⟨by omega, ?_⟩, fun hi => ?_⟩
   · have hi' : i.toNat < l.length := by omega
     rw [i64_in _ (by omega), nat_i i h0, cut_one l _ hi']
     refine ⟨fun hc => ⟨by simp; omega, by omega, by simp; omega, _, ?_, by omega, by omega, ?_, rfl⟩, fun hc => ⟨by omega, by simp; omega, _, ?_, by omega, by omega, ?_, rfl⟩⟩
     · omega
     · have hc : l.getD i.toNat 0 = 39 := u8_ext (b := 39) hc
       rw [take_snoc l _ hi', dblL_snoc, hc]; simp [dbl1]
     · omega
     · have hc : ¬ l.getD i.toNat 0 = 39 := fun e => hc (by rw [e]; rfl)
       rw [take_snoc l _ hi', dblL_snoc, dbl1, if_neg hc]; simp
   · rw [show i.toNat = l.length by omega, List.take_length]
     have := dblL_len l
     exact ⟨by simp; omega, by simp⟩
 · rw [bs_append, bs_append, bs_size, bs_size]
   refine ⟨by simp; omega, by simp; omega, ?_⟩
   simp [quoteL, h3]
end Go.Proofs.YtodjimecekaaeaaGreatDoor
namespace Go.Proofs.YtodjimecekaaeaaGreatDoor
set_option linter.unusedSimpArgs false
set_option linter.unusedVariables false
def Lik : List UInt8 → List UInt8 → Prop
 | [], s => s = []
 | d :: p, s => (d = 37 ∧ ∃ n, n ≤ s.length ∧ Lik p (s.drop n)) ∨ (d ≠ 37 ∧ ∃ c t, s = c :: t ∧ (d = 95 ∨ d = c) ∧ Lik p t)
theorem Mt_snoc (d : UInt8) : ∀ (p s : List UInt8), Lik (p ++ [d]) s ↔ (d = 37 ∧ ∃ n, n ≤ s.length ∧ Lik p (s.take n)) ∨ (d ≠ 37 ∧ ∃ c t, s = t ++ [c] ∧ (d = 95 ∨ d = c) ∧ Lik p t)
 | [], s => by
  simp only [List.nil_append, Lik]
  constructor
  · rintro (⟨h, n, hn, he⟩ | ⟨h, c, t, rfl, hc, rfl⟩)
    · exact .inl ⟨h, 0, by omega, by simp⟩
    · exact .inr ⟨h, c, [], rfl, hc, rfl⟩
  · rintro (⟨h, n, hn, he⟩ | ⟨h, c, t, rfl, hc, rfl⟩)
    · exact .inl ⟨h, s.length, by omega, by simp⟩
    · exact .inr ⟨h, c, [], rfl, hc, rfl⟩
 | e :: p, s => by
  have ih := Mt_snoc d p
  simp only [List.cons_append, Lik]
  by_cases he : e = 37
  · simp only [he, true_and, ne_eq, not_true, false_and, or_false]
    constructor
    · rintro ⟨n, hn, h⟩
      rcases (ih _).1 h with ⟨hd, m, hm, h⟩ | ⟨hd, c, t, ht, hc, h⟩
      · refine .inl ⟨hd, n + m, by rw [List.length_drop] at hm; omega, n, by rw [List.length_take]; omega, ?_⟩
        rw [List.drop_take]
        rwa [show n + m - n = m by omega]
      · refine .inr ⟨hd, c, s.take n ++ t, ?_, hc, n, by simp; omega, ?_⟩
        · rw [List.append_assoc, ← ht, List.take_append_drop]
        · rw [List.drop_append_of_le_length (by rw [List.length_take]; omega), List.drop_of_length_le (by rw [List.length_take]; omega)]
          exact h
    · rintro (⟨hd, m, hm, n, hn, h⟩ | ⟨hd, c, t, rfl, hc, n, hn, h⟩)
      · rw [List.length_take] at hn
        refine ⟨n, by omega, (ih _).2 (.inl ⟨hd, m - n, by rw [List.length_drop]; omega, ?_⟩)⟩
        rwa [List.drop_take] at h
      · refine ⟨n, by simp; omega, (ih _).2 (.inr ⟨hd, c, t.drop n, ?_, hc, h⟩)⟩
        rw [List.drop_append_of_le_length hn]
  · simp only [he, false_and, ne_eq, not_false_eq_true, true_and, false_or]
    constructor
    · rintro ⟨c, t, rfl, hc, h⟩
      rcases (ih _).1 h with ⟨hd, m, hm, h⟩ | ⟨hd, c', t', rfl, hc', h⟩
      · exact .inl ⟨hd, m + 1, by simp; omega, c, t.take m, rfl, hc, h⟩
      · exact .inr ⟨hd, c', c :: t', rfl, hc', c, t', rfl, hc, h⟩
    · rintro (⟨hd, m, hm, c, t, ht, hc, h⟩ | ⟨hd, c', t', rfl, hc', c, t, ht, hc, h⟩)
      · cases s with
        | nil => simp at ht
        | cons a s =>
         cases m with
         | zero => simp at ht
         | succ m =>
          simp only [List.take_succ_cons, List.cons.injEq] at ht
          obtain ⟨rfl, rfl⟩ := ht
          exact ⟨a, s, rfl, hc, (ih _).2 (.inl ⟨hd, m, by simp at hm; omega, h⟩)⟩
      · subst ht
        exact ⟨c, t ++ [c'], rfl, hc, (ih _).2 (.inr ⟨hd, c', t, rfl, hc', h⟩)⟩
section
variable (s p : List UInt8)
def LikM (i k : Nat) : Prop := Lik (p.drop k) (s.drop i)
theorem drop_c (l : List UInt8) (i : Nat) (h : i < l.length) : l.drop i = l.getD i 0 :: l.drop (i + 1) := by
 rw [List.drop_eq_getElem_cons h]
 congr 1
 simp [List.getD_eq_getElem?_getD, h]
theorem M_end (i : Nat) (hi : i ≤ s.length) : LikM s p i p.length ↔ i = s.length := by
 unfold LikM
 rw [List.drop_length]
 simp only [Lik]
 constructor
 · intro h
   have := congrArg List.length h
   simp at this
   omega
 · intro h; rw [h, List.drop_length]
theorem M_star (i k : Nat) (hi : i ≤ s.length) (hk : k < p.length) (h : p.getD k 0 = 37) : LikM s p i k ↔ ∃ j, i ≤ j ∧ j ≤ s.length ∧ LikM s p j (k + 1) := by
 unfold LikM
 rw [drop_c p k hk, h]
 simp only [Lik, true_and, ne_eq, not_true, false_and, or_false, List.length_drop, List.drop_drop]
 constructor
 · rintro ⟨n, hn, h⟩
   exact ⟨i + n, by omega, by omega, h⟩
 · rintro ⟨j, h1, h2, h⟩
   exact ⟨j - i, by omega, by rwa [show i + (j - i) = j by omega]⟩
theorem M_one (i k : Nat) (hi : i < s.length) (hk : k < p.length) (h : p.getD k 0 ≠ 37) : LikM s p i k ↔ (p.getD k 0 = 95 ∨ p.getD k 0 = s.getD i 0) ∧ LikM s p (i + 1) (k + 1) := by
 unfold LikM
 rw [drop_c p k hk, drop_c s i hi]
 simp only [Lik, h, false_and, ne_eq, not_false_eq_true, true_and, false_or, List.cons.injEq]
 constructor
 · rintro ⟨c, t, ⟨rfl, rfl⟩, hc, h⟩
   exact ⟨hc, h⟩
 · rintro ⟨hc, h⟩
   exact ⟨_, _, ⟨rfl, rfl⟩, hc, h⟩
theorem M_out (k : Nat) (hk : k < p.length) (h : p.getD k 0 ≠ 37) : ¬ LikM s p s.length k := by
 unfold LikM
 rw [drop_c p k hk, List.drop_length]
 simp only [Lik, h, false_and, ne_eq, not_false_eq_true, true_and, false_or]
 rintro ⟨c, t, ht, _⟩
 cases ht
theorem M_slide : ∀ (n a j : Nat), a + n ≤ p.length → j ≤ s.length → (∀ t, a ≤ t → t < a + n → p.getD t 0 ≠ 37) → LikM s p j a → j + n ≤ s.length ∧ LikM s p (j + n) (a + n)
 | 0, a, j, _, hj, _, h => ⟨by omega, h⟩
 | n + 1, a, j, ha, hj, hno, h => by
  have h0 := hno a (by omega) (by omega)
  by_cases he : j = s.length
  · subst he
    exact absurd h (M_out s p a (by omega) h0)
  · have h1 := ((M_one s p j a (by omega) (by omega) h0).1 h).2
    obtain ⟨h2, h3⟩ := M_slide n (a + 1) (j + 1) (by omega) (by omega) (fun t h1 h2 => hno t (by omega) (by omega)) h1
    exact ⟨by omega, by rwa [show j + (n + 1) = j + 1 + n by omega, show a + (n + 1) = a + 1 + n by omega]⟩
structure LkAt (i k back star : Nat) : Prop where
 hi : i ≤ s.length
 hk : k ≤ p.length
 hb : back ≤ i
 no : star = 0 → (LikM s p 0 0 ↔ LikM s p i k)
 yes : star ≠ 0 → star ≤ k ∧ p.getD (star - 1) 0 = 37 ∧ i - back = k - star ∧ (∀ t, star ≤ t → t < k → p.getD t 0 ≠ 37) ∧ (LikM s p 0 0 ↔ LikM s p i k ∨ ∃ j, back < j ∧ j ≤ s.length ∧ LikM s p j star)
theorem LkAt.start : LkAt s p 0 0 0 0 := ⟨by omega, by omega, by omega, fun _ => Iff.rfl, fun h => absurd rfl h⟩
variable {s p} {i k back star : Nat}
theorem LkAt.now (h : LkAt s p i k back star) (hk : k < p.length) (hs : p.getD k 0 = 37) : LikM s p 0 0 ↔ LikM s p i k := by
 by_cases h0 : star = 0
 · exact h.no h0
 · obtain ⟨h1, h2, h3, h4, h5⟩ := h.yes h0
   rw [h5]
   constructor
   · rintro (hm | ⟨j, hj1, hj2, hm⟩)
     · exact hm
     · have hb := h.hb
       obtain ⟨h6, h7⟩ := M_slide s p (k - star) star j (by omega) hj2 (fun t ht1 ht2 => h4 t ht1 (by omega)) hm
       rw [show star + (k - star) = k by omega] at h7
       rw [M_star s p _ k h6 hk hs] at h7
       obtain ⟨j', hj1', hj2', hm'⟩ := h7
       exact (M_star s p i k h.hi hk hs).2 ⟨j', by omega, hj2', hm'⟩
   · exact .inl
theorem LkAt.newStar (h : LkAt s p i k back star) (hk : k < p.length) (hs : p.getD k 0 = 37) : LkAt s p i (k + 1) i (k + 1) := by
 have hn := h.now hk hs
 refine ⟨h.hi, by omega, by omega, fun e => by omega, fun _ => ⟨by omega, by simpa using hs, by omega, fun t h1 h2 => by omega, ?_⟩⟩
 rw [hn, M_star s p i k h.hi hk hs]
 constructor
 · rintro ⟨j, h1, h2, h3⟩
   by_cases e : j = i
   · subst e; exact .inl h3
   · exact .inr ⟨j, by omega, h2, h3⟩
 · rintro (h3 | ⟨j, h1, h2, h3⟩)
   · exact ⟨i, by omega, h.hi, h3⟩
   · exact ⟨j, by omega, h2, h3⟩
theorem LkAt.step (h : LkAt s p i k back star) (hi : i < s.length) (hk : k < p.length) (hs : p.getD k 0 ≠ 37) (hc : p.getD k 0 = 95 ∨ p.getD k 0 = s.getD i 0) : LkAt s p (i + 1) (k + 1) back star := by
 have hm : LikM s p i k ↔ LikM s p (i + 1) (k + 1) := by
  rw [M_one s p i k hi hk hs]
  exact ⟨fun h => h.2, fun h => ⟨hc, h⟩⟩
 have hb := h.hb
 refine ⟨by omega, by omega, by omega, fun e => by rw [h.no e, hm], fun e => ?_⟩
 obtain ⟨h1, h2, h3, h4, h5⟩ := h.yes e
 refine ⟨by omega, h2, by omega, fun t ht1 ht2 => ?_, by rw [h5, hm]⟩
 by_cases et : t = k
 · rw [et]; exact hs
 · exact h4 t ht1 (by omega)
theorem LkAt.miss (h : LkAt s p i k back star) (hi : i < s.length) (hn : k = p.length ∨ (k < p.length ∧ p.getD k 0 ≠ 37 ∧ ¬ (p.getD k 0 = 95 ∨ p.getD k 0 = s.getD i 0))) : ¬ LikM s p i k := by
 rcases hn with e | ⟨h1, h2, h3⟩
 · rw [e, M_end s p i (by omega)]
   omega
 · rw [M_one s p i k hi h1 h2]
   exact fun hm => h3 hm.1
theorem LkAt.back' (h : LkAt s p i k back star) (hi : i < s.length) (h0 : star ≠ 0) (hm : ¬ LikM s p i k) : LkAt s p (back + 1) star (back + 1) star := by
 obtain ⟨h1, h2, h3, h4, h5⟩ := h.yes h0
 have hb := h.hb
 have hk := h.hk
 refine ⟨by omega, by omega, by omega, fun e => absurd e h0, fun _ => ⟨by omega, h2, by omega, fun t ht1 ht2 => by omega, ?_⟩⟩
 rw [h5]
 constructor
 · rintro (hc | ⟨j, hj1, hj2, hc⟩)
   · exact absurd hc hm
   · by_cases e : j = back + 1
     · subst e; exact .inl hc
     · exact .inr ⟨j, by omega, hj2, hc⟩
 · rintro (hc | ⟨j, hj1, hj2, hc⟩)
   · exact .inr ⟨back + 1, by omega, by omega, hc⟩
   · exact .inr ⟨j, by omega, hj2, hc⟩
theorem LkAt.fin (h : LkAt s p i k back star) (hi : i = s.length) : LikM s p 0 0 ↔ LikM s p s.length k := by
 subst hi
 by_cases h0 : star = 0
 · exact h.no h0
 · obtain ⟨h1, h2, h3, h4, h5⟩ := h.yes h0
   have hb := h.hb
   have hk := h.hk
   rw [h5]
   constructor
   · rintro (hm | ⟨j, hj1, hj2, hm⟩)
     · exact hm
     · obtain ⟨h6, _⟩ := M_slide s p (k - star) star j (by omega) hj2 (fun t ht1 ht2 => h4 t ht1 (by omega)) hm
       omega
   · exact .inl
theorem M_tail (hk : k < p.length) (hs : p.getD k 0 = 37) : LikM s p s.length k ↔ LikM s p s.length (k + 1) := by
 rw [M_star s p s.length k (Nat.le_refl _) hk hs]
 constructor
 · rintro ⟨j, h1, h2, h3⟩
   rwa [show j = s.length by omega] at h3
 · intro h; exact ⟨s.length, Nat.le_refl _, Nat.le_refl _, h⟩
end
def Nn (s p : List UInt8) (i k : Nat) : Prop := Lik (p.take k) (s.take i)
theorem Nn_zero (s p : List UInt8) (i : Nat) (hi : i ≤ s.length) : Nn s p i 0 ↔ i = 0 := by
 unfold Nn
 simp only [List.take_zero, Lik]
 constructor
 · intro h
   have := congrArg List.length h
   simp at this
   rcases this with h | h
   · exact h
   · subst h; simp at hi; exact hi
 · intro h; rw [h]; simp
theorem take_s (l : List UInt8) (i : Nat) (h : i < l.length) : l.take (i + 1) = l.take i ++ [l.getD i 0] := by
 rw [List.take_add_one]
 congr 1
 simp [List.getD_eq_getElem?_getD, h]
theorem Nn_star (s p : List UInt8) (i k : Nat) (hi : i ≤ s.length) (hk : k < p.length) (h : p.getD k 0 = 37) : Nn s p i (k + 1) ↔ Nn s p i k ∨ (0 < i ∧ Nn s p (i - 1) (k + 1)) := by
 have key : ∀ i, i ≤ s.length → (Nn s p i (k + 1) ↔ ∃ n, n ≤ i ∧ Nn s p n k) := fun i hi => by
  unfold Nn
  rw [take_s p k hk, Mt_snoc, h]
  simp only [true_and, ne_eq, not_true, false_and, or_false, List.length_take]
  constructor
  · rintro ⟨n, hn, hm⟩
    refine ⟨n, by omega, ?_⟩
    rwa [List.take_take, show min n i = n by omega] at hm
  · rintro ⟨n, hn, hm⟩
    refine ⟨n, by omega, ?_⟩
    rwa [List.take_take, show min n i = n by omega]
 rw [key i hi]
 constructor
 · rintro ⟨n, hn, hm⟩
   by_cases e : n = i
   · subst e; exact .inl hm
   · exact .inr ⟨by omega, (key (i - 1) (by omega)).2 ⟨n, by omega, hm⟩⟩
 · rintro (hm | ⟨h0, hm⟩)
   · exact ⟨i, Nat.le_refl _, hm⟩
   · obtain ⟨n, hn, hm⟩ := (key (i - 1) (by omega)).1 hm
     exact ⟨n, by omega, hm⟩
theorem Nn_one (s p : List UInt8) (i k : Nat) (hi : i ≤ s.length) (hk : k < p.length) (h : p.getD k 0 ≠ 37) : Nn s p i (k + 1) ↔ 0 < i ∧ Nn s p (i - 1) k ∧ (p.getD k 0 = 95 ∨ p.getD k 0 = s.getD (i - 1) 0) := by
 unfold Nn
 rw [take_s p k hk, Mt_snoc]
 simp only [h, false_and, ne_eq, not_false_eq_true, true_and, false_or]
 constructor
 · rintro ⟨c, t, ht, hc, hm⟩
   cases i with
   | zero =>
    have := congrArg List.length ht
    simp at this
   | succ i =>
    rw [take_s s i (by omega)] at ht
    have h1 := List.append_inj' ht rfl
    obtain ⟨rfl, h2⟩ := h1
    simp only [List.cons.injEq, and_true] at h2
    subst h2
    exact ⟨by omega, hm, hc⟩
 · rintro ⟨h0, hm, hc⟩
   obtain ⟨j, rfl⟩ : ∃ j, i = j + 1 := ⟨i - 1, by omega⟩
   exact ⟨_, _, take_s s j (by omega), hc, hm⟩
end Go.Proofs.YtodjimecekaaeaaGreatDoor
namespace Go.Proofs.YtodjimecekaaeaaGreatDoor
open Go.RowKit Go.IntWalk
set_option linter.unusedSimpArgs false
set_option linter.unusedVariables false
open Classical in
noncomputable def likB (s p : List UInt8) : Bool := decide (Lik (foldL p) (foldL s))
theorem b37 (b : UInt8) : ((b.toNat : Int) = 37) ↔ b = 37 := ⟨fun h => u8_ext (by rw [h]; rfl), fun h => by rw [h]; rfl⟩
theorem b95 (b : UInt8) : ((b.toNat : Int) = 95) ↔ b = 95 := ⟨fun h => u8_ext (by rw [h]; rfl), fun h => by rw [h]; rfl⟩
theorem bEq (a b : UInt8) : ((a.toNat : Int) = (b.toNat : Int)) ↔ a = b := ⟨u8_ext, fun h => by rw [h]⟩
theorem c_Like (s p : List UInt8) (hs : Sm s) (hp : Sm p) : FnC Tryz.prog 117 [sD s, sD p] (bD (likB s p)) := by
 have La := foldL_len s
 have Lb := foldL_len p
 refine w117 (bs s) (bs p) ⟨bs (foldL s), c_tFold s hs.sz, bs (foldL p), c_tFold p hp.sz, ?_⟩
 unfold likB
 unfold Sm at hs hp
 generalize foldL s = a at *
 generalize foldL p = b at *
 simp only [bs_size, byteAt_bs, b37, b95, bEq]
 refine ⟨fun k st i bk m => ∃ K I B T : Nat, k = K ∧ i = I ∧ bk = B ∧ st = (T : Int) - 1 ∧ LkAt a b I K B T ∧ m = (a.length - B) * (a.length + b.length + 1) + (a.length - I) + (b.length - K), ⟨_, 0, 0, 0, 0, rfl, rfl, rfl, rfl, .start _ _, rfl⟩, ?_⟩
 rintro m k st i bk ⟨K, I, B, T, rfl, rfl, rfl, rfl, h, rfl⟩
 have hI := h.hi
 have hK := h.hk
 have hB := h.hb
 simp only [Int.toNat_natCast]
 refine ⟨fun hi => ⟨fun _ => by omega, fun hc => ?_, fun hc => ⟨fun _ => by omega, fun _ => by omega, fun _ => by omega, fun hd => ?_, fun hd => ⟨fun ht => ?_, fun ht => ?_⟩⟩⟩, fun hi => ?_⟩
 · have := Nat.mul_le_mul_right (a.length + b.length + 1) (show a.length - I ≤ a.length - B by omega)
   exact ⟨_, by omega, K + 1, I, I, K + 1, by rw [i64_in _ (by omega)]; omega, rfl, rfl, by omega, h.newStar (by omega) hc.2, rfl⟩
 · have hne : b.getD K 0 ≠ 37 := fun e => hc ⟨hd.1, e⟩
   exact ⟨_, by omega, K + 1, I + 1, B, T, by rw [i64_in _ (by omega)]; omega, by rw [i64_in _ (by omega)]; omega, rfl, rfl, h.step (by omega) (by omega) hne hd.2, rfl⟩
 · have hm : ¬ LikM a b I K := h.miss (by omega) (by
    by_cases e : K = b.length
    · exact .inl e
    · exact .inr ⟨by omega, fun e => hc ⟨by omega, e⟩, fun e => hd ⟨by omega, e⟩⟩)
   have h' := h.back' (by omega) (by omega) hm
   have e1 : a.length - B = (a.length - (B + 1)) + 1 := by omega
   have e2 := Nat.add_mul (a.length - (B + 1)) 1 (a.length + b.length + 1)
   rw [← e1] at e2
   have hT := (h.yes (by omega)).1
   exact ⟨_, by omega, T, B + 1, B + 1, T, by rw [i64_in _ (by omega)]; omega, by rw [i64_in _ (by omega)]; omega, by rw [i64_in _ (by omega)]; omega, rfl, h', rfl⟩
 · have hm : ¬ LikM a b I K := h.miss (by omega) (by
    by_cases e : K = b.length
    · exact .inl e
    · exact .inr ⟨by omega, fun e => hc ⟨by omega, e⟩, fun e => hd ⟨by omega, e⟩⟩)
   have h0 : ¬ LikM a b 0 0 := by rw [h.no (by omega)]; exact hm
   have : ¬ Lik b a := h0
   simp [bD, this]
 · have hf := h.fin (by omega)
   refine ⟨fun k m => ∃ K' : Nat, k = K' ∧ K' ≤ b.length ∧ (LikM a b 0 0 ↔ LikM a b a.length K') ∧ m = b.length - K', ⟨_, K, rfl, by omega, hf, rfl⟩, ?_⟩
   rintro m k ⟨K', rfl, hk, hl, rfl⟩
   simp only [Int.toNat_natCast]
   refine ⟨fun _ => by omega, fun hc => ?_, fun hc => ?_⟩
   · exact ⟨_, by omega, K' + 1, by rw [i64_in _ (by omega)]; omega, by omega, hl.trans (M_tail (by omega) hc.2), rfl⟩
   · have hl : Lik b a ↔ LikM a b a.length K' := hl
     by_cases e : K' = b.length
     · subst e
       have : Lik b a := by rw [hl, M_end a b _ (Nat.le_refl _)]
       simp [bD, this]
     · have : ¬ Lik b a := by rw [hl]; exact M_out a b K' (by omega) (fun e => hc ⟨by omega, e⟩)
       simp [bD, this]
       omega
def bb (l : List Bool) : List (List CV) := l.map fun c => [.v (.bool c)]
theorem bb_len (l : List Bool) : (bb l).length = l.length := by simp [bb]
theorem bb_getD (l : List Bool) (i : Nat) (h : i < l.length) : (bb l).getD i [] = [.v (.bool (l.getD i false))] := by simp [bb, h]
theorem bb_at (l : List Bool) (i : Int) (h0 : 0 ≤ i) (h : i < l.length) : (cellAt (bb l) i 0).bool = l.getD i.toNat false := by
 simp only [cellAt]
 rw [bb_getD l _ (by omega)]
 rfl
theorem bb_kind (l : List Bool) (i : Int) (h0 : 0 ≤ i) (h : i < l.length) : [9] = ((((bb l).getD i.toNat []).drop 0).take 1).map kindC := by
 rw [bb_getD l _ (by omega)]; rfl
theorem bb_set (l : List Bool) (i : Nat) (c : Bool) (h : i < l.length) : (bb l).set i (overL ((bb l).getD i []) 0 [.v (.bool c)]) = bb (l.set i c) := by
 rw [bb_getD l _ h]
 simp [bb, overL, List.map_set]
theorem bb_rep (n : Nat) : List.replicate n [CV.v (.bool false)] = bb (List.replicate n false) := by simp [bb]
theorem set_getD {l : List Bool} {i : Nat} (c : Bool) (j : Nat) (h : i < l.length) : (l.set i c).getD j false = if j = i then c else l.getD j false := by
 simp only [List.getD_eq_getElem?_getD, List.getElem?_set]
 by_cases e : i = j
 · subst e; simp [h]
 · simp [e, Ne.symm e]
theorem rep_getD (n i : Nat) : (List.replicate n false)[i]?.getD false = false := by
 by_cases h : i < n <;> simp [List.getElem?_replicate, h]
theorem c_rLike (s p : List UInt8) (hs : Sm s) (hp : Sm p) : FnC Tryz.prog 48 [sD s, sD p] (bD (likB s p)) := by
 have La := foldL_len s
 have Lb := foldL_len p
 refine w48 (bs s) (bs p) ⟨bs (foldL s), c_r3Fold s hs, bs (foldL p), c_r3Fold p hp, ?_⟩
 unfold likB
 unfold Sm at hs hp
 generalize foldL s = a at *
 generalize foldL p = b at *
 simp only [bs_size, byteAt_bs, b37, b95, bEq]
 rw [i64_in _ (by omega), show ((a.length : Int) + 1).toNat = a.length + 1 by omega, bb_rep]
 refine ⟨by omega, by omega, ?_⟩
 rintro x4 rfl
 rw [bb_len]
 refine ⟨by simp, by simp, ?_⟩
 rintro x5 rfl
 rw [show (0 : Int).toNat = 0 from rfl, bb_set _ _ _ (by simp)]
 refine ⟨fun rows n k m => ∃ (l : List Bool) (K : Nat), rows = bb l ∧ n = (a.length : Int) + 1 ∧ l.length = a.length + 1 ∧ k = K ∧ K ≤ b.length ∧ (∀ i, i ≤ a.length → (l.getD i false = true ↔ Nn a b i K)) ∧ m = b.length - K,
  ⟨_, _, 0, rfl, by simp, by simp, rfl, by omega, fun i hi => by rw [set_getD _ _ (by simp), Nn_zero _ _ _ hi]; by_cases e : i = 0 <;> simp [e, rep_getD], rfl⟩, ?_⟩
 rintro m rows n k ⟨l, K, rfl, rfl, hl, rfl, hK, hn, rfl⟩
 refine ⟨fun hk => ⟨by omega, by omega, ?_⟩, fun hk => ⟨by omega, bb_kind _ _ (by omega) (by omega), ?_⟩⟩
 · rintro x9 rfl
   rw [bb_len, List.length_replicate]
   refine ⟨fun rows i m => ∃ (l' : List Bool) (I : Nat), rows = bb l' ∧ l'.length = a.length + 1 ∧ i = I ∧ I ≤ a.length + 1 ∧ (∀ j, j < I → (l'.getD j false = true ↔ Nn a b j (K + 1))) ∧ m = a.length + 1 - I,
    ⟨_, _, 0, rfl, by simp, rfl, by omega, fun j hj => by omega, rfl⟩, ?_⟩
   rintro m rows i ⟨l', I, rfl, hl', rfl, hI, hn', rfl⟩
   rw [bb_len]
   refine ⟨fun hi => ⟨by omega, fun hc => ?_, fun hc => ?_⟩, fun hi => ?_⟩
   · refine ⟨by omega, bb_kind _ _ (by omega) (by omega), fun h => by rw [i64_in _ (by omega)]; omega, fun h => by rw [i64_in _ (by omega)]; exact bb_kind _ _ (by omega) (by omega), by omega, by omega, ?_⟩
     rintro x12 rfl
     rw [bb_at _ _ (by omega) (by omega), Int.toNat_natCast, bb_set _ _ _ (by omega)]
     refine ⟨_, ?_, _, I + 1, rfl, by simpa using hl', by rw [i64_in _ (by omega)]; omega, by omega, fun j hj => ?_, rfl⟩
     · omega
     rw [set_getD _ _ (by omega)]
     by_cases e : j = I
     · subst e
       rw [if_pos rfl, Nn_star a b j K (by omega) (by omega) (by simpa using hc), ← hn j (by omega)]
       by_cases e0 : j = 0
       · subst e0; simp
       · rw [← hn' (j - 1) (by omega), i64_in _ (by omega), bb_at _ _ (by omega) (by omega), show ((j : Int) - 1).toNat = j - 1 by omega]
         have : (0 : Int) < j := by omega
         have h0 : 0 < j := by omega
         simp only [this, h0, decide_true, if_true, true_and]
         cases l.getD j false <;> simp
     · rw [if_neg e]; exact hn' j (by omega)
   · refine ⟨fun h => by rw [i64_in _ (by omega)]; omega, fun h => by rw [i64_in _ (by omega)]; exact bb_kind _ _ (by omega) (by omega), fun h => by omega, fun h => by omega, fun h => by rw [i64_in _ (by omega)]; omega, by omega, by omega, ?_⟩
     rintro x12 rfl
     rw [Int.toNat_natCast, bb_set _ _ _ (by omega)]
     refine ⟨_, ?_, _, I + 1, rfl, by simpa using hl', by rw [i64_in _ (by omega)]; omega, by omega, fun j hj => ?_, rfl⟩
     · omega
     rw [set_getD _ _ (by omega)]
     by_cases e : j = I
     · subst e
       rw [if_pos rfl, Nn_one a b j K (by omega) (by omega) (by simpa using hc)]
       by_cases e0 : j = 0
       · subst e0; simp
       · rw [← hn (j - 1) (by omega), i64_in _ (by omega), bb_at _ _ (by omega) (by omega), show ((j : Int) - 1).toNat = j - 1 by omega]
         have : (0 : Int) < j := by omega
         have h0 : 0 < j := by omega
         simp only [this, h0, decide_true, if_true, true_and, Int.toNat_natCast]
         have e1 : (((b.getD K 0).toNat : Int) == 95) = decide (b.getD K 0 = 95) := by rw [← decide_eq_decide.2 (b95 _)]; rfl
         have e2 : (((b.getD K 0).toNat : Int) == ((a.getD (j - 1) 0).toNat : Int)) = decide (b.getD K 0 = a.getD (j - 1) 0) := by rw [← decide_eq_decide.2 (bEq _ _)]; rfl
         rw [e1, e2]
         cases l.getD (j - 1) false <;> by_cases h1 : b.getD K 0 = 95 <;> simp [h1]
     · rw [if_neg e]; exact hn' j (by omega)
   · refine ⟨_, ?_, l', K + 1, rfl, rfl, hl', by rw [i64_in _ (by omega)]; omega, by omega, fun i hi => hn' i (by omega), rfl⟩
     omega
 · rw [bb_at _ _ (by omega) (by omega), Int.toNat_natCast]
   have e := hn a.length (Nat.le_refl _)
   rw [show K = b.length by omega] at e
   have e2 : Nn a b a.length b.length ↔ Lik b a := by unfold Nn; rw [List.take_length, List.take_length]
   rw [e2] at e
   by_cases h : Lik b a
   · rw [e.2 h]; simp [bD, h]
   · simp [bD, h]
     cases hb : l.getD a.length false
     · rw [List.getD_eq_getElem?_getD] at hb; exact hb
     · exact absurd (e.1 hb) h
end Go.Proofs.YtodjimecekaaeaaGreatDoor
namespace Go.Proofs.YtodjimecekaaeaaGreatDoor
open Go.RowKit Go.IntWalk
set_option linter.unusedSimpArgs false
set_option linter.unusedVariables false
def rawL (v : V3) : List UInt8 := if v.1 = 1 then numL v.2.1 else v.2.2
def Vs (v : V3) : Prop := I64 v.1 ∧ I64 v.2.1 ∧ Sm v.2.2
theorem rawL_sm {v : V3} (h : Vs v) : Sm (rawL v) := by
 unfold rawL
 split
 · have := numL_len v.2.1 h.2.1
   unfold Sm; omega
 · exact h.2.2
theorem c_raw (v : V3) (h : Vs v) : FnC Tryz.prog 135 [vD v] (sD (rawL v)) := by
 refine w135 v.1 v.2.1 (bs v.2.2) ?_
 unfold rawL
 refine ⟨fun e => ⟨_, c_tNum v.2.1 h.2.1, ?_⟩, fun e => ?_⟩ <;> simp [e, sD]
theorem c_fnum (n : Int) : FnC Tryz.prog 137 [iD n] (.tup [vD (1, n, []), iD 0]) := by
 refine w137 n ?_
 (try simp only [mk_bs, bs_inj, bs_size, bs_toList, bs_append, byteAt_bs])
 (repeat' (first | (with_reducible refine ⟨_, (c_vNum _), ?_⟩) | (with_reducible refine ⟨_, _, (c_vNum _), ?_⟩) | (with_reducible refine ⟨_, _, _, (c_vNum _), ?_⟩) | (with_reducible refine ⟨_, _, _, _, (c_vNum _), ?_⟩) | (with_reducible refine ⟨_, fun _ => (c_vNum _), ?_⟩) | (with_reducible refine ⟨_, _, fun _ => (c_vNum _), ?_⟩) | (with_reducible refine ⟨_, _, _, fun _ => (c_vNum _), ?_⟩) | (with_reducible refine ⟨_, _, _, _, fun _ => (c_vNum _), ?_⟩) | with_reducible refine ⟨fun _ => ?_, fun _ => ?_⟩ | fail))
 all_goals (rfl)
theorem c_fstr (s : List UInt8) : FnC Tryz.prog 131 [sD s] (.tup [vD (2, 0, s), iD 0]) := by
 refine w131 (bs s) ?_
 (try simp only [mk_bs, bs_inj, bs_size, bs_toList, bs_append, byteAt_bs])
 (repeat' (first | (with_reducible refine ⟨_, (c_vStr _), ?_⟩) | (with_reducible refine ⟨_, _, (c_vStr _), ?_⟩) | (with_reducible refine ⟨_, _, _, (c_vStr _), ?_⟩) | (with_reducible refine ⟨_, _, _, _, (c_vStr _), ?_⟩) | (with_reducible refine ⟨_, fun _ => (c_vStr _), ?_⟩) | (with_reducible refine ⟨_, _, fun _ => (c_vStr _), ?_⟩) | (with_reducible refine ⟨_, _, _, fun _ => (c_vStr _), ?_⟩) | (with_reducible refine ⟨_, _, _, _, fun _ => (c_vStr _), ?_⟩) | with_reducible refine ⟨fun _ => ?_, fun _ => ?_⟩ | fail))
 all_goals (rfl)
def findL (s t : List UInt8) (i : Nat) : Int :=
 if h : i + t.length ≤ s.length then (if (s.drop i).take t.length = t then i else if h2 : i < s.length then findL s t (i + 1) else -1) else -1
termination_by s.length - i
theorem c_find (s t : List UInt8) (i : Nat) (hs : Sm s) (ht : Sm t) (hi : i ≤ s.length) : FnC Tryz.prog 151 [sD s, sD t, iD i] (iD (findL s t i)) := by
 refine w151 (bs s) (bs t) i ?_
 unfold Sm at hs ht
 simp only [bs_size, bs_extract, bs_inj]
 refine ⟨fun j m => ∃ J : Nat, j = J ∧ J ≤ s.length + 1 ∧ findL s t i = findL s t J ∧ m = s.length + 1 - J, ⟨_, i, rfl, by omega, rfl, rfl⟩, ?_⟩
 rintro m j ⟨J, rfl, hJ, hf, rfl⟩
 rw [i64_in ((J : Int) + t.length) (by omega), show ((J : Int) + t.length).toNat = J + t.length by omega, Int.toNat_natCast]
 rw [hf, findL]
 have e : (s.take (J + t.length)).drop J = (s.drop J).take t.length := by rw [List.drop_take]; congr 1; omega
 rw [e]
 refine ⟨fun h => ⟨by omega, fun h2 => ?_, fun h2 => ?_⟩, fun h => ?_⟩
 · rw [dif_pos (by omega), if_pos h2]
 · have h3 : J < s.length := by
    by_cases h4 : J < s.length
    · exact h4
    · exfalso
      apply h2
      have : t.length = 0 := by omega
      rw [List.length_eq_zero_iff.1 this]; simp
   refine ⟨_, ?_, J + 1, by rw [i64_in _ (by omega)]; omega, by omega, ?_, rfl⟩
   · omega
   · rw [dif_pos (by omega), if_neg h2, dif_pos h3]
 · rw [dif_neg (by omega)]
def instrR (a b : V3) : DV := if (a.1 = 3) ↔ (b.1 = 3) then .tup [vD (1, findL (rawL a) (rawL b) 0 + 1, []), iD 0] else .tup [vD nul, iD 11]
theorem findL_rng (s t : List UInt8) : ∀ i, -1 ≤ findL s t i ∧ findL s t i ≤ s.length := fun i => by
 induction h : s.length - i using Nat.strongRecOn generalizing i with
 | _ n ih =>
  rw [findL]
  split
  · split
    · omega
    · split
      · exact ih _ (by omega) _ rfl
      · omega
  · omega
theorem c_instr (a b : V3) (ha : Vs a) (hb : Vs b) : FnC Tryz.prog 139 [vD a, vD b] (instrR a b) := by
 refine w139 a.1 a.2.1 (bs a.2.2) b.1 b.2.1 (bs b.2.2) ?_
 have e : (a.1 == 3) = (b.1 == 3) ↔ ((a.1 = 3) ↔ (b.1 = 3)) := by
  by_cases h1 : a.1 = 3 <;> by_cases h2 : b.1 = 3 <;> simp [h1, h2]
  rw [beq_eq_false_iff_ne.2 h1, beq_eq_false_iff_ne.2 h2]
 rw [e]
 unfold instrR
 refine ⟨fun h => ?_, fun h => ?_⟩
 · rw [if_neg h]; rfl
 · rw [if_pos (Classical.not_not.1 h)]
   have := findL_rng (rawL a) (rawL b) 0
   have hs := rawL_sm ha
   have := hs
   unfold Sm at this
   refine ⟨_, c_raw a ha, _, c_raw b hb, _, c_find _ _ 0 hs (rawL_sm hb) (by omega), ?_⟩
   rw [i64_in _ (by omega)]
   exact ⟨_, _, _, _, c_fnum _, rfl⟩
def subL (s : List UInt8) (from0 : Int) (many : Option Int) : List UInt8 :=
 let f := if from0 < 0 then (s.length : Int) + 1 + from0 else if from0 = 0 then 1 else from0
 let hi : Int := match many with
  | none => s.length
  | some m => if m < 1 then 0 else f - 1 + m
 (s.take hi.toNat).drop (f - 1).toNat
theorem cut_same {l : List UInt8} {a b a' b' : Nat} (h : (min b l.length ≤ a ∧ min b' l.length ≤ a') ∨ (a = a' ∧ min b l.length = min b' l.length)) : (l.take b).drop a = (l.take b').drop a' := by
 have e : ∀ n : Nat, l.take n = l.take (min n l.length) := fun n => by
  by_cases hn : n ≤ l.length
  · rw [Nat.min_eq_left hn]
  · rw [Nat.min_eq_right (by omega), List.take_of_length_le (by omega), List.take_length]
 rcases h with ⟨h1, h2⟩ | ⟨rfl, h⟩
 · rw [List.drop_eq_nil_of_le (by rw [List.length_take]; omega), List.drop_eq_nil_of_le (by rw [List.length_take]; omega)]
 · rw [e b, e b', h]
def subV (v : V3) (from0 : Int) (many : Option Int) : V3 := (if v.1 = 3 then 3 else 2, 0, subL (rawL v) from0 many)
theorem c_substr2 (v a : V3) (hv : Vs v) (ha : Vs a) : FnC Tryz.prog 141 [.c (.vs (vc [v, a]))] (if a.1 = 1 then .tup [vD (subV v a.2.1 none), iD 0] else .tup [vD nul, iD 11]) := by
 refine w141 (vc [v, a]) ?_
 simp only [vc_len, vc_drop]
 refine ⟨by simp, vc_sz _, vc_k _ _ (by omega) (by simp), by simp, vc_sz _, ?_⟩
 refine ⟨fun i m => (i = 0 ∧ m = 1) ∨ (i = 1 ∧ a.1 = 1 ∧ m = 0), ⟨_, .inl ⟨rfl, rfl⟩⟩, ?_⟩
 rintro m i (⟨rfl, rfl⟩ | ⟨rfl, h1, rfl⟩)
 · refine ⟨fun _ => ⟨by simp, vc_sz _, vc_k _ _ (by omega) (by simp), ?_⟩, fun h => absurd h (by simp)⟩
   rw [vc_0 _ _ (by omega) (by simp)]
   refine ⟨fun h => ?_, fun h => ?_⟩
   · rw [if_neg (show ¬ a.1 = 1 from h)]; rfl
   · exact ⟨_, by omega, .inr ⟨by decide, Classical.not_not.1 h, rfl⟩⟩
 · refine ⟨fun h => absurd h (by simp), fun _ => ?_⟩
   rw [if_pos h1]
   refine ⟨_, c_raw v hv, by simp, vc_sz _, vc_k1 _ _ (by omega) (by simp), ?_⟩
   have hr := rawL_sm hv
   have hn := ha.2.1
   unfold Sm at hr
   unfold I64 at hn
   rw [vc_0 _ _ (by omega) (by simp), vc_1 _ _ (by omega) (by simp)]
   simp only [show ([v, a] : List V3).getD (0 : Int).toNat nul = v from rfl, show ([v, a] : List V3).getD (1 : Int).toNat nul = a from rfl, show (([v, a] : List V3).length : Int) = 2 from rfl, bs_size]
   unfold subV subL
   generalize rawL v = s at *
   generalize a.2.1 = n at *
   simp only [bs_extract, mk_bs]
   (repeat' (first | (exfalso; omega) | (exact absurd trivial ‹¬ True›) | (with_reducible refine ⟨_, _, _, _, c_fstr _, ?_⟩) | (with_reducible refine ⟨_, _, _, c_vBytes _, ?_⟩) | with_reducible refine ⟨fun _ => ?_, fun _ => ?_⟩ | with_reducible refine ⟨⟨?_, ?_, ?_⟩, ?_⟩ | fail))
   all_goals first
    | ((iterate 3 (try simp (disch := omega) only [i64_in, decide_eq_true_eq, and_true, true_and, or_true, true_or] at *)); omega)
    | (rename_i e3; rw [if_pos e3]; refine congrArg (fun l => DV.tup [vD (3, 0, l), iD 0]) ?_; (first | refine cut_same ?_ | (refine Eq.trans (List.take_zero (l := s)).symm ?_; refine Eq.trans (List.drop_zero (l := s.take 0)).symm ?_; refine cut_same ?_)); (iterate 3 (try simp (disch := omega) only [i64_in, decide_eq_true_eq, and_true, true_and, or_true, true_or] at *)); omega)
    | (rename_i e3; rw [if_neg e3]; refine congrArg (fun l => DV.tup [vD (2, 0, l), iD 0]) ?_; (first | refine cut_same ?_ | (refine Eq.trans (List.take_zero (l := s)).symm ?_; refine Eq.trans (List.drop_zero (l := s.take 0)).symm ?_; refine cut_same ?_)); (iterate 3 (try simp (disch := omega) only [i64_in, decide_eq_true_eq, and_true, true_and, or_true, true_or] at *)); omega)
    | fail
set_option maxHeartbeats 4000000 in
theorem c_substr3 (v a b : V3) (hv : Vs v) (ha : Vs a) (hb : Vs b) : FnC Tryz.prog 141 [.c (.vs (vc [v, a, b]))] (if a.1 = 1 ∧ b.1 = 1 then .tup [vD (subV v a.2.1 (some b.2.1)), iD 0] else .tup [vD nul, iD 11]) := by
 refine w141 (vc [v, a, b]) ?_
 simp only [vc_len, vc_drop]
 refine ⟨by simp, vc_sz _, vc_k _ _ (by omega) (by simp), by simp, vc_sz _, ?_⟩
 refine ⟨fun i m => (i = 0 ∧ m = 2) ∨ (i = 1 ∧ a.1 = 1 ∧ m = 1) ∨ (i = 2 ∧ a.1 = 1 ∧ b.1 = 1 ∧ m = 0), ⟨_, .inl ⟨rfl, rfl⟩⟩, ?_⟩
 rintro m i (⟨rfl, rfl⟩ | ⟨rfl, h1, rfl⟩ | ⟨rfl, h1, h2, rfl⟩)
 · refine ⟨fun _ => ⟨by simp, vc_sz _, vc_k _ _ (by omega) (by simp), ?_⟩, fun h => absurd h (by simp)⟩
   rw [vc_0 _ _ (by omega) (by simp)]
   refine ⟨fun h => ?_, fun h => ?_⟩
   · rw [if_neg (fun e => (show ¬ a.1 = 1 from h) e.1)]; rfl
   · exact ⟨_, by omega, .inr (.inl ⟨by decide, Classical.not_not.1 h, rfl⟩)⟩
 · refine ⟨fun _ => ⟨by simp, vc_sz _, vc_k _ _ (by omega) (by simp), ?_⟩, fun h => absurd h (by simp)⟩
   rw [vc_0 _ _ (by omega) (by simp)]
   refine ⟨fun h => ?_, fun h => ?_⟩
   · rw [if_neg (fun e => (show ¬ b.1 = 1 from h) e.2)]; rfl
   · exact ⟨_, by omega, .inr (.inr ⟨by decide, h1, Classical.not_not.1 h, rfl⟩)⟩
 · refine ⟨fun h => absurd h (by simp), fun _ => ?_⟩
   rw [if_pos ⟨h1, h2⟩]
   refine ⟨_, c_raw v hv, by simp, vc_sz _, vc_k1 _ _ (by omega) (by simp), ?_⟩
   have hr := rawL_sm hv
   have hn := ha.2.1
   have hm := hb.2.1
   unfold Sm at hr
   unfold I64 at hn hm
   rw [vc_0 _ _ (by omega) (by simp), vc_1 _ _ (by omega) (by simp)]
   rw [vc_1 _ (2 : Int) (by omega) (by simp)]
   simp only [show ([v, a, b] : List V3).getD (0 : Int).toNat nul = v from rfl, show ([v, a, b] : List V3).getD (1 : Int).toNat nul = a from rfl, show ([v, a, b] : List V3).getD (2 : Int).toNat nul = b from rfl, show (([v, a, b] : List V3).length : Int) = 3 from rfl, bs_size]
   unfold subV subL
   generalize rawL v = s at *
   generalize a.2.1 = n at *
   generalize b.2.1 = k at *
   have vk1 : (∀ el ∈ vc [v, a, b], el.length = 3) := vc_sz _
   have vk2 : [4] = ((((vc [v, a, b]).getD (2 : Int).toNat []).drop 1).take 1).map kindC := vc_k1 _ _ (by omega) (by simp)
   simp only [bs_extract, mk_bs]
   (repeat' (first | (exfalso; omega) | (exact absurd trivial ‹¬ True›) | (with_reducible refine ⟨_, _, _, _, c_fstr _, ?_⟩) | (with_reducible refine ⟨_, _, _, c_vBytes _, ?_⟩) | with_reducible refine ⟨fun _ => ?_, fun _ => ?_⟩ | with_reducible refine ⟨⟨by omega, by omega⟩, vk1, vk2, ?_⟩ | with_reducible refine ⟨⟨?_, ?_, ?_⟩, ?_⟩ | fail))
   all_goals first
    | ((iterate 3 (try simp (disch := omega) only [i64_in, decide_eq_true_eq, and_true, true_and, or_true, true_or] at *)); omega)
    | (rename_i e3; rw [if_pos e3]; refine congrArg (fun l => DV.tup [vD (3, 0, l), iD 0]) ?_; (first | refine cut_same ?_ | (refine Eq.trans (List.take_zero (l := s)).symm ?_; refine Eq.trans (List.drop_zero (l := s.take 0)).symm ?_; refine cut_same ?_)); (iterate 3 (try simp (disch := omega) only [i64_in, decide_eq_true_eq, and_true, true_and, or_true, true_or] at *)); omega)
    | (rename_i e3; rw [if_neg e3]; refine congrArg (fun l => DV.tup [vD (2, 0, l), iD 0]) ?_; (first | refine cut_same ?_ | (refine Eq.trans (List.take_zero (l := s)).symm ?_; refine Eq.trans (List.drop_zero (l := s.take 0)).symm ?_; refine cut_same ?_)); (iterate 3 (try simp (disch := omega) only [i64_in, decide_eq_true_eq, and_true, true_and, or_true, true_or] at *)); omega)
    | fail
end Go.Proofs.YtodjimecekaaeaaGreatDoor
namespace Go.Proofs.YtodjimecekaaeaaGreatDoor
open Go.RowKit Go.IntWalk
set_option linter.unusedSimpArgs false
set_option linter.unusedVariables false
def wAbs : List UInt8 := [97, 98, 115]
def wSign : List UInt8 := [115, 105, 103, 110]
def wLength : List UInt8 := [108, 101, 110, 103, 116, 104]
def wUpper : List UInt8 := [117, 112, 112, 101, 114]
def wLower : List UInt8 := [108, 111, 119, 101, 114]
def wTrim : List UInt8 := [116, 114, 105, 109]
def wLtrim : List UInt8 := [108, 116, 114, 105, 109]
def wRtrim : List UInt8 := [114, 116, 114, 105, 109]
def wHex : List UInt8 := [104, 101, 120]
def wQuote : List UInt8 := [113, 117, 111, 116, 101]
def wTypeof : List UInt8 := [116, 121, 112, 101, 111, 102]
def wInstr : List UInt8 := [105, 110, 115, 116, 114]
def wIfnull : List UInt8 := [105, 102, 110, 117, 108, 108]
def wNullif : List UInt8 := [110, 117, 108, 108, 105, 102]
def wLike : List UInt8 := [108, 105, 107, 101]
def wReplace : List UInt8 := [114, 101, 112, 108, 97, 99, 101]
def wSubstr : List UInt8 := [115, 117, 98, 115, 116, 114]
def wCoalesce : List UInt8 := [99, 111, 97, 108, 101, 115, 99, 101]
def wConcat : List UInt8 := [99, 111, 110, 99, 97, 116]
def knownB (f : List UInt8) (n : Int) : Bool :=
 if f = wAbs ∨ f = wSign ∨ f = wLength ∨ f = wUpper ∨ f = wLower ∨ f = wTrim ∨ f = wLtrim ∨ f = wRtrim ∨ f = wHex ∨ f = wQuote ∨ f = wTypeof then n == 1
 else if f = wInstr ∨ f = wIfnull ∨ f = wNullif ∨ f = wLike then n == 2
 else if f = wReplace then n == 3
 else if f = wSubstr then (n == 2 || n == 3)
 else if f = wCoalesce ∨ f = wConcat then decide (1 ≤ n)
 else false
theorem c_Known (op : List UInt8) (n : Int) (hop : Sm op) : FnC Tryz.prog 118 [sD op, iD n] (bD (knownB (foldL op) n)) := by
 refine w118 (bs op) n ⟨bs (foldL op), c_tFold op hop.sz, ?_⟩
 generalize foldL op = f
 simp only [mk_bs, bs_inj]
 unfold knownB
 simp only [wAbs, wSign, wLength, wUpper, wLower, wTrim, wLtrim, wRtrim, wHex, wQuote, wTypeof, wInstr, wIfnull, wNullif, wLike, wReplace, wSubstr, wCoalesce, wConcat]
 (repeat' (first | with_reducible refine ⟨fun _ => ?_, fun _ => ?_⟩ | fail))
 all_goals first
  | (rename_i h; subst h; rfl)
  | (rename_i h; subst h; by_cases h2 : n = 2 <;> simp [bD, h2]; done)
  | (simp [bD, *]; done)
  | fail
def badV : List V3 → Int
 | [] => 0
 | v :: L => if checkV v = 0 then badV L else checkV v
def fitQ (v : V3) (e : Int) : DV := if e = 0 ∧ 4096 < (v.2.2.length : Int) then .tup [vD nul, iD 3] else if e = 0 then .tup [vD v, iD 0] else .tup [vD nul, iD e]
def callR (op : List UInt8) (L : List V3) (o : V3) (oe : Int) (met : Bool) (r : V3) (re : Int) : DV :=
 if knownB (foldL op) L.length = true then
  (if badV L = 0 then (if met = true then fitQ o oe else if L.any (fun v => v.1 == 0) = true then .tup [vD nul, iD 0] else fitQ r re) else .tup [vD nul, iD (badV L)])
 else .tup [vD nul, iD 25]
theorem drop_v (L : List V3) (K : Nat) (h : K < L.length) : L.drop K = L.getD K nul :: L.drop (K + 1) := by
 rw [List.drop_eq_getElem_cons h]
 congr 1
 simp [List.getD_eq_getElem?_getD, h]
theorem take_v (L : List V3) (K : Nat) (h : K < L.length) : L.take (K + 1) = L.take K ++ [L.getD K nul] := by
 rw [List.take_add_one]
 congr 1
 simp [List.getD_eq_getElem?_getD, h]
theorem c_Call (op : List UInt8) (hop : Sm op) (L : List V3) (hl : L.length ≤ 1000000) (o : V3) (oe : Int) (met : Bool) (r : V3) (re : Int)
 (h1 : knownB (foldL op) L.length = true → badV L = 0 → FnC Tryz.prog 120 [sD (foldL op), .c (.vs (vc L))] (.tup [vD o, iD oe, bD met]))
 (h2 : knownB (foldL op) L.length = true → badV L = 0 → met = false → L.any (fun v => v.1 == 0) = false → FnC Tryz.prog 121 [sD (foldL op), .c (.vs (vc L))] (.tup [vD r, iD re])) :
 FnC Tryz.prog 95 [sD op, .c (.vs (vc L))] (callR op L o oe met r re) := by
 refine w95 (bs op) (vc L) ?_
 rw [vc_len]
 refine ⟨_, c_Known op L.length hop, ?_⟩
 unfold callR
 refine ⟨fun hk => by rw [if_neg hk]; rfl, fun hk => ?_⟩
 have hk := Classical.not_not.1 hk
 rw [if_pos hk]
 refine ⟨fun nl i m => ∃ K : Nat, i = K ∧ K ≤ L.length ∧ nl = (L.take K).any (fun v => v.1 == 0) ∧ badV L = badV (L.drop K) ∧ m = L.length - K, ⟨_, 0, rfl, by omega, by simp, rfl, rfl⟩, ?_⟩
 rintro m nl i ⟨K, rfl, hK, rfl, hb, rfl⟩
 refine ⟨fun hi => ⟨by omega, vc_sz _, vc_k _ _ (by omega) (by omega), ?_⟩, fun hi => ?_⟩
 · rw [vc_vD _ _ (by omega) (by omega), Int.toNat_natCast, vc_0 _ _ (by omega) (by omega), Int.toNat_natCast]
   have hd := drop_v L K (by omega)
   refine ⟨_, c_vCheck _, fun h => ?_, fun h => ?_⟩
   · have e : badV L = checkV (L.getD K nul) := by rw [hb, hd, badV, if_neg h]
     rw [e, if_neg h]; rfl
   · refine ⟨_, ?_, K + 1, by rw [i64_in _ (by omega)]; omega, by omega, ?_, ?_, rfl⟩
     · omega
     · rw [take_v L K (by omega), List.any_append]
       cases (L.take K).any (fun v => v.1 == 0) <;> simp
     · rw [hb, hd, badV, if_pos (Classical.not_not.1 h)]
 · have e : K = L.length := by omega
   subst e
   rw [List.drop_length] at hb
   have hb : badV L = 0 := hb
   rw [if_pos hb, List.take_length]
   refine ⟨_, c_tFold op hop.sz, _, _, _, _, _, h1 hk hb, fun hm => ⟨fun hn => ?_, fun hn => ?_⟩, fun hm => ?_⟩
   · rw [if_neg hm, if_pos hn]; rfl
   · rw [if_neg hm, if_neg hn]
     refine ⟨_, _, _, _, h2 hk hb (Bool.eq_false_iff.2 hm) (Bool.eq_false_iff.2 hn), fun ha => ?_, fun ha => ⟨fun hz => ?_, fun hz => ?_⟩⟩
     · rw [bs_size] at ha; unfold fitQ; rw [if_pos ha] <;> rfl
     · rw [bs_size] at ha; unfold fitQ; rw [if_neg ha, if_neg hz] <;> rfl
     · rw [bs_size] at ha; unfold fitQ; rw [if_neg ha, if_pos (Classical.not_not.1 hz)] <;> rfl
   · rw [if_pos (Classical.not_not.1 hm)]
     refine ⟨fun ha => ?_, fun ha => ⟨fun hz => ?_, fun hz => ?_⟩⟩
     · rw [bs_size] at ha; unfold fitQ; rw [if_pos ha] <;> rfl
     · rw [bs_size] at ha; unfold fitQ; rw [if_neg ha, if_neg hz] <;> rfl
     · rw [bs_size] at ha; unfold fitQ; rw [if_neg ha, if_pos (Classical.not_not.1 hz)] <;> rfl
theorem c_open_not (f : List UInt8) (L : List V3) (hf : f ≠ wTypeof ∧ f ≠ wQuote ∧ f ≠ wCoalesce ∧ f ≠ wIfnull ∧ f ≠ wNullif ∧ f ≠ wConcat) : FnC Tryz.prog 120 [sD f, .c (.vs (vc L))] (.tup [vD nul, iD 0, bD false]) := by
 refine w120 (bs f) (vc L) ?_
 simp only [mk_bs, bs_inj]
 obtain ⟨h1, h2, h3, h4, h5, h6⟩ := hf
 exact ⟨fun h => absurd h h1, fun _ => ⟨fun h => absurd h h2, fun _ => ⟨fun h => absurd h h3, fun _ => ⟨fun h => absurd h h4, fun _ => ⟨fun h => absurd h h5, fun _ => ⟨fun h => absurd h h6, fun _ => by first | rfl | trivial⟩⟩⟩⟩⟩⟩
end Go.Proofs.YtodjimecekaaeaaGreatDoor
namespace Go.Proofs.YtodjimecekaaeaaGreatDoor
open Go.RowKit Go.IntWalk
set_option linter.unusedSimpArgs false
set_option linter.unusedVariables false
end Go.Proofs.YtodjimecekaaeaaGreatDoor
namespace Go.Proofs.YtodjimecekaaeaaGreatDoor
open Go.RowKit Go.IntWalk
set_option linter.unusedSimpArgs false
set_option linter.unusedVariables false
def upp (c : UInt8) : UInt8 := if 97 ≤ c ∧ c ≤ 122 then c - 32 else c
def upL (l : List UInt8) : List UInt8 := l.map upp
def upK (l : List UInt8) (k : Nat) : List UInt8 := upL (l.take k) ++ l.drop k
theorem upK_len (l : List UInt8) (k : Nat) : (upK l k).length = l.length := by simp [upK, upL]; omega
theorem upK_at (l : List UInt8) (k : Nat) (h : k < l.length) : (upK l k)[k]'(by rw [upK_len]; exact h) = l[k] := by
 unfold upK
 rw [List.getElem_append_right (by simp [upL]; omega)]
 simp [upL, Nat.min_eq_left (Nat.le_of_lt h)]
theorem upK_zero (l : List UInt8) : upK l 0 = l := by simp [upK, upL]
theorem upK_all (l : List UInt8) : upK l l.length = upL l := by simp [upK]
theorem upK_step (l : List UInt8) (k : Nat) (h : k < l.length) : (upK l k).set k (upp l[k]) = upK l (k + 1) := by
 unfold upK
 rw [List.set_append_right _ _ (by simp [upL]; omega)]
 have e : k - (upL (l.take k)).length = 0 := by simp [upL]; omega
 rw [e, List.drop_eq_getElem_cons h, List.set_cons_zero, List.take_succ_eq_append_getElem h]
 simp [upL]
 rw [List.take_succ_eq_append_getElem (by simpa using h)]
 simp
theorem upK_stay (l : List UInt8) (k : Nat) (h : k < l.length) (hc : upp l[k] = l[k]) : upK l k = upK l (k + 1) := by
 rw [← upK_step l k h, hc]
 have := upK_at l k h
 rw [← this, List.set_getElem_self]
theorem upp_stay (c : UInt8) (h : ¬ (97 ≤ (c.toNat : Int) ∧ (c.toNat : Int) ≤ 122)) : upp c = c := by
 unfold upp
 rw [if_neg]
 rintro ⟨h1, h2⟩
 have h1 : 97 ≤ c.toNat := h1
 have h2 : c.toNat ≤ 122 := h2
 omega
theorem upp_up (c : UInt8) (h : 97 ≤ (c.toNat : Int) ∧ (c.toNat : Int) ≤ 122) : ((upp c).toNat : Int) = (c.toNat : Int) - 32 := by
 have h1 : 97 ≤ c := by show 97 ≤ c.toNat; omega
 have h2 : c ≤ 122 := by show c.toNat ≤ 122; omega
 unfold upp
 rw [if_pos ⟨h1, h2⟩, UInt8.toNat_sub]
 simp
 omega
theorem upL_len (l : List UInt8) : (upL l).length = l.length := by simp [upL]
theorem getD_upK (l : List UInt8) (k : Nat) (h : k < l.length) : (upK l k).getD k 0 = l.getD k 0 := by
 have := upK_at l k h
 rw [List.getD_eq_getElem?_getD, List.getD_eq_getElem?_getD, List.getElem?_eq_getElem (by rw [upK_len]; exact h), this, List.getElem?_eq_getElem h]
theorem c_upper (l : List UInt8) (hs : Sz l) : FnC Tryz.prog 142 [sD l] (sD (upL l)) := by
 unfold Sz at hs
 refine w142 (bs l) ?_
 intro x1 hx1
 rw [bc_bs] at hx1
 subst hx1
 rw [bc_len]
 refine ⟨fun rows i k => 0 ≤ i ∧ i ≤ l.length ∧ rows = bc (upK l i.toNat) ∧ k = l.length - i.toNat, ⟨_, by omega, by omega, by rw [Int.toNat_zero, upK_zero], rfl⟩, ?_⟩
 rintro k rows i ⟨h0, h1, rfl, rfl⟩
 refine ⟨fun hi => ?_, fun hi => ?_⟩
 · have hk : i.toNat < l.length := by omega
   have hk2 : i < ((upK l i.toNat).length : Int) := by rw [upK_len]; omega
   rw [bc_at _ _ h0 hk2, getD_upK l _ hk, i64_in (i + 1) (by omega)]
   refine ⟨by omega, bc_kind _ _ h0 hk2, fun hc => ?_, fun hc => ?_⟩
   · rw [bc_len, upK_len]
     refine ⟨by omega, by omega, fun x4 hx4 => ?_⟩
     rw [bc_set (b := upp (l.getD i.toNat 0)) (hz := by rw [u8_in (((l.getD i.toNat 0).toNat : Int) - 97) (by omega), u8_in _ (by omega), upp_up _ hc]; omega), getD_at l _ hk, upK_step l _ hk] at hx4
     subst hx4
     refine ⟨_, ?_, by omega, by omega, ?_, rfl⟩
     · omega
     · rw [show (i + 1).toNat = i.toNat + 1 by omega]
   · refine ⟨_, ?_, by omega, by omega, ?_, rfl⟩
     · omega
     · rw [show (i + 1).toNat = i.toNat + 1 by omega, upK_stay l _ hk (by rw [← getD_at l _ hk]; exact upp_stay _ hc)]
 · have e : i.toNat = l.length := by omega
   rw [e, upK_all, bc_len, upL_len, Int.toNat_natCast, bc_take, bc_str, ← upL_len l, List.take_length]
   exact ⟨by omega, bc_all _, rfl⟩
end Go.Proofs.YtodjimecekaaeaaGreatDoor
namespace Go.Proofs.YtodjimecekaaeaaGreatDoor
open Go.RowKit Go.IntWalk
set_option linter.unusedSimpArgs false
set_option linter.unusedVariables false
def catL (L : List V3) : List UInt8 := L.flatMap rawL
theorem catL_len : ∀ {L : List V3}, (∀ v ∈ L, Vs v) → (catL L).length ≤ L.length * 1000000
 | [], _ => by simp [catL]
 | v :: L, h => by
  have h1 := rawL_sm (h v (by simp))
  have h2 := catL_len (L := L) fun u hu => h u (by simp [hu])
  unfold Sm at h1
  simp only [catL, List.flatMap_cons, List.length_append, List.length_cons] at h2 ⊢
  omega
theorem catL_snoc (L : List V3) (v : V3) : catL (L ++ [v]) = catL L ++ rawL v := by simp [catL]
theorem getD_memV (L : List V3) (K : Nat) (h : K < L.length) : L.getD K nul ∈ L := by
 rw [List.getD_eq_getElem?_getD, List.getElem?_eq_getElem h]
 exact List.getElem_mem h
def catR (L : List V3) : V3 × Int := if L.any (fun v => v.1 == 3) = true then (nul, 11) else ((2, 0, catL L), 0)
theorem c_concat (L : List V3) (hL : ∀ v ∈ L, Vs v) (hl : L.length ≤ 1000000) : FnC Tryz.prog 134 [.c (.vs (vc L))] (.tup [vD (catR L).1, iD (catR L).2]) := by
 refine w134 (vc L) ?_
 rw [vc_len]
 refine ⟨fun rows i m => ∃ K : Nat, i = K ∧ K ≤ L.length ∧ rows = bc (catL (L.take K)) ∧ (L.take K).any (fun v => v.1 == 3) = false ∧ m = L.length - K, ⟨_, 0, rfl, by omega, rfl, by simp, rfl⟩, ?_⟩
 rintro m rows i ⟨K, rfl, hK, rfl, hn, rfl⟩
 have hT : (catL (L.take K)).length ≤ (L.take K).length * 1000000 := catL_len fun v hv => hL v (List.mem_of_mem_take hv)
 rw [List.length_take] at hT
 refine ⟨fun hi => ⟨by omega, vc_sz _, vc_k _ _ (by omega) (by omega), ?_⟩, fun hi => ?_⟩
 · rw [vc_vD _ _ (by omega) (by omega), vc_0 _ _ (by omega) (by omega), Int.toNat_natCast]
   have hm := getD_memV L K (by omega)
   refine ⟨fun h => ?_, fun h => ?_⟩
   · have : L.any (fun v => v.1 == 3) = true := List.any_eq_true.2 ⟨_, hm, by simpa using h⟩
     unfold catR
     rw [if_pos this]; rfl
   · have hr := rawL_sm (hL _ hm)
     unfold Sm at hr
     refine ⟨_, c_raw _ (hL _ hm), ?_, ?_⟩
     · rw [bc_len, bs_size]; omega
     · rintro x4 rfl
       rw [bc_bs, bc_app, i64_in _ (by omega)]
       refine ⟨_, ?_, K + 1, by omega, by omega, ?_, ?_, rfl⟩
       · omega
       · rw [take_v L K (by omega), catL_snoc]
       · rw [take_v L K (by omega), List.any_append, hn]
         simpa using h
 · have e : K = L.length := by omega
   subst e
   rw [List.take_length] at hn ⊢
   unfold catR
   rw [if_neg (by rw [hn]; simp)]
   refine ⟨bc_all _, ?_⟩
   rw [bc_str]
   exact ⟨_, _, _, _, c_fstr _, rfl⟩
theorem c_open_cat (L : List V3) (hL : ∀ v ∈ L, Vs v) (hl : L.length ≤ 1000000) : FnC Tryz.prog 120 [sD wConcat, .c (.vs (vc L))] (.tup [vD (catR L).1, iD (catR L).2, bD true]) := by
 refine w120 (bs wConcat) (vc L) ?_
 simp only [mk_bs, bs_inj]
 iterate 5 refine ⟨fun h => absurd h (by decide), fun _ => ?_⟩
 exact ⟨fun _ => ⟨_, _, _, _, c_concat L hL hl, rfl⟩, fun h => absurd rfl h⟩
end Go.Proofs.YtodjimecekaaeaaGreatDoor
namespace Go.Proofs.YtodjimecekaaeaaGreatDoor
open Go.RowKit Go.ChangeShapes Go.WideShapes
set_option linter.unusedSimpArgs false
set_option linter.unusedVariables false
theorem CVRs.at {w : World} {X : Nat → Prop} : ∀ {cs : List CV} {rs : List Value}, CVRs w X cs rs → ∀ (f : Nat) (c : CV), cs[f]? = some c → ∃ r, rs[f]? = some r ∧ CVR w X c r
 | [], [], _, f, c, h => by simp at h
 | c0 :: cs, r :: rs, hr, 0, c, h => by
  simp only [CVRs] at hr
  simp only [List.getElem?_cons_zero, Option.some.injEq] at h
  subst h
  exact ⟨r, rfl, hr.1⟩
 | c0 :: cs, r :: rs, hr, f + 1, c, h => by
  simp only [CVRs] at hr
  simp only [List.getElem?_cons_succ] at h ⊢
  exact CVRs.at hr.2 f c h
 | [], _ :: _, hr, _, _, _ => by simp only [CVRs] at hr
 | _ :: _, [], hr, _, _, _ => by simp only [CVRs] at hr
theorem CVRs.len {w : World} {X : Nat → Prop} : ∀ {cs : List CV} {rs : List Value}, CVRs w X cs rs → cs.length = rs.length
 | [], [], _ => rfl
 | c0 :: cs, r :: rs, hr => by
  simp only [CVRs] at hr
  simp only [List.length_cons, CVRs.len hr.2]
 | [], _ :: _, hr => by simp only [CVRs] at hr
 | _ :: _, [], hr => by simp only [CVRs] at hr
theorem ret_ofF {P : Program} {f : FuncId} {args : List DV} (h : FnC P f args (bD true)) (vs : Array Value) (w : World) (hg : Glo w) (hv : DVRs w (fun _ => False) args vs.toList) : Calls P f vs w (Ret (.bool true) w) := by
 have := h.2 w (fun _ => False) vs.toList hg (fun _ h => h.elim) hv
 refine Calls.mono (by simpa using this) ?_
 rintro e w' ⟨v, rfl, hr, hb⟩
 simp only [DVR] at hr
 cases hr
 exact ⟨rfl, hb⟩
section
variable {H : Type} {enc : TypeId × Value → H} {P : Program} {W : World}
theorem val_cells {t : TypeId} {f0 f1 f2 : Field} (ht : P.underlying t = some (.struct #[f0, f1, f2])) (ct : P.cellsOf t = 3) (o0 : f0.offset = 0) (o1 : f1.offset = 1) (o2 : f2.offset = 2)
 (c0 : P.cellsOf f0.type = 1) (c1 : P.cellsOf f1.type = 1) (c2 : P.cellsOf f2.type = 1) (h0 : P.underlying f0.type = some (.int .i64)) (h1 : P.underlying f1.type = some (.int .i64)) (h2 : P.underlying f2.type = some .string)
 (n : Nat) (cs : List Value) (x : DataW H × List MemPlace) (h : DataW.trod enc P W 0 (fun _ => true) true n t cs = some x) :
 ∃ el : List CV, CVRs W (fun _ => False) el cs ∧ ∃ v : V3, el = [.v (.int .i64 v.1), .v (.int .i64 v.2.1), .v (.string (bs v.2.2))] ∧ I64 v.1 ∧ I64 v.2.1 ∧ v.2.2.length ≤ maxLen := by
 obtain ⟨xs, k, _, _, hl, hxl, hf⟩ := DataW.trod_struct ht h
 rw [ct] at hl
 match cs, hl, xs, hxl with
 | [a, b, c], _, [y0, y1, y2], _ =>
  have g0 := hf 0 f0 rfl
  have g1 := hf 1 f1 rfl
  have g2 := hf 2 f2 rfl
  simp [o0, o1, o2, c0, c1, c2] at g0 g1 g2
  obtain ⟨z0, e0, _, w0⟩ := DataW.trod_int h0 g0
  obtain ⟨z1, e1, _, w1⟩ := DataW.trod_int h1 g1
  obtain ⟨s, e2, _, w2⟩ := DataW.trod_string h2 g2
  simp only [List.cons.injEq, and_true] at e0 e1 e2
  subst e0 e1 e2
  refine ⟨[.v (.int .i64 z0), .v (.int .i64 z1), .v (.string s)], ?_, (z0, z1, s.data.toList), ?_, wf_i64 w0, wf_i64 w1, w2⟩
  · simp only [CVRs]
    exact ⟨.v _ rfl, .v _ rfl, .v _ rfl, trivial⟩
  · show _ = [_, _, CV.v (.string (bs s.data.toList))]
    rw [← bs_of s]
end
end Go.Proofs.YtodjimecekaaeaaGreatDoor
namespace Go.Proofs.YtodjimecekaaeaaGreatDoor
open Go.RowKit Go.ChangeShapes Go.WideShapes Go.IntWalk
set_option linter.unusedSimpArgs false
set_option linter.unusedVariables false
def ValOk (v : V3) : Prop := I64 v.1 ∧ I64 v.2.1 ∧ v.2.2.length ≤ maxLen
theorem vals_of : ∀ {els : List (List CV)}, (∀ el ∈ els, ∃ v : V3, el = [.v (.int .i64 v.1), .v (.int .i64 v.2.1), .v (.string (bs v.2.2))] ∧ I64 v.1 ∧ I64 v.2.1 ∧ v.2.2.length ≤ maxLen) →
 ∃ L : List V3, els = vc L ∧ ∀ v ∈ L, ValOk v
 | [], _ => ⟨[], rfl, by simp⟩
 | el :: els, h => by
  obtain ⟨v, rfl, hv⟩ := h el (by simp)
  obtain ⟨L, rfl, hL⟩ := vals_of (els := els) fun e he => h e (by simp [he])
  refine ⟨v :: L, rfl, fun u hu => ?_⟩
  rcases List.mem_cons.1 hu with rfl | hu
  · exact hv
  · exact hL u hu
end Go.Proofs.YtodjimecekaaeaaGreatDoor
namespace Go.Proofs.YtodjimecekaaeaaGreatDoor
open Go.RowKit Go.IntWalk
set_option linter.unusedSimpArgs false
set_option linter.unusedVariables false
def kindL (k : Int) : List UInt8 := if k = 1 then [105, 110, 116] else if k = 2 then [116, 101, 120, 116] else if k = 3 then [98, 108, 111, 98] else [110, 117, 108, 108]
theorem c_kind (v : V3) : FnC Tryz.prog 132 [vD v] (sD (kindL v.1)) := by
 refine w132 v.1 v.2.1 (bs v.2.2) ?_
 (try simp only [mk_bs, bs_inj, bs_size, bs_toList, bs_append, byteAt_bs])
 (repeat' (first | with_reducible refine ⟨fun _ => ?_, fun _ => ?_⟩ | fail))
 all_goals (((try simp only [kindL, sD] at *); (repeat' split) <;> (first | rfl | (exfalso; omega) | (simp_all; done) | (simp_all; omega))))
def firstV : List V3 → V3
 | [] => nul
 | v :: L => if v.1 = 0 then firstV L else v
theorem c_open_first (f : List UInt8) (L : List V3) (hl : L.length ≤ 1000000) (hf : f = wCoalesce ∨ f = wIfnull) : FnC Tryz.prog 120 [sD f, .c (.vs (vc L))] (.tup [vD (firstV L), iD 0, bD true]) := by
 refine w120 (bs f) (vc L) ?_
 simp only [mk_bs, bs_inj, vc_len]
 have h1 : f ≠ wTypeof := by rcases hf with rfl | rfl <;> decide
 have h2 : f ≠ wQuote := by rcases hf with rfl | rfl <;> decide
 refine ⟨fun h => absurd h h1, fun _ => ⟨fun h => absurd h h2, fun _ => ⟨fun _ => ?_, fun hn => ⟨fun _ => ?_, fun h => absurd (hf.resolve_left hn) h⟩⟩⟩⟩
 all_goals
  refine ⟨fun x2 x3 x4 x5 k0 => ∃ K : Nat, K ≤ L.length ∧ x5 = (K : Int) - 1 ∧ x2 = (firstV (L.drop K)).1 ∧ x3 = (firstV (L.drop K)).2.1 ∧ x4 = bs (firstV (L.drop K)).2.2 ∧ k0 = K, ⟨_, L.length, by omega, by rw [i64_in _ (by omega)], by rw [List.drop_length]; rfl, by rw [List.drop_length]; rfl, by rw [List.drop_length]; rfl, rfl⟩, ?_⟩
  rintro K x2 x3 x4 x5 ⟨_, hK, rfl, rfl, rfl, rfl, rfl⟩
  refine ⟨fun hi => ⟨by omega, vc_sz _, vc_k0 _ _ (by omega) (by omega), ?_⟩, fun hi => ?_⟩
  · rw [vc_0 _ _ (by omega) (by omega), show ((K : Int) - 1).toNat = K - 1 by omega]
    have hd := drop_v L (K - 1) (by omega)
    rw [show K - 1 + 1 = K by omega] at hd
    refine ⟨fun h => ⟨by omega, vc_sz _, ?_, ?_⟩, fun h => ?_⟩
    · have := vc_k L ((K : Int) - 1) (by omega) (by omega)
      rwa [show ((K : Int) - 1).toNat = K - 1 by omega] at this
    · rw [vc_1 _ _ (by omega) (by omega), vc_2 _ _ (by omega) (by omega), show ((K : Int) - 1).toNat = K - 1 by omega]
      refine ⟨K - 1, by omega, K - 1, by omega, by rw [i64_in _ (by omega)]; omega, ?_, ?_, ?_, rfl⟩ <;> rw [hd, firstV, if_neg h]
    · refine ⟨K - 1, by omega, K - 1, by omega, by rw [i64_in _ (by omega)]; omega, ?_, ?_, ?_, rfl⟩ <;> rw [hd, firstV, if_pos (Classical.not_not.1 h)]
  · rw [show K = 0 by omega, List.drop_zero]
theorem c_open_typeof (v : V3) (L : List V3) : FnC Tryz.prog 120 [sD wTypeof, .c (.vs (vc (v :: L)))] (.tup [vD (2, 0, kindL v.1), iD 0, bD true]) := by
 refine w120 (bs wTypeof) (vc (v :: L)) ?_
 simp only [mk_bs, bs_inj]
 refine ⟨fun _ => ⟨by simp [vc_len], vc_sz _, vc_k _ _ (by omega) (by simp), ?_⟩, fun h => absurd rfl h⟩
 rw [vc_vD _ (0 : Int) (by omega) (by simp)]
 exact ⟨_, c_kind v, _, _, _, _, c_fstr _, rfl⟩
theorem c_open_quote (v : V3) (L : List V3) (hv : Vs v) : FnC Tryz.prog 120 [sD wQuote, .c (.vs (vc (v :: L)))] (.tup [vD (2, 0, quoteL v), iD 0, bD true]) := by
 refine w120 (bs wQuote) (vc (v :: L)) ?_
 simp only [mk_bs, bs_inj]
 refine ⟨fun h => absurd h (by decide), fun _ => ⟨fun _ => ⟨by simp [vc_len], vc_sz _, vc_k _ _ (by omega) (by simp), ?_⟩, fun h => absurd rfl h⟩⟩
 rw [vc_vD _ (0 : Int) (by omega) (by simp)]
 exact ⟨_, c_tQuote v hv.2.1 hv.2.2, _, _, _, _, c_fstr _, rfl⟩
theorem c_open_nullif (a b : V3) (ha : Vs a) (hb : Vs b) : FnC Tryz.prog 120 [sD wNullif, .c (.vs (vc [a, b]))] (.tup [vD (if cmpV a b 0 = 0 then nul else a), iD 0, bD true]) := by
 refine w120 (bs wNullif) (vc [a, b]) ?_
 simp only [mk_bs, bs_inj]
 iterate 4 refine ⟨fun h => absurd h (by decide), fun _ => ?_⟩
 refine ⟨fun _ => ⟨by simp [vc_len], vc_sz _, vc_k _ _ (by omega) (by simp), by simp [vc_len], vc_sz _, vc_k _ _ (by omega) (by simp), ?_⟩, fun h => absurd rfl h⟩
 rw [vc_vD _ (0 : Int) (by omega) (by simp), vc_vD _ (1 : Int) (by omega) (by simp)]
 refine ⟨_, c_vCompare a b 0 ha.2.2.sz hb.2.2.sz, fun h => ⟨by simp [vc_len], vc_sz _, vc_k _ _ (by omega) (by simp), ?_⟩, fun h => ?_⟩
 · rw [if_neg h]; rfl
 · rw [if_pos (Classical.not_not.1 h)]
end Go.Proofs.YtodjimecekaaeaaGreatDoor
namespace Go.Proofs.YtodjimecekaaeaaGreatDoor
open Go.RowKit Go.IntWalk
set_option linter.unusedSimpArgs false
set_option linter.unusedVariables false
def sizeV (f : List UInt8) (v : V3) : V3 × Int :=
 if v.1 = 1 then (if f = wSign then ((1, if 0 < v.2.1 then 1 else if v.2.1 < 0 then -1 else 0, []), 0) else if v.2.1 = -9223372036854775808 then (nul, 9) else ((1, if v.2.1 < 0 then -v.2.1 else v.2.1, []), 0)) else (nul, 11)
theorem c_size (f : List UInt8) (v : V3) (h : I64 v.2.1) : FnC Tryz.prog 136 [sD f, vD v] (.tup [vD (sizeV f v).1, iD (sizeV f v).2]) := by
 refine w136 (bs f) v.1 v.2.1 (bs v.2.2) ?_
 simp only [mk_bs, bs_inj]
 unfold sizeV
 unfold I64 at h
 refine ⟨fun h1 => by rw [if_neg h1], fun h1 => ?_⟩
 rw [if_pos (Classical.not_not.1 h1)]
 refine ⟨fun h2 => ?_, fun h2 => ⟨fun h3 => ?_, fun h3 => ?_⟩⟩
 · rw [if_pos (show f = wSign from h2)]
   refine ⟨_, _, _, _, c_fnum _, ?_⟩
   have e : (if decide ((if decide (-1 < v.2.1) = true then v.2.1 else -1) < 1) = true then (if decide (-1 < v.2.1) = true then v.2.1 else -1) else 1) = if 0 < v.2.1 then 1 else if v.2.1 < 0 then -1 else 0 := by
    simp only [decide_eq_true_eq]; omega
   rw [← e]
 · rw [if_neg (show ¬ f = wSign from h2), if_pos h3]
 · rw [if_neg (show ¬ f = wSign from h2), if_neg h3]
   refine ⟨_, _, _, _, c_fnum _, ?_⟩
   have e : (if decide (v.2.1 < IntKind.wrap .i64 (0 - v.2.1)) = true then IntKind.wrap .i64 (0 - v.2.1) else v.2.1) = if v.2.1 < 0 then -v.2.1 else v.2.1 := by
    rw [i64_in _ (by omega)]
    simp only [decide_eq_true_eq]; omega
   rw [← e]
def trimR (l : List UInt8) : List UInt8 := (l.reverse.dropWhile (· == 32)).reverse
theorem trimR_blank (m : List UInt8) : trimR (m ++ [32]) = trimR m := by simp [trimR]
theorem trimR_other (m : List UInt8) (c : UInt8) (h : c ≠ 32) : trimR (m ++ [c]) = m ++ [c] := by simp [trimR, List.dropWhile_cons, h]
theorem b32 (b : UInt8) : ((b.toNat : Int) = 32) ↔ b = 32 := ⟨fun h => u8_ext (by rw [h]; rfl), fun h => by rw [h]; rfl⟩
theorem c_right (l : List UInt8) (hs : Sm l) : FnC Tryz.prog 143 [sD l] (sD (trimR l)) := by
 unfold Sm at hs
 refine w143 (bs l) ?_
 refine ⟨fun x k => ∃ m : List UInt8, x = bs m ∧ m.length ≤ l.length ∧ trimR l = trimR m ∧ k = m.length, ⟨_, l, rfl, Nat.le_refl _, rfl, rfl⟩, ?_⟩
 rintro k x ⟨m, rfl, hm, ht, rfl⟩
 rw [bs_size, byteAt_bs, b32, ht]
 refine ⟨fun h => by rw [i64_in _ (by omega)]; omega, fun h => ?_, fun h => ?_⟩
 · obtain ⟨h1, h2⟩ := h
   rw [i64_in _ (by omega)] at h2 ⊢
   rw [show ((m.length : Int) - 1).toNat = m.length - 1 by omega] at h2 ⊢
   refine ⟨by omega, m.length - 1, by omega, m.take (m.length - 1), ?_, by rw [List.length_take]; omega, ?_, by rw [List.length_take]; omega⟩
   · rw [bs_extract]; rfl
   · have := take_snoc m (m.length - 1) (by omega)
     rw [show m.length - 1 + 1 = m.length by omega, List.take_length, h2] at this
     rw [← trimR_blank (m.take (m.length - 1)), ← this]
 · by_cases h0 : m.length = 0
   · rw [List.length_eq_zero_iff.1 h0]; rfl
   · have h2 : m.getD (m.length - 1) 0 ≠ 32 := fun e => h ⟨by omega, by rw [i64_in _ (by omega), show ((m.length : Int) - 1).toNat = m.length - 1 by omega]; exact e⟩
     have := take_snoc m (m.length - 1) (by omega)
     rw [show m.length - 1 + 1 = m.length by omega, List.take_length] at this
     have e := trimR_other (m.take (m.length - 1)) _ h2
     rw [← this] at e
     rw [e]
end Go.Proofs.YtodjimecekaaeaaGreatDoor
namespace Go.Proofs.YtodjimecekaaeaaGreatDoor
open Go.RowKit Go.IntWalk
set_option linter.unusedSimpArgs false
set_option linter.unusedVariables false
def trimL (l : List UInt8) : List UInt8 := l.dropWhile (· == 32)
theorem trimL_len : ∀ l : List UInt8, (trimL l).length ≤ l.length
 | [] => by simp [trimL]
 | a :: t => by
  have := trimL_len t
  unfold trimL at this ⊢
  rw [List.dropWhile_cons]
  split
  · simp only [List.length_cons]; omega
  · exact Nat.le_refl _
theorem trimL_drop : ∀ l : List UInt8, l.drop (l.length - (trimL l).length) = trimL l
 | [] => by simp [trimL]
 | a :: t => by
  have h1 := trimL_len t
  have h2 := trimL_drop t
  unfold trimL at h1 h2 ⊢
  rw [List.dropWhile_cons]
  split
  · rw [List.length_cons, show t.length + 1 - (List.dropWhile (· == 32) t).length = (t.length - (List.dropWhile (· == 32) t).length) + 1 by omega, List.drop_succ_cons, h2]
  · rw [Nat.sub_self, List.drop_zero]
theorem trimL_blank (l : List UInt8) (K : Nat) (hK : K < l.length) (h : l.getD K 0 = 32) : trimL (l.drop K) = trimL (l.drop (K + 1)) := by
 rw [drop_c l K hK, h, trimL, List.dropWhile_cons, if_pos (by decide)]; rfl
theorem trimL_other (l : List UInt8) (K : Nat) (hK : K < l.length) (h : l.getD K 0 ≠ 32) : trimL (l.drop K) = l.drop K := by
 rw [drop_c l K hK, trimL, List.dropWhile_cons, if_neg (by simpa using h)]
theorem c_left (l : List UInt8) (hs : Sm l) : FnC Tryz.prog 144 [sD l] (iD ((l.length : Int) - ((trimL l).length : Int))) := by
 unfold Sm at hs
 refine w144 (bs l) ?_
 rw [bs_size]
 refine ⟨fun x k => ∃ K : Nat, x = K ∧ K ≤ l.length ∧ trimL l = trimL (l.drop K) ∧ k = l.length - K, ⟨_, 0, rfl, by omega, by simp, rfl⟩, ?_⟩
 rintro k x ⟨K, rfl, hK, ht, rfl⟩
 rw [Int.toNat_natCast]
 refine ⟨fun hi => ⟨fun h => ?_, fun h => ?_⟩, fun hi => ?_⟩
 · have h32 : l.getD K 0 ≠ 32 := fun e => h (by rw [dec_low l K (by omega) (by rw [e]; decide), e]; rfl)
   rw [ht, trimL_other l K (by omega) h32, List.length_drop, show (l.length : Int) - ((l.length - K : Nat) : Int) = K by omega]
 · have h32 : l.getD K 0 = 32 := by
    by_cases ha : (l.getD K 0).toNat < 128
    · rw [dec_low l K (by omega) ha] at h
      exact (b32 _).1 (Classical.not_not.1 h)
    · have := dec_high l K (by omega) (by omega)
      omega
   rw [dec_low l K (by omega) (by rw [h32]; decide)]
   exact ⟨l.length - (K + 1), by omega, K + 1, by simp, by omega, by rw [ht, trimL_blank l K (by omega) h32], rfl⟩
 · have e : K = l.length := by omega
   rw [ht, e, List.drop_length, show trimL ([] : List UInt8) = [] from rfl, show (l.length : Int) - (([] : List UInt8).length : Int) = l.length by simp]
def tupR (r : V3 × Int) : DV := .tup [vD r.1, iD r.2]
def fitP (r : V3 × Int) : V3 × Int := if r.2 = 0 ∧ 4096 < (r.1.2.2.length : Int) then (nul, 3) else if r.2 = 0 then (r.1, 0) else (nul, r.2)
theorem fitQ_P (r : V3 × Int) : fitQ r.1 r.2 = tupR (fitP r) := by
 unfold fitQ fitP tupR
 split
 · rfl
 · split <;> rfl
theorem ext_left (l : List UInt8) : (bs l).extract ((l.length : Int) - ((trimL l).length : Int)).toNat ((l.length : Nat) : Int).toNat = bs (trimL l) := by
 have := trimL_len l
 rw [bs_extract, Int.toNat_natCast, List.take_length, show ((l.length : Int) - ((trimL l).length : Int)).toNat = l.length - (trimL l).length by omega, trimL_drop]
section
variable (v : V3) (R : List V3) (hv : Vs v)
include hv
theorem c_call_size (f : List UInt8) (hf : f = wAbs ∨ f = wSign) : FnC Tryz.prog 121 [sD f, .c (.vs (vc (v :: R)))] (tupR (sizeV f v)) := by
 refine w121 (bs f) (vc (v :: R)) ⟨by simp [vc_len], vc_sz _, vc_k _ _ (by omega) (by simp), ?_⟩
 rw [vc_vD _ (0 : Int) (by omega) (by simp), vc_0 _ (0 : Int) (by omega) (by simp)]
 refine ⟨_, c_raw v hv, ?_⟩
 simp only [mk_bs, bs_inj]
 rcases hf with rfl | rfl
 · exact ⟨fun _ => ⟨_, _, _, _, c_size wAbs v hv.2.1, rfl⟩, fun h => absurd rfl h⟩
 · exact ⟨fun h => absurd h (by decide), fun _ => ⟨fun _ => ⟨_, _, _, _, c_size wSign v hv.2.1, rfl⟩, fun h => absurd rfl h⟩⟩
theorem c_call_length : FnC Tryz.prog 121 [sD wLength, .c (.vs (vc (v :: R)))] (tupR ((1, ((rawL v).length : Int), []), 0)) := by
 refine w121 (bs wLength) (vc (v :: R)) ⟨by simp [vc_len], vc_sz _, vc_k _ _ (by omega) (by simp), ?_⟩
 rw [vc_vD _ (0 : Int) (by omega) (by simp), vc_0 _ (0 : Int) (by omega) (by simp)]
 refine ⟨_, c_raw v hv, ?_⟩
 simp only [mk_bs, bs_inj, bs_size]
 iterate 2 refine ⟨fun h => absurd h (by decide), fun _ => ?_⟩
 exact ⟨fun _ => ⟨_, _, _, _, c_fnum _, rfl⟩, fun h => absurd rfl h⟩
theorem c_call_hex : FnC Tryz.prog 121 [sD wHex, .c (.vs (vc (v :: R)))] (tupR ((2, 0, hexL (rawL v)), 0)) := by
 refine w121 (bs wHex) (vc (v :: R)) ⟨by simp [vc_len], vc_sz _, vc_k _ _ (by omega) (by simp), ?_⟩
 rw [vc_vD _ (0 : Int) (by omega) (by simp), vc_0 _ (0 : Int) (by omega) (by simp)]
 refine ⟨_, c_raw v hv, ?_⟩
 simp only [mk_bs, bs_inj]
 iterate 3 refine ⟨fun h => absurd h (by decide), fun _ => ?_⟩
 exact ⟨fun _ => ⟨_, c_tHex (rawL v) (rawL_sm hv), _, _, _, _, c_fstr _, rfl⟩, fun h => absurd rfl h⟩
def letV (v : V3) (s : List UInt8) : V3 × Int := if v.1 = 3 then (nul, 11) else ((2, 0, s), 0)
theorem c_call_upper : FnC Tryz.prog 121 [sD wUpper, .c (.vs (vc (v :: R)))] (tupR (letV v (upL (rawL v)))) := by
 refine w121 (bs wUpper) (vc (v :: R)) ⟨by simp [vc_len], vc_sz _, vc_k _ _ (by omega) (by simp), ?_⟩
 rw [vc_vD _ (0 : Int) (by omega) (by simp), vc_0 _ (0 : Int) (by omega) (by simp)]
 refine ⟨_, c_raw v hv, ?_⟩
 have hc := c_upper (rawL v) (rawL_sm hv).sz
 simp only [mk_bs, bs_inj]
 iterate 8 refine ⟨fun h => absurd h (by decide), fun _ => ?_⟩
 refine ⟨fun h => by rw [letV, if_pos (show v.1 = 3 from h)] <;> rfl, fun h => ?_⟩
 rw [letV, if_neg (show ¬ v.1 = 3 from h)]
 exact ⟨fun _ => ⟨_, hc, _, _, _, _, c_fstr _, rfl⟩, fun h => absurd rfl h⟩
theorem c_call_lower : FnC Tryz.prog 121 [sD wLower, .c (.vs (vc (v :: R)))] (tupR (letV v (foldL (rawL v)))) := by
 refine w121 (bs wLower) (vc (v :: R)) ⟨by simp [vc_len], vc_sz _, vc_k _ _ (by omega) (by simp), ?_⟩
 rw [vc_vD _ (0 : Int) (by omega) (by simp), vc_0 _ (0 : Int) (by omega) (by simp)]
 refine ⟨_, c_raw v hv, ?_⟩
 have hc := c_tFold (rawL v) (rawL_sm hv).sz
 simp only [mk_bs, bs_inj]
 iterate 8 refine ⟨fun h => absurd h (by decide), fun _ => ?_⟩
 refine ⟨fun h => by rw [letV, if_pos (show v.1 = 3 from h)] <;> rfl, fun h => ?_⟩
 rw [letV, if_neg (show ¬ v.1 = 3 from h)]
 iterate 1 refine ⟨fun h => absurd h (by decide), fun _ => ?_⟩
 exact ⟨fun _ => ⟨_, hc, _, _, _, _, c_fstr _, rfl⟩, fun h => absurd rfl h⟩
theorem c_call_trim : FnC Tryz.prog 121 [sD wTrim, .c (.vs (vc (v :: R)))] (tupR (letV v (trimR (trimL (rawL v))))) := by
 refine w121 (bs wTrim) (vc (v :: R)) ⟨by simp [vc_len], vc_sz _, vc_k _ _ (by omega) (by simp), ?_⟩
 rw [vc_vD _ (0 : Int) (by omega) (by simp), vc_0 _ (0 : Int) (by omega) (by simp)]
 refine ⟨_, c_raw v hv, ?_⟩
 have hs := rawL_sm hv
 have hl := trimL_len (rawL v)
 have hs2 : Sm (trimL (rawL v)) := by unfold Sm at hs ⊢; omega
 have hc := c_left (rawL v) hs
 have hr := c_right (trimL (rawL v)) hs2
 simp only [mk_bs, bs_inj]
 iterate 8 refine ⟨fun h => absurd h (by decide), fun _ => ?_⟩
 refine ⟨fun h => by rw [letV, if_pos (show v.1 = 3 from h)] <;> rfl, fun h => ?_⟩
 rw [letV, if_neg (show ¬ v.1 = 3 from h)]
 iterate 2 refine ⟨fun h => absurd h (by decide), fun _ => ?_⟩
 refine ⟨fun _ => ⟨_, hc, ?_⟩, fun h => absurd rfl h⟩
 rw [bs_size, ext_left]
 exact ⟨⟨by omega, by omega, by omega⟩, _, hr, _, _, _, _, c_fstr _, rfl⟩
theorem c_call_ltrim : FnC Tryz.prog 121 [sD wLtrim, .c (.vs (vc (v :: R)))] (tupR (letV v (trimL (rawL v)))) := by
 refine w121 (bs wLtrim) (vc (v :: R)) ⟨by simp [vc_len], vc_sz _, vc_k _ _ (by omega) (by simp), ?_⟩
 rw [vc_vD _ (0 : Int) (by omega) (by simp), vc_0 _ (0 : Int) (by omega) (by simp)]
 refine ⟨_, c_raw v hv, ?_⟩
 have hs := rawL_sm hv
 have hl := trimL_len (rawL v)
 have hc := c_left (rawL v) hs
 simp only [mk_bs, bs_inj]
 iterate 8 refine ⟨fun h => absurd h (by decide), fun _ => ?_⟩
 refine ⟨fun h => by rw [letV, if_pos (show v.1 = 3 from h)] <;> rfl, fun h => ?_⟩
 rw [letV, if_neg (show ¬ v.1 = 3 from h)]
 iterate 3 refine ⟨fun h => absurd h (by decide), fun _ => ?_⟩
 refine ⟨fun _ => ⟨_, hc, ?_⟩, fun h => absurd rfl h⟩
 rw [bs_size, ext_left]
 exact ⟨⟨by omega, by omega, by omega⟩, _, _, _, _, c_fstr _, rfl⟩
theorem c_call_rtrim : FnC Tryz.prog 121 [sD wRtrim, .c (.vs (vc (v :: R)))] (tupR (letV v (trimR (rawL v)))) := by
 refine w121 (bs wRtrim) (vc (v :: R)) ⟨by simp [vc_len], vc_sz _, vc_k _ _ (by omega) (by simp), ?_⟩
 rw [vc_vD _ (0 : Int) (by omega) (by simp), vc_0 _ (0 : Int) (by omega) (by simp)]
 refine ⟨_, c_raw v hv, ?_⟩
 have hs := rawL_sm hv
 have hc := c_right (rawL v) hs
 simp only [mk_bs, bs_inj]
 iterate 8 refine ⟨fun h => absurd h (by decide), fun _ => ?_⟩
 refine ⟨fun h => by rw [letV, if_pos (show v.1 = 3 from h)] <;> rfl, fun h => ?_⟩
 rw [letV, if_neg (show ¬ v.1 = 3 from h)]
 iterate 4 refine ⟨fun h => absurd h (by decide), fun _ => ?_⟩
 exact ⟨_, hc, _, _, _, _, c_fstr _, rfl⟩
end
def instrV (a b : V3) : V3 × Int := if (a.1 = 3) ↔ (b.1 = 3) then ((1, findL (rawL a) (rawL b) 0 + 1, []), 0) else (nul, 11)
theorem instrR_V (a b : V3) : instrR a b = tupR (instrV a b) := by
 unfold instrR instrV tupR
 split <;> rfl
theorem c_call_instr' (v a : V3) (hv : Vs v) (ha : Vs a) : FnC Tryz.prog 121 [sD wInstr, .c (.vs (vc [v, a]))] (tupR (instrV v a)) := by
 refine w121 (bs wInstr) (vc [v, a]) ⟨by simp [vc_len], vc_sz _, vc_k _ _ (by omega) (by simp), ?_⟩
 rw [vc_vD _ _ (by omega) (by simp), vc_vD _ (1 : Int) (by omega) (by simp)]
 refine ⟨_, c_raw v hv, ?_⟩
 have hc := c_instr v a hv ha
 rw [instrR_V] at hc
 simp only [mk_bs, bs_inj]
 iterate 4 refine ⟨fun h => absurd h (by decide), fun _ => ?_⟩
 exact ⟨fun _ => ⟨by simp [vc_len], vc_sz _, vc_k _ _ (by omega) (by simp), _, _, _, _, hc, rfl⟩, fun h => absurd rfl h⟩
noncomputable def likeV (a b : V3) : V3 × Int := if a.1 = 2 ∧ b.1 = 2 then ((1, if likB a.2.2 b.2.2 then 1 else 0, []), 0) else (nul, 11)
theorem c_call_like (v a : V3) (hv : Vs v) (ha : Vs a) : FnC Tryz.prog 121 [sD wLike, .c (.vs (vc [v, a]))] (tupR (likeV v a)) := by
 refine w121 (bs wLike) (vc [v, a]) ⟨by simp [vc_len], vc_sz _, vc_k _ _ (by omega) (by simp), ?_⟩
 rw [vc_vD _ _ (by omega) (by simp)]
 refine ⟨_, c_raw v hv, ?_⟩
 have hc := c_Like v.2.2 a.2.2 hv.2.2 ha.2.2
 simp only [mk_bs, bs_inj]
 iterate 5 refine ⟨fun h => absurd h (by decide), fun _ => ?_⟩
 refine ⟨fun _ => ?_, fun h => absurd rfl h⟩
 rw [vc_0 _ (0 : Int) (by omega) (by simp), vc_0 _ (1 : Int) (by omega) (by simp), vc_2 _ (0 : Int) (by omega) (by simp), vc_2 _ (1 : Int) (by omega) (by simp)]
 refine ⟨fun _ => by simp [vc_len], fun _ => vc_sz _, fun _ => vc_k0 _ _ (by omega) (by simp), fun h => ?_, fun h => ?_⟩
 · rw [likeV, if_neg (fun e => h.elim (fun h => h e.1) (fun h => h e.2))]; rfl
 · rw [likeV, if_pos ⟨Classical.not_not.1 fun e => h (.inl e), Classical.not_not.1 fun e => h (.inr e)⟩]
   exact ⟨by simp [vc_len], vc_sz _, vc_k2 _ _ (by omega) (by simp), _, hc, _, _, _, c_vBool _, rfl⟩
def substrV (v : V3) (R : List V3) : V3 × Int := match R with
 | [a] => if a.1 = 1 then (subV v a.2.1 none, 0) else (nul, 11)
 | [a, b] => if a.1 = 1 ∧ b.1 = 1 then (subV v a.2.1 (some b.2.1), 0) else (nul, 11)
 | _ => (nul, 11)
theorem c_call_substr (v : V3) (R : List V3) (hv : Vs v) (hR : ∀ a ∈ R, Vs a) (hn : R.length = 1 ∨ R.length = 2) : FnC Tryz.prog 121 [sD wSubstr, .c (.vs (vc (v :: R)))] (tupR (substrV v R)) := by
 refine w121 (bs wSubstr) (vc (v :: R)) ⟨by simp [vc_len], vc_sz _, vc_k _ _ (by omega) (by simp), ?_⟩
 rw [vc_vD _ _ (by omega) (by simp)]
 refine ⟨_, c_raw v hv, ?_⟩
 have hc : FnC Tryz.prog 141 [.c (.vs (vc (v :: R)))] (tupR (substrV v R)) := by
  match R, hn with
  | [a], _ =>
   have := c_substr2 v a hv (hR a (by simp))
   unfold tupR substrV
   simp only []
   split
   · rename_i h; rw [if_pos h] at this; exact this
   · rename_i h; rw [if_neg h] at this; exact this
  | [a, b], _ =>
   have := c_substr3 v a b hv (hR a (by simp)) (hR b (by simp))
   unfold tupR substrV
   simp only []
   split
   · rename_i h; rw [if_pos h] at this; exact this
   · rename_i h; rw [if_neg h] at this; exact this
  | [], hn => simp at hn
  | _ :: _ :: _ :: _, hn => simp at hn
 simp only [mk_bs, bs_inj]
 iterate 7 refine ⟨fun h => absurd h (by decide), fun _ => ?_⟩
 exact ⟨fun _ => ⟨_, _, _, _, hc, rfl⟩, fun h => absurd rfl h⟩
end Go.Proofs.YtodjimecekaaeaaGreatDoor
namespace Go.Proofs.YtodjimecekaaeaaGreatDoor
open Go.RowKit Go.IntWalk
set_option linter.unusedSimpArgs false
set_option linter.unusedVariables false
theorem findL_at (s t : List UInt8) : ∀ i, findL s t i = -1 ∨ ((i : Int) ≤ findL s t i ∧ findL s t i + t.length ≤ s.length) := fun i => by
 induction h : s.length - i using Nat.strongRecOn generalizing i with
 | _ n ih =>
  rw [findL]
  split
  · split
    · right; omega
    · split
      · rcases ih _ (by omega) (i + 1) rfl with h1 | ⟨h1, h2⟩
        · exact .inl h1
        · right; omega
      · exact .inl rfl
  · exact .inl rfl
def replL (s t u : List UInt8) (i : Nat) : List UInt8 :=
 if h : 0 ≤ findL s t i ∧ 0 < t.length then (s.take (findL s t i).toNat).drop i ++ u ++ replL s t u ((findL s t i).toNat + t.length) else s.drop i
termination_by s.length - i
decreasing_by
 have := findL_at s t i
 omega
def replF (s t u b : List UInt8) (i : Nat) : List UInt8 :=
 if h : (b.length ≤ 4096 ∧ 0 ≤ findL s t i) ∧ 0 < t.length then replF s t u (b ++ (s.take (findL s t i).toNat).drop i ++ u) ((findL s t i).toNat + t.length) else b ++ s.drop i
termination_by s.length - i
decreasing_by
 have := findL_at s t i
 omega
def txt (s : List UInt8) : V3 × Int := ((2, 0, s), 0)
theorem fit_long {s : List UInt8} (h : 4096 < s.length) : fitP (txt s) = (nul, 3) := by
 unfold fitP txt
 rw [if_pos ⟨rfl, by show (4096 : Int) < (s.length : Nat); omega⟩]
theorem fit_F (s t u : List UInt8) : ∀ (n i : Nat), s.length - i ≤ n → ∀ b : List UInt8, fitP (txt (replF s t u b i)) = fitP (txt (b ++ replL s t u i)) := by
 intro n
 induction n using Nat.strongRecOn with
 | _ n ih =>
  intro i hn b
  rw [replF, replL]
  have hf := findL_at s t i
  by_cases h2 : 0 ≤ findL s t i ∧ 0 < t.length
  · by_cases h1 : b.length ≤ 4096
    · rw [dif_pos ⟨⟨h1, h2.1⟩, h2.2⟩, dif_pos h2]
      have := ih (s.length - ((findL s t i).toNat + t.length)) (by omega) _ (Nat.le_refl _) (b ++ (s.take (findL s t i).toNat).drop i ++ u)
      rw [this]
      simp only [List.append_assoc]
    · rw [dif_neg (fun e => h1 e.1.1), dif_pos h2, fit_long (by rw [List.length_append]; omega), fit_long (by rw [List.length_append]; omega)]
  · rw [dif_neg (fun e => h2 ⟨e.1.2, e.2⟩), dif_neg h2]
def replR (s t u : List UInt8) : List UInt8 := if t = [] then s else replL s t u 0
def replC (s t u : List UInt8) : List UInt8 := if t = [] then s else replF s t u [] 0
theorem fit_repl (s t u : List UInt8) : fitP (txt (replC s t u)) = fitP (txt (replR s t u)) := by
 unfold replC replR
 split
 · rfl
 · exact fit_F s t u _ 0 (Nat.le_refl _) []
theorem bc_str' (l : List UInt8) : bs ((bc l).map fun el => UInt8.ofNat (el.getD 0 default).int.toNat) = bs l := bc_str l
def anyB (L : List V3) : Bool := L.any (fun v => v.1 == 3)
def blobR (L : List V3) (s : List UInt8) : V3 × Int := if anyB L = true then (nul, 11) else txt s
theorem anyB_take (L : List V3) (K : Nat) (h : K < L.length) (h1 : anyB (L.take K) = false) (h2 : ¬ (L.getD K nul).1 = 3) : anyB (L.take (K + 1)) = false := by
 unfold anyB at h1 ⊢
 rw [take_v L K h, List.any_append, h1]
 simpa using h2
theorem anyB_yes (L : List V3) (K : Nat) (h : K < L.length) (h2 : (L.getD K nul).1 = 3) : anyB L = true := by
 unfold anyB
 exact List.any_eq_true.2 ⟨_, getD_memV L K h, by simpa using h2⟩
set_option maxHeartbeats 1000000 in
theorem c_replace (v a b : V3) (hv : Vs v) (ha : Vs a) (hb : Vs b) : FnC Tryz.prog 140 [.c (.vs (vc [v, a, b]))] (tupR (blobR [v, a, b] (replC (rawL v) (rawL a) (rawL b)))) := by
 have hc0 := c_raw v hv
 have hc1 := c_raw a ha
 have hc2 := c_raw b hb
 have s0 := rawL_sm hv
 have s1 := rawL_sm ha
 have s2 := rawL_sm hb
 refine w140 (vc [v, a, b]) ?_
 rw [vc_len]
 refine ⟨fun i m => ∃ K : Nat, i = K ∧ K ≤ 3 ∧ anyB ([v, a, b].take K) = false ∧ m = 3 - K, ⟨_, 0, rfl, by omega, rfl, rfl⟩, ?_⟩
 rintro m i ⟨K, rfl, hK, hn, rfl⟩
 have hl : [v, a, b].length = 3 := rfl
 refine ⟨fun hi => ⟨by omega, vc_sz _, vc_k _ _ (by omega) (by omega), ?_⟩, fun hi => ?_⟩
 · rw [vc_0 _ _ (by omega) (by omega), Int.toNat_natCast]
   refine ⟨fun h => ?_, fun h => ?_⟩
   · rw [blobR, if_pos (anyB_yes _ K (by omega) h)]; rfl
   · refine ⟨_, ?_, K + 1, by rw [i64_in _ (by omega)]; omega, by omega, anyB_take _ K (by omega) hn h, rfl⟩
     omega
 · have e : K = 3 := by omega
   subst e
   rw [blobR, if_neg (by rw [show anyB [v, a, b] = false from hn]; simp)]
   rw [vc_vD _ (0 : Int) (by omega) (by simp), vc_vD _ (1 : Int) (by omega) (by simp), vc_vD _ (2 : Int) (by omega) (by simp)]
   refine ⟨by omega, vc_sz _, vc_k _ _ (by omega) (by simp), _, hc0, by omega, vc_sz _, vc_k _ _ (by omega) (by simp), _, hc1, by omega, vc_sz _, vc_k _ _ (by omega) (by simp), _, hc2, ?_⟩
   generalize rawL v = s at *
   generalize rawL a = t at *
   generalize rawL b = u at *
   clear hc0 hc1 hc2
   unfold Sm at s0 s1 s2
   simp only [mk_bs, bs_inj, bs_size]
   refine ⟨fun h => ?_, fun h => ?_⟩
   · rw [replC, if_pos h]
     exact ⟨_, _, _, _, c_fstr _, rfl⟩
   · rw [replC, if_neg h]
     have ht : 0 < t.length := List.length_pos_iff.2 h
     refine ⟨fun rows i m => ∃ (bb : List UInt8) (I : Nat), rows = bc bb ∧ i = I ∧ I ≤ s.length ∧ bb.length ≤ 3000000 ∧ replF s t u [] 0 = replF s t u bb I ∧ m = s.length - I, ⟨_, [], 0, rfl, rfl, by omega, by simp, rfl, rfl⟩, ?_⟩
     rintro m rows i ⟨bb, I, rfl, rfl, hI, hbb, hr, rfl⟩
     have hf := findL_at s t I
     rw [bc_len]
     have he : ∀ n, ((bs s).extract (I : Int).toNat n) = bs ((s.take n).drop I) := fun n => by rw [bs_extract, Int.toNat_natCast]
     have hlen : ∀ n, ((s.take n).drop I).length ≤ s.length := fun n => by rw [List.length_drop, List.length_take]; omega
     have hlast : (s.take s.length).drop I = s.drop I := by rw [List.take_length]
     refine ⟨fun h1 => ⟨_, c_find s t I s0 s1 hI, fun h2 => ?_, fun h2 => ?_⟩, fun h1 => ?_⟩
     · rw [he, bs_size, Int.toNat_natCast]
       have := hlen s.length
       refine ⟨by omega, by omega, ?_⟩
       rintro x8 rfl
       rw [bc_bs, bc_app]
       refine ⟨bc_all _, ?_⟩
       rw [bc_str', hlast, hr, replF, dif_neg (fun e => by omega)]
       exact ⟨_, _, _, _, c_fstr _, rfl⟩
     · rw [he, bs_size]
       have := hlen (findL s t I).toNat
       refine ⟨by omega, by omega, ?_⟩
       rintro x8 rfl
       rw [bc_bs, bc_app, bc_len, List.length_append]
       refine ⟨by omega, ?_⟩
       rintro x9 rfl
       rw [bc_bs, bc_app]
       refine ⟨s.length - ((findL s t I).toNat + t.length), by omega, _, (findL s t I).toNat + t.length, rfl, by rw [i64_in _ (by omega)]; omega, by omega, ?_, ?_, rfl⟩
       · simp only [List.length_append]; omega
       · rw [hr, replF, dif_pos ⟨⟨by omega, by omega⟩, ht⟩]
     · rw [he, bs_size, Int.toNat_natCast]
       have := hlen s.length
       refine ⟨by omega, by omega, ?_⟩
       rintro x8 rfl
       rw [bc_bs, bc_app]
       refine ⟨bc_all _, ?_⟩
       rw [bc_str', hlast, hr, replF, dif_neg (fun e => by omega)]
       exact ⟨_, _, _, _, c_fstr _, rfl⟩
theorem c_call_replace (v a b : V3) (hv : Vs v) (ha : Vs a) (hb : Vs b) : FnC Tryz.prog 121 [sD wReplace, .c (.vs (vc [v, a, b]))] (tupR (blobR [v, a, b] (replC (rawL v) (rawL a) (rawL b)))) := by
 refine w121 (bs wReplace) (vc [v, a, b]) ⟨by simp [vc_len], vc_sz _, vc_k _ _ (by omega) (by simp), ?_⟩
 rw [vc_vD _ _ (by omega) (by simp)]
 refine ⟨_, c_raw v hv, ?_⟩
 have hc := c_replace v a b hv ha hb
 simp only [mk_bs, bs_inj]
 iterate 6 refine ⟨fun h => absurd h (by decide), fun _ => ?_⟩
 exact ⟨fun _ => ⟨_, _, _, _, hc, rfl⟩, fun h => absurd rfl h⟩
theorem fit_blob (L : List V3) (s t : List UInt8) (h : fitP (txt s) = fitP (txt t)) : fitP (blobR L s) = fitP (blobR L t) := by
 unfold blobR
 split
 · rfl
 · exact h
end Go.Proofs.YtodjimecekaaeaaGreatDoor
namespace Go.Proofs.YtodjimecekaaeaaGreatDoor
open Go.RowKit Go.IntWalk
set_option linter.unusedSimpArgs false
set_option linter.unusedVariables false
theorem c_rbytes (v : V3) (h : I64 v.2.1) : FnC Tryz.prog 104 [vD v] (sD (rawL v)) := by
 refine w104 v.1 v.2.1 (bs v.2.2) ?_
 unfold rawL
 refine ⟨fun e => ⟨_, c_r3Num v.2.1 h, ?_⟩, fun e => ?_⟩ <;> simp [e, sD]
theorem c_rfit (v : V3) : FnC Tryz.prog 101 [vD v] (tupR (fitP (v, 0))) := by
 refine w101 v.1 v.2.1 (bs v.2.2) ?_
 rw [bs_size]
 unfold fitP
 refine ⟨fun h => by rw [if_pos ⟨rfl, h⟩] <;> rfl, fun h => by rw [if_neg (fun e => h e.2), if_pos rfl] <;> rfl⟩
theorem c_rstr (s : List UInt8) : FnC Tryz.prog 71 [sD s] (tupR (fitP (txt s))) :=
 w71 (bs s) ⟨_, _, _, _, c_rfit (2, 0, s), rfl⟩
theorem c_rnum (n : Int) : FnC Tryz.prog 106 [iD n] (tupR ((1, n, []), 0)) := by
 refine w106 n ?_
 (try simp only [mk_bs, bs_inj, bs_size, bs_toList, bs_append, byteAt_bs])
 (repeat' (first | with_reducible refine ⟨fun _ => ?_, fun _ => ?_⟩ | fail))
 all_goals (rfl)
def scs (l : List (List UInt8)) : List (List CV) := l.map fun s => [.v (.string (bs s))]
theorem scs_len (l : List (List UInt8)) : (scs l).length = l.length := by simp [scs]
theorem scs_get (l : List (List UInt8)) (i : Nat) (h : i < l.length) : (scs l).getD i [] = [.v (.string (bs (l.getD i [])))] := by simp [scs, h]
theorem scs_k (l : List (List UInt8)) (i : Int) (h0 : 0 ≤ i) (h : i < l.length) : [10] = ((((scs l).getD i.toNat []).drop 0).take 1).map kindC := by rw [scs_get l _ (by omega)]; rfl
theorem scs_0 (l : List (List UInt8)) (i : Int) (h0 : 0 ≤ i) (h : i < l.length) : (cellAt (scs l) i 0).str = bs (l.getD i.toNat []) := by simp only [cellAt]; rw [scs_get l _ (by omega)]; rfl
def ones : List (List UInt8) := [wAbs, wSign, wLength, wUpper, wLower, wTrim, wLtrim, wRtrim, wHex, wQuote, wTypeof]
def arityL (f : List UInt8) : Int × Int :=
 if f ∈ ones then (1, 1)
 else if f = wInstr ∨ f = wIfnull ∨ f = wNullif ∨ f = wLike then (2, 2)
 else if f = wReplace then (3, 3)
 else if f = wSubstr then (2, 3)
 else if f = wCoalesce ∨ f = wConcat then (1, 9223372036854775807)
 else (0, 0)
theorem c_arity (f : List UInt8) : FnC Tryz.prog 100 [sD f] (.tup [iD (arityL f).1, iD (arityL f).2]) := by
 refine w100 (bs f) ?_
 intro x1 h1
 obtain rfl : x1 = scs ones := h1
 rw [scs_len]
 have hl : ones.length = 11 := rfl
 refine ⟨fun i m => ∃ K : Nat, i = K ∧ K ≤ 11 ∧ f ∉ ones.take K ∧ m = 11 - K, ⟨_, 0, rfl, by omega, by simp, rfl⟩, ?_⟩
 rintro m i ⟨K, rfl, hK, hn, rfl⟩
 refine ⟨fun hi => ⟨by omega, scs_k _ _ (by omega) (by omega), ?_⟩, fun hi => ?_⟩
 · rw [scs_0 _ _ (by omega) (by omega), bs_inj, Int.toNat_natCast]
   have hg : ones.getD K [] = ones[K]'(by omega) := by rw [List.getD_eq_getElem?_getD, List.getElem?_eq_getElem (by omega)]; rfl
   rw [hg]
   refine ⟨fun h => ?_, fun h => ?_⟩
   · have : f ∈ ones := by rw [h]; exact List.getElem_mem _
     rw [arityL, if_pos this] <;> rfl
   · refine ⟨_, ?_, K + 1, by rw [i64_in _ (by omega)]; omega, by omega, ?_, rfl⟩
     · omega
     · rw [List.take_succ_eq_append_getElem (by omega)]
       intro hm
       rcases List.mem_append.1 hm with hm | hm
       · exact hn hm
       · exact h (by simpa using hm)
 · have e : K = 11 := by omega
   subst e
   have hn : f ∉ ones := hn
   unfold arityL
   rw [if_neg hn]
   simp only [mk_bs, bs_inj]
   simp only [wInstr, wIfnull, wNullif, wLike, wReplace, wSubstr, wCoalesce, wConcat]
   (repeat' (first | with_reducible refine ⟨fun _ => ?_, fun _ => ?_⟩ | fail))
   all_goals first
    | (rename_i h; subst h; rfl)
    | (simp [*]; done)
    | fail
theorem c_rKnown (op : List UInt8) (n : Int) (hop : Sm op) (hn : n ≤ 9223372036854775807) : FnC Tryz.prog 69 [sD op, iD n] (bD (knownB (foldL op) n)) := by
 refine w69 (bs op) n ⟨bs (foldL op), c_r3Fold op hop, _, _, c_arity (foldL op), ?_⟩
 generalize foldL op = f
 refine congrArg bD ?_
 unfold arityL knownB
 have e : f ∈ ones ↔ (f = wAbs ∨ f = wSign ∨ f = wLength ∨ f = wUpper ∨ f = wLower ∨ f = wTrim ∨ f = wLtrim ∨ f = wRtrim ∨ f = wHex ∨ f = wQuote ∨ f = wTypeof) := by simp [ones]
 by_cases h0 : f ∈ ones
 · rw [if_pos h0, if_pos (e.1 h0), Bool.eq_iff_iff]; simp; omega
 rw [if_neg h0, if_neg (fun x => h0 (e.2 x))]
 by_cases h1 : f = wInstr ∨ f = wIfnull ∨ f = wNullif ∨ f = wLike
 · rw [if_pos h1, if_pos h1, Bool.eq_iff_iff]; simp; omega
 rw [if_neg h1, if_neg h1]
 by_cases h2 : f = wReplace
 · rw [if_pos h2, if_pos h2, Bool.eq_iff_iff]; simp; omega
 rw [if_neg h2, if_neg h2]
 by_cases h3 : f = wSubstr
 · rw [if_pos h3, if_pos h3, Bool.eq_iff_iff]; simp; omega
 rw [if_neg h3, if_neg h3]
 by_cases h4 : f = wCoalesce ∨ f = wConcat
 · rw [if_pos h4, if_pos h4, Bool.eq_iff_iff]; simp; omega
 rw [if_neg h4, if_neg h4]
 rfl
theorem c_rat (s t : List UInt8) (i : Nat) (hs : Sm s) (ht : Sm t) (hi : i ≤ s.length) : FnC Tryz.prog 107 [sD s, sD t, iD i] (iD (findL s t i)) := by
 refine w107 (bs s) (bs t) i ?_
 unfold Sm at hs ht
 simp only [bs_size, bs_extract, bs_inj]
 refine ⟨fun j m => ∃ J : Nat, j = J ∧ J ≤ s.length + 1 ∧ findL s t i = findL s t J ∧ m = s.length + 1 - J, ⟨_, i, rfl, by omega, rfl, rfl⟩, ?_⟩
 rintro m j ⟨J, rfl, hJ, hf, rfl⟩
 rw [i64_in ((J : Int) + t.length) (by omega), show ((J : Int) + t.length).toNat = J + t.length by omega, Int.toNat_natCast]
 rw [hf, findL]
 have e : (s.take (J + t.length)).drop J = (s.drop J).take t.length := by rw [List.drop_take]; congr 1; omega
 rw [e]
 refine ⟨fun h => ⟨by omega, fun h2 => ?_, fun h2 => ?_⟩, fun h => ?_⟩
 · rw [dif_pos (by omega), if_pos h2]
 · have h3 : J < s.length := by
    by_cases h4 : J < s.length
    · exact h4
    · exfalso
      apply h2
      have : t.length = 0 := by omega
      rw [List.length_eq_zero_iff.1 this]; simp
   refine ⟨_, ?_, J + 1, by rw [i64_in _ (by omega)]; omega, by omega, ?_, rfl⟩
   · omega
   · rw [dif_pos (by omega), if_neg h2, dif_pos h3]
 · rw [dif_neg (by omega)]
theorem c_sized (f : List UInt8) (v : V3) (h : I64 v.2.1) (hv : v.1 = 1) (hf : f = wAbs ∨ f = wSign) : FnC Tryz.prog 108 [sD f, iD v.2.1] (tupR (sizeV f v)) := by
 refine w108 (bs f) v.2.1 ?_
 unfold I64 at h
 simp only [mk_bs, bs_inj]
 unfold sizeV
 rw [if_pos hv]
 rcases hf with rfl | rfl
 · refine ⟨fun _ => ?_, fun h => absurd rfl h⟩
   rw [if_neg (by decide)]
   refine ⟨fun h2 => ?_, fun h2 => ?_⟩
   · obtain ⟨h3, h4⟩ := h2
     rw [i64_in (v.2.1 + 1) (by omega), i64_in _ (by omega)] at h4
     rw [if_pos (by omega)] <;> rfl
   · have h3 : ¬ v.2.1 = -9223372036854775808 := fun e => h2 ⟨by omega, by rw [i64_in (v.2.1 + 1) (by omega), i64_in _ (by omega)]; omega⟩
     rw [if_neg h3, i64_in _ (by omega)]
     have e : (if decide (v.2.1 < 0 - v.2.1) = true then 0 - v.2.1 else v.2.1) = if v.2.1 < 0 then -v.2.1 else v.2.1 := by
      simp only [decide_eq_true_eq]; omega
     rw [e]; rfl
 · refine ⟨fun h => absurd h (by decide), fun _ => ?_⟩
   rw [if_pos rfl]
   refine ⟨fun h2 => ?_, fun h2 => ⟨fun h3 => ?_, fun h3 => ?_⟩⟩
   · rw [if_pos h2]; exact ⟨_, _, _, _, c_rnum 1, rfl⟩
   · rw [if_neg h2, if_pos h3]; exact ⟨_, _, _, _, c_rnum (-1), rfl⟩
   · rw [if_neg h2, if_neg h3]; exact ⟨_, _, _, _, c_rnum 0, rfl⟩
theorem small_at (K : Nat) (h : K < 26) : ((⟨#[97, 98, 99, 100, 101, 102, 103, 104, 105, 106, 107, 108, 109, 110, 111, 112, 113, 114, 115, 116, 117, 118, 119, 120, 121, 122]⟩ : ByteArray).extract K (K + 1)) = bs [UInt8.ofNat (97 + K)] := by
 have : ∀ K : Fin 26, ((⟨#[97, 98, 99, 100, 101, 102, 103, 104, 105, 106, 107, 108, 109, 110, 111, 112, 113, 114, 115, 116, 117, 118, 119, 120, 121, 122]⟩ : ByteArray).extract K.1 (K.1 + 1)) = bs [UInt8.ofNat (97 + K.1)] := by decide +kernel
 exact this ⟨K, h⟩
theorem large_at (K : Nat) (h : K < 26) : ((⟨#[65, 66, 67, 68, 69, 70, 71, 72, 73, 74, 75, 76, 77, 78, 79, 80, 81, 82, 83, 84, 85, 86, 87, 88, 89, 90]⟩ : ByteArray).extract K (K + 1)) = bs [UInt8.ofNat (65 + K)] := by
 have : ∀ K : Fin 26, ((⟨#[65, 66, 67, 68, 69, 70, 71, 72, 73, 74, 75, 76, 77, 78, 79, 80, 81, 82, 83, 84, 85, 86, 87, 88, 89, 90]⟩ : ByteArray).extract K.1 (K.1 + 1)) = bs [UInt8.ofNat (65 + K.1)] := by decide +kernel
 exact this ⟨K, h⟩
theorem turn_tab (K : Nat) (h : K < 26) : upp (UInt8.ofNat (97 + K)) = UInt8.ofNat (65 + K) ∧ upp (UInt8.ofNat (65 + K)) = UInt8.ofNat (65 + K) ∧ low (UInt8.ofNat (97 + K)) = UInt8.ofNat (97 + K) ∧ low (UInt8.ofNat (65 + K)) = UInt8.ofNat (97 + K) := by
 have : ∀ K : Fin 26, upp (UInt8.ofNat (97 + K.1)) = UInt8.ofNat (65 + K.1) ∧ upp (UInt8.ofNat (65 + K.1)) = UInt8.ofNat (65 + K.1) ∧ low (UInt8.ofNat (97 + K.1)) = UInt8.ofNat (97 + K.1) ∧ low (UInt8.ofNat (65 + K.1)) = UInt8.ofNat (97 + K.1) := by decide +kernel
 exact this ⟨K, h⟩
theorem turn_else (c : UInt8) (h : ∀ j, j < 26 → c ≠ UInt8.ofNat (97 + j) ∧ c ≠ UInt8.ofNat (65 + j)) : upp c = c ∧ low c = c := by
 have e : ∀ c : UInt8, (∀ j : Fin 26, c ≠ UInt8.ofNat (97 + j.1) ∧ c ≠ UInt8.ofNat (65 + j.1)) → upp c = c ∧ low c = c := by
  intro c
  have : ∀ n : Fin 256, (∀ j : Fin 26, UInt8.ofNat n.1 ≠ UInt8.ofNat (97 + j.1) ∧ UInt8.ofNat n.1 ≠ UInt8.ofNat (65 + j.1)) → upp (UInt8.ofNat n.1) = UInt8.ofNat n.1 ∧ low (UInt8.ofNat n.1) = UInt8.ofNat n.1 := by decide +kernel
  have h2 := this ⟨c.toNat, c.toNat_lt⟩
  simp only [UInt8.ofNat_toNat] at h2
  exact h2
 exact e c fun j => h j.1 j.2
theorem c_turned (c : UInt8) (up : Bool) : FnC Tryz.prog 109 [sD [c], bD up] (sD [if up then upp c else low c]) := by
 refine w109 (bs [c]) up ?_
 refine ⟨fun i m => ∃ K : Nat, i = K ∧ K ≤ 26 ∧ (∀ j, j < K → c ≠ UInt8.ofNat (97 + j) ∧ c ≠ UInt8.ofNat (65 + j)) ∧ m = 26 - K, ⟨_, 0, rfl, by omega, fun j h => by omega, rfl⟩, ?_⟩
 rintro m i ⟨K, rfl, hK, hn, rfl⟩
 refine ⟨fun hi => ?_, fun hi => ?_⟩
 · rw [i64_in _ (by omega), Int.toNat_natCast, show ((K : Int) + 1).toNat = K + 1 by omega, small_at K (by omega), large_at K (by omega), bs_inj, bs_inj]
   obtain ⟨t1, t2, t3, t4⟩ := turn_tab K (by omega)
   refine ⟨by omega, fun _ => by omega, fun h => ⟨fun hu => ⟨by omega, ?_⟩, fun hu => ⟨by omega, ?_⟩⟩, fun h => ⟨_, ?_, K + 1, by omega, by omega, ?_, rfl⟩⟩
   · subst hu
     rcases h with h | h
     · simp only [List.cons.injEq, and_true] at h
       subst h
       rw [if_pos rfl, t1]
     · simp only [List.cons.injEq, and_true] at h
       subst h
       rw [if_pos rfl, t2]
   · rw [if_neg hu]
     rcases h with h | h
     · simp only [List.cons.injEq, and_true] at h
       subst h
       rw [t3]
     · simp only [List.cons.injEq, and_true] at h
       subst h
       rw [t4]
   · omega
   · intro j hj
     by_cases e : j = K
     · subst e
       exact ⟨fun e => h (.inl (by rw [e])), fun e => h (.inr (by rw [e]))⟩
     · exact hn j (by omega)
 · have e : K = 26 := by omega
   subst e
   obtain ⟨h1, h2⟩ := turn_else c hn
   rw [h1, h2, ite_self]
end Go.Proofs.YtodjimecekaaeaaGreatDoor
namespace Go.Proofs.YtodjimecekaaeaaGreatDoor
open Go.RowKit Go.IntWalk
set_option linter.unusedSimpArgs false
set_option linter.unusedVariables false
def trA (f l : List UInt8) : List UInt8 := if f = wRtrim then l else trimL l
def trB (f l : List UInt8) : List UInt8 := if f = wLtrim then l else trimR l
def turnL (f : List UInt8) (c : UInt8) : UInt8 := if (f == wUpper) then upp c else low c
def singleV (f : List UInt8) (v : V3) : V3 × Int :=
 if f = wLength then ((1, ((rawL v).length : Int), []), 0)
 else if f = wHex then txt (hexL (rawL v))
 else if f = wAbs ∨ f = wSign then sizeV f v
 else letV v (if f = wUpper ∨ f = wLower then (rawL v).map (turnL f) else trB f (trA f (rawL v)))
theorem fit_size (f : List UInt8) (v : V3) : fitP (sizeV f v) = sizeV f v := by
 unfold sizeV
 split
 · split
   · rfl
   · split <;> rfl
 · rfl
theorem trimR_last (m : List UInt8) (h0 : 0 < m.length) : m = m.take (m.length - 1) ++ [m.getD (m.length - 1) 0] := by
 have := take_snoc m (m.length - 1) (by omega)
 rw [show m.length - 1 + 1 = m.length by omega, List.take_length] at this
 exact this
theorem c_rsingle (f : List UInt8) (v : V3) (hv : Vs v) : FnC Tryz.prog 75 [sD f, vD v] (tupR (fitP (singleV f v))) := by
 have hb := c_rbytes v hv.2.1
 have hs := rawL_sm hv
 refine w75 (bs f) v.1 v.2.1 (bs v.2.2) ?_
 simp only [mk_bs, bs_inj, bs_toList]
 unfold singleV
 refine ⟨fun h => ?_, fun h0 => ?_⟩
 · rw [if_pos (show f = wLength from h)]
   refine ⟨_, hb, ?_⟩
   rw [bs_size]
   exact ⟨_, _, _, _, c_rnum _, rfl⟩
 rw [if_neg (show ¬ f = wLength from h0)]
 refine ⟨fun h => ?_, fun h1 => ?_⟩
 · rw [if_pos (show f = wHex from h)]
   exact ⟨_, hb, _, c_r3Hex _ hs, _, _, _, _, c_rstr _, rfl⟩
 rw [if_neg (show ¬ f = wHex from h1)]
 have hsz : ∀ hf : f = wAbs ∨ f = wSign, ∀ h : v.1 = 1, FnC Tryz.prog 108 [sD f, iD v.2.1] (tupR (fitP (sizeV f v))) := fun hf h => by
  rw [fit_size]; exact c_sized f v hv.2.1 h hf
 refine ⟨fun h => ⟨fun hk => ?_, fun hk => ?_⟩, fun h2 => ?_⟩
 · rw [if_pos (.inl (show f = wAbs from h)), sizeV, if_neg hk]; rfl
 · rw [if_pos (.inl (show f = wAbs from h))]
   exact ⟨_, _, _, _, hsz (.inl h) (Classical.not_not.1 hk), rfl⟩
 refine ⟨fun h => ⟨fun hk => ?_, fun hk => ?_⟩, fun h3 => ?_⟩
 · rw [if_pos (.inr (show f = wSign from h)), sizeV, if_neg hk]; rfl
 · rw [if_pos (.inr (show f = wSign from h))]
   exact ⟨_, _, _, _, hsz (.inr h) (Classical.not_not.1 hk), rfl⟩
 rw [if_neg (fun e : f = wAbs ∨ f = wSign => e.elim h2 h3)]
 unfold letV
 refine ⟨fun hk => ?_, fun hk => ?_⟩
 · rw [if_pos hk]; rfl
 rw [if_neg hk]
 refine ⟨_, hb, ?_⟩
 unfold Sm at hs
 generalize rawL v = l at *
 refine ⟨fun hu => ?_, fun hu => ?_⟩
 · rw [if_pos (show f = wUpper ∨ f = wLower from hu)]
   simp only [bs_size]
   refine ⟨fun x i k => ∃ K : Nat, i = K ∧ K ≤ l.length ∧ x = bs ((l.take K).map (turnL f)) ∧ k = l.length - K, ⟨_, 0, rfl, by omega, rfl, rfl⟩, ?_⟩
   rintro k x i ⟨K, rfl, hK, rfl, rfl⟩
   refine ⟨fun hi => ?_, fun hi => ?_⟩
   · rw [i64_in _ (by omega), Int.toNat_natCast, show ((K : Int) + 1).toNat = K + 1 by omega]
     have e : (bs l).extract K (K + 1) = bs [l.getD K 0] := by
      rw [bs_extract, take_s l K (by omega), List.drop_append_of_le_length (by rw [List.length_take]; omega), List.drop_of_length_le (by rw [List.length_take]; omega)]; rfl
     rw [e]
     refine ⟨by omega, _, c_turned (l.getD K 0) (f == wUpper), ?_, l.length - (K + 1), by omega, K + 1, by omega, by omega, ?_, rfl⟩
     · simp only [bs_size, List.length_map, List.length_take, List.length_cons, List.length_nil]; omega
     · rw [bs_append, take_s l K (by omega), List.map_append]; rfl
   · have e : K = l.length := by omega
     subst e
     rw [List.take_length]
     exact ⟨_, _, _, _, c_rstr _, rfl⟩
 · rw [if_neg (show ¬ (f = wUpper ∨ f = wLower) from hu)]
   refine ⟨fun x k => ∃ m : List UInt8, x = bs m ∧ m.length ≤ l.length ∧ trA f l = trA f m ∧ k = m.length, ⟨_, l, rfl, Nat.le_refl _, rfl, rfl⟩, ?_⟩
   rintro k x ⟨m, rfl, hm, ht, rfl⟩
   simp only [bs_size, byteAt_bs, b32]
   refine ⟨fun h => by omega, fun h => ?_, fun h => ?_⟩
   · obtain ⟨⟨h4, h5⟩, h6⟩ := h
     refine ⟨by omega, m.length - 1, by omega, m.drop 1, ?_, by rw [List.length_drop]; omega, ?_, by rw [List.length_drop]⟩
     · rw [bs_extract, Int.toNat_natCast, List.take_length]; rfl
     · rw [ht]
       unfold trA
       rw [if_neg (show ¬ f = wRtrim from h4), if_neg (show ¬ f = wRtrim from h4)]
       exact trimL_blank m 0 (by omega) h6
   · have hA : trA f m = m := by
      unfold trA
      split
      · rfl
      · rename_i h4
        by_cases h5 : 0 < m.length
        · have := trimL_other m 0 h5 (fun e => h ⟨⟨h4, by omega⟩, e⟩)
          rwa [List.drop_zero] at this
        · rw [List.length_eq_zero_iff.1 (show m.length = 0 by omega)]; rfl
     rw [ht, hA]
     clear h hA
     refine ⟨fun x k => ∃ m2 : List UInt8, x = bs m2 ∧ m2.length ≤ m.length ∧ trB f m = trB f m2 ∧ k = m2.length, ⟨_, m, rfl, Nat.le_refl _, rfl, rfl⟩, ?_⟩
     rintro k x ⟨m2, rfl, hm2, ht2, rfl⟩
     simp only [bs_size, byteAt_bs, b32]
     refine ⟨fun h => by rw [i64_in _ (by omega)]; omega, fun h => ?_, fun h => ?_⟩
     · obtain ⟨⟨h4, h5⟩, h6⟩ := h
       rw [i64_in _ (by omega)] at h6 ⊢
       rw [show ((m2.length : Int) - 1).toNat = m2.length - 1 by omega] at h6 ⊢
       refine ⟨by omega, m2.length - 1, by omega, m2.take (m2.length - 1), ?_, by rw [List.length_take]; omega, ?_, by rw [List.length_take]; omega⟩
       · rw [bs_extract]; rfl
       · rw [ht2]
         unfold trB
         rw [if_neg (show ¬ f = wLtrim from h4), if_neg (show ¬ f = wLtrim from h4)]
         have := trimR_last m2 (by omega)
         rw [h6] at this
         rw [← trimR_blank (m2.take (m2.length - 1)), ← this]
     · have hB : trB f m2 = m2 := by
        unfold trB
        split
        · rfl
        · rename_i h4
          by_cases h5 : 0 < m2.length
          · have h6 : m2.getD (m2.length - 1) 0 ≠ 32 := fun e => h ⟨⟨h4, by omega⟩, by rw [i64_in _ (by omega), show ((m2.length : Int) - 1).toNat = m2.length - 1 by omega]; exact e⟩
            have := trimR_last m2 (by omega)
            have e := trimR_other (m2.take (m2.length - 1)) _ h6
            rw [← this] at e
            exact e
          · rw [List.length_eq_zero_iff.1 (show m2.length = 0 by omega)]; rfl
       rw [ht2, hB]
       exact ⟨_, _, _, _, c_rstr _, rfl⟩
theorem c_rconcat (L : List V3) (hL : ∀ v ∈ L, Vs v) (hz : ∀ v ∈ L, v.1 = 0 → v.2.2 = []) (hl : L.length ≤ 1000000) : FnC Tryz.prog 73 [.c (.vs (vc L))] (tupR (fitP (catR L))) := by
 refine w73 (vc L) ?_
 rw [vc_len]
 refine ⟨fun x i m => ∃ (K : Nat) (o : List UInt8), i = K ∧ K ≤ L.length ∧ x = bs o ∧ o.length ≤ 2000000 ∧ (o = catL (L.take K) ∨ (4096 < o.length ∧ 4096 < (catL (L.take K)).length)) ∧ anyB (L.take K) = false ∧ m = L.length - K, ⟨_, 0, [], rfl, by omega, rfl, by simp, .inl rfl, rfl, rfl⟩, ?_⟩
 rintro m x i ⟨K, o, rfl, hK, rfl, ho, hoo, hn, rfl⟩
 refine ⟨fun hi => ⟨by omega, vc_sz _, vc_k0 _ _ (by omega) (by omega), ?_⟩, fun hi => ?_⟩
 · rw [vc_vD _ _ (by omega) (by omega), vc_0 _ _ (by omega) (by omega), Int.toNat_natCast]
   have hm := getD_memV L K (by omega)
   have hT := take_v L K (by omega)
   have k0 := vc_k0 L (K : Int) (by omega) (by omega)
   have k3 := vc_k L (K : Int) (by omega) (by omega)
   rw [Int.toNat_natCast] at k0 k3
   refine ⟨fun h => ?_, fun h => ⟨by omega, vc_sz _, k0, fun h2 => ?_, fun h2 => ?_⟩⟩
   · have : anyB L = true := anyB_yes L K (by omega) h
     unfold catR
     rw [if_pos (show L.any (fun v => v.1 == 3) = true from this)]; rfl
   · rw [bs_size] at h2
     have hr := rawL_sm (hL _ hm)
     unfold Sm at hr
     refine ⟨by omega, vc_sz _, k3, _, c_rbytes _ (hL _ hm).2.1, ?_, L.length - (K + 1), by omega, K + 1, o ++ rawL (L.getD K nul), by rw [i64_in _ (by omega)]; omega, by omega, ?_, ?_, ?_, anyB_take L K (by omega) hn h, rfl⟩
     · simp only [bs_size]; omega
     · rw [bs_append]
     · rw [List.length_append]; omega
     · left
       rcases hoo with rfl | h3
       · rw [hT, catL_snoc]
       · omega
   · refine ⟨L.length - (K + 1), by omega, K + 1, o, by rw [i64_in _ (by omega)]; omega, by omega, rfl, ho, ?_, anyB_take L K (by omega) hn h, rfl⟩
     rw [bs_size] at h2
     by_cases h0 : (L.getD K nul).1 = 0
     · have h5 : rawL (L.getD K nul) = [] := by
        unfold rawL
        rw [if_neg (by omega)]
        exact hz _ hm h0
       rw [hT, catL_snoc, h5, List.append_nil]
       exact hoo
     · right
       have h6 : 4096 < o.length := by
        by_cases h7 : (o.length : Int) ≤ 4096
        · exact absurd ⟨h0, h7⟩ h2
        · omega
       refine ⟨h6, ?_⟩
       rw [hT, catL_snoc, List.length_append]
       rcases hoo with rfl | h3
       · omega
       · omega
 · have e : K = L.length := by omega
   subst e
   rw [List.take_length] at hn hoo
   unfold catR
   rw [if_neg (by rw [show L.any (fun v => v.1 == 3) = false from hn]; simp)]
   have e2 : fitP (txt o) = fitP (txt (catL L)) := by
    rcases hoo with rfl | ⟨h1, h2⟩
    · rfl
    · rw [fit_long h1, fit_long h2]
   show ∃ x3 x4 x5 x6, FnC _ _ _ _ ∧ _ = tupR (fitP (txt (catL L)))
   rw [← e2]
   exact ⟨_, _, _, _, c_rstr _, rfl⟩
end Go.Proofs.YtodjimecekaaeaaGreatDoor
namespace Go.Proofs.YtodjimecekaaeaaGreatDoor
open Go.RowKit Go.IntWalk
set_option linter.unusedSimpArgs false
set_option linter.unusedVariables false
def subU (s : List UInt8) (f hi : Int) (K : Nat) : List UInt8 := (s.take (min K hi.toNat)).drop (f - 1).toNat
theorem subU_in (s : List UInt8) (f hi : Int) (K : Nat) (hK : K < s.length) (h1 : f ≤ (K : Int) + 1) (h2 : (K : Int) + 1 ≤ hi) : subU s f hi (K + 1) = subU s f hi K ++ [s.getD K 0] := by
 unfold subU
 rw [show min (K + 1) hi.toNat = K + 1 by omega, show min K hi.toNat = K by omega, take_s s K hK, List.drop_append_of_le_length (by rw [List.length_take]; omega)]
theorem subU_out (s : List UInt8) (f hi : Int) (K : Nat) (hK : K < s.length) (h : ¬ (f ≤ (K : Int) + 1 ∧ (K : Int) + 1 ≤ hi)) : subU s f hi (K + 1) = subU s f hi K := by
 unfold subU
 by_cases h2 : (K : Int) + 1 ≤ hi
 · have h1 : ¬ f ≤ (K : Int) + 1 := fun e => h ⟨e, h2⟩
   rw [List.drop_eq_nil_of_le (by rw [List.length_take]; omega), List.drop_eq_nil_of_le (by rw [List.length_take]; omega)]
 · rw [show min (K + 1) hi.toNat = min K hi.toNat by omega]
def frm (s : List UInt8) (n : Int) : Int := if n < 0 then (s.length : Int) + 1 + n else if n = 0 then 1 else n
def upto (s : List UInt8) (f : Int) (many : Option Int) : Int := match many with
 | none => s.length
 | some m => if m < 1 then 0 else f - 1 + m
theorem subU_all (s : List UInt8) (n : Int) (many : Option Int) : subU s (frm s n) (upto s (frm s n) many) s.length = subL s n many := by
 unfold subU subL
 have e : ∀ k : Nat, s.take (min s.length k) = s.take k := fun k => by
  by_cases h : k ≤ s.length
  · rw [Nat.min_eq_right h]
  · rw [Nat.min_eq_left (by omega), List.take_length, List.take_of_length_le (by omega)]
 rw [e]
 rfl
theorem subU_zero (s : List UInt8) (f hi : Int) : subU s f hi 0 = [] := by simp [subU]
theorem subU_le (s : List UInt8) (f hi : Int) (K : Nat) : (subU s f hi K).length ≤ s.length := by
 unfold subU
 rw [List.length_drop, List.length_take]; omega
theorem one_ext (l : List UInt8) (K : Nat) (h : K < l.length) : (bs l).extract K (K + 1) = bs [l.getD K 0] := by
 rw [bs_extract, take_s l K h, List.drop_append_of_le_length (by rw [List.length_take]; omega), List.drop_of_length_le (by rw [List.length_take]; omega)]; rfl
set_option maxHeartbeats 1000000 in
theorem c_rsubstr2 (v a : V3) (hv : Vs v) (ha : Vs a) : FnC Tryz.prog 105 [.c (.vs (vc [v, a]))] (tupR (fitP (substrV v [a]))) := by
 refine w105 (vc [v, a]) ?_
 rw [vc_len]
 have hl : [v, a].length = 2 := rfl
 have hr := rawL_sm hv
 have hn := ha.2.1
 unfold Sm at hr
 unfold I64 at hn
 refine ⟨by omega, vc_sz _, vc_k0 _ _ (by omega) (by omega), fun h => by omega, fun h => by omega, fun h => by omega, ?_⟩
 rw [vc_0 _ (1 : Int) (by omega) (by simp)]
 refine ⟨fun h => ?_, fun h => ?_⟩
 · have h1 : ¬ a.1 = 1 := by
    rcases h with h | h
    · exact h
    · omega
   rw [substrV, if_neg h1]; rfl
 have h1 : a.1 = 1 := Classical.not_not.1 fun e => h (.inl e)
 rw [substrV, if_pos h1, vc_vD _ (0 : Int) (by omega) (by simp), vc_1 _ (1 : Int) (by omega) (by simp), vc_0 _ (0 : Int) (by omega) (by simp)]
 refine ⟨by omega, vc_sz _, vc_k _ _ (by omega) (by simp), _, c_rbytes v hv.2.1, by omega, vc_sz _, vc_k1 _ _ (by omega) (by simp), ?_⟩
 simp only [show ([v, a] : List V3).getD (0 : Int).toNat nul = v from rfl, show ([v, a] : List V3).getD (1 : Int).toNat nul = a from rfl]
 unfold subV
 rw [← subU_all]
 have hz := subU_le (rawL v)
 generalize rawL v = s at *
 generalize hF : frm s a.2.1 = F
 generalize hH : upto s F none = H
 have hH2 : H = s.length := hH.symm
 unfold frm at hF
 generalize a.2.1 = n at *
 refine ⟨fun h0 => ?_, fun h0 => ⟨fun h2 => ?_, fun h2 => ?_⟩⟩
 all_goals
  rw [bs_size]
  refine ⟨fun x i k => ∃ K : Nat, i = K ∧ K ≤ s.length ∧ x = bs (subU s F H K) ∧ k = s.length - K, ⟨_, 0, rfl, by omega, by rw [subU_zero]; rfl, rfl⟩, ?_⟩
  rintro k x i ⟨K, rfl, hK, rfl, rfl⟩
  refine ⟨fun hi => ?_, fun hi => ?_⟩
  · have hw : IntKind.wrap .i64 ((K : Int) + 1) = (K : Int) + 1 := i64_in _ (by omega)
    have hz2 := hz F H K
    simp only [hw, Int.toNat_natCast, show ((K : Int) + 1).toNat = K + 1 by omega, one_ext s K (by omega), bs_size, List.length_cons, List.length_nil]
    refine ⟨fun h => by omega, fun h => by omega, fun h => by omega, fun h => by omega, fun h => by omega, fun h => by omega, fun h => ?_, fun h => ?_⟩
    · refine ⟨by omega, by omega, s.length - (K + 1), by omega, K + 1, rfl, by omega, ?_, rfl⟩
      rw [subU_in s F H K (by omega) (by
       obtain ⟨h, _⟩ := h
       (try rw [i64_in (n + (s.length : Int)) (by omega), i64_in _ (by omega)] at h)
       omega) (by omega), bs_append]
    · refine ⟨s.length - (K + 1), by omega, K + 1, rfl, by omega, ?_, rfl⟩
      rw [subU_out s F H K (by omega) (fun e => h ⟨by
       (try rw [i64_in (n + (s.length : Int)) (by omega), i64_in _ (by omega)])
       omega, .inl (by omega)⟩)]
  · have e : K = s.length := by omega
    subst e
    refine ⟨by omega, vc_sz _, vc_k0 _ _ (by omega) (by simp), fun h3 => ?_, fun h3 => ?_⟩
    · rw [if_pos h3]; exact ⟨_, _, _, _, c_rfit (3, 0, _), rfl⟩
    · rw [if_neg h3]; exact ⟨_, _, _, _, c_rfit (2, 0, _), rfl⟩
set_option maxHeartbeats 1000000 in
theorem c_rsubstr3 (v a b : V3) (hv : Vs v) (ha : Vs a) (hb : Vs b) : FnC Tryz.prog 105 [.c (.vs (vc [v, a, b]))] (tupR (fitP (substrV v [a, b]))) := by
 refine w105 (vc [v, a, b]) ?_
 rw [vc_len]
 have hl : [v, a, b].length = 3 := rfl
 have hr := rawL_sm hv
 have hn := ha.2.1
 unfold Sm at hr
 unfold I64 at hn
 have vz : (∀ el ∈ vc [v, a, b], el.length = 3) := vc_sz _
 have vk : [4] = ((((vc [v, a, b]).getD (2 : Int).toNat []).drop 1).take 1).map kindC := vc_k1 _ _ (by omega) (by simp)
 refine ⟨by omega, vc_sz _, vc_k0 _ _ (by omega) (by omega), fun h => by omega, fun h => vc_sz _, fun h => vc_k0 _ _ (by omega) (by simp), ?_⟩
 rw [vc_0 _ (1 : Int) (by omega) (by simp), vc_0 _ (2 : Int) (by omega) (by simp)]
 refine ⟨fun h => ?_, fun h => ?_⟩
 · have h1 : ¬ (a.1 = 1 ∧ b.1 = 1) := by
    rcases h with h | h
    · exact fun e => h e.1
    · exact fun e => h.2 e.2
   rw [substrV, if_neg h1]; rfl
 have h1 : a.1 = 1 ∧ b.1 = 1 := ⟨Classical.not_not.1 fun e => h (.inl e), Classical.not_not.1 fun e => h (.inr ⟨by omega, e⟩)⟩
 rw [substrV, if_pos h1, vc_vD _ (0 : Int) (by omega) (by simp), vc_1 _ (1 : Int) (by omega) (by simp), vc_1 _ (2 : Int) (by omega) (by simp), vc_0 _ (0 : Int) (by omega) (by simp)]
 refine ⟨by omega, vc_sz _, vc_k _ _ (by omega) (by simp), _, c_rbytes v hv.2.1, by omega, vc_sz _, vc_k1 _ _ (by omega) (by simp), ?_⟩
 simp only [show ([v, a, b] : List V3).getD (0 : Int).toNat nul = v from rfl, show ([v, a, b] : List V3).getD (1 : Int).toNat nul = a from rfl, show ([v, a, b] : List V3).getD (2 : Int).toNat nul = b from rfl]
 unfold subV
 rw [← subU_all]
 have hz := subU_le (rawL v)
 generalize rawL v = s at *
 generalize hF : frm s a.2.1 = F
 generalize hH : upto s F (some b.2.1) = H
 unfold upto at hH
 simp only [] at hH
 have hm := hb.2.1
 unfold I64 at hm
 generalize b.2.1 = m2 at *
 unfold frm at hF
 generalize a.2.1 = n at *
 refine ⟨fun h0 => ?_, fun h0 => ⟨fun h2 => ?_, fun h2 => ?_⟩⟩
 all_goals
  rw [bs_size]
  refine ⟨fun x i k => ∃ K : Nat, i = K ∧ K ≤ s.length ∧ x = bs (subU s F H K) ∧ k = s.length - K, ⟨_, 0, rfl, by omega, by rw [subU_zero]; rfl, rfl⟩, ?_⟩
  rintro k x i ⟨K, rfl, hK, rfl, rfl⟩
  refine ⟨fun hi => ?_, fun hi => ?_⟩
  · have hw : IntKind.wrap .i64 ((K : Int) + 1) = (K : Int) + 1 := i64_in _ (by omega)
    have hz2 := hz F H K
    simp only [hw, Int.toNat_natCast, show ((K : Int) + 1).toNat = K + 1 by omega, one_ext s K (by omega), bs_size, List.length_cons, List.length_nil]
    refine ⟨fun h => by omega, fun h => vz, fun h => vk, fun h => by omega, fun h => vz, fun h => vk, fun h => ?_, fun h => ?_⟩
    · refine ⟨by omega, by omega, s.length - (K + 1), by omega, K + 1, rfl, by omega, ?_, rfl⟩
      obtain ⟨h4, h5⟩ := h
      rcases h5 with h5 | ⟨h5, h6⟩
      · omega
      · (try rw [i64_in (n + (s.length : Int)) (by omega), i64_in (n + (s.length : Int) + 1) (by omega)] at h4 h6)
        rw [i64_in _ (by omega)] at h6
        rw [subU_in s F H K (by omega) (by omega) (by omega), bs_append]
    · refine ⟨s.length - (K + 1), by omega, K + 1, rfl, by omega, ?_, rfl⟩
      rw [subU_out s F H K (by omega) (fun e => h (by
       (try rw [i64_in (n + (s.length : Int)) (by omega), i64_in (n + (s.length : Int) + 1) (by omega)])
       refine ⟨by omega, .inr ⟨by omega, ?_⟩⟩
       rw [i64_in _ (by omega)]
       omega))]
  · have e : K = s.length := by omega
    subst e
    refine ⟨by omega, vc_sz _, vc_k0 _ _ (by omega) (by simp), fun h3 => ?_, fun h3 => ?_⟩
    · rw [if_pos h3]; exact ⟨_, _, _, _, c_rfit (3, 0, _), rfl⟩
    · rw [if_neg h3]; exact ⟨_, _, _, _, c_rfit (2, 0, _), rfl⟩
end Go.Proofs.YtodjimecekaaeaaGreatDoor
namespace Go.Proofs.YtodjimecekaaeaaGreatDoor
open Go.RowKit Go.IntWalk
set_option linter.unusedSimpArgs false
set_option linter.unusedVariables false
theorem c_rsev_substr (v : V3) (R : List V3) (hv : Vs v) (hR : ∀ a ∈ R, Vs a) (hn : R.length = 1 ∨ R.length = 2) : FnC Tryz.prog 74 [sD wSubstr, .c (.vs (vc (v :: R)))] (tupR (fitP (substrV v R))) := by
 have hc : FnC Tryz.prog 105 [.c (.vs (vc (v :: R)))] (tupR (fitP (substrV v R))) := by
  match R, hn with
  | [a], _ => exact c_rsubstr2 v a hv (hR a (by simp))
  | [a, b], _ => exact c_rsubstr3 v a b hv (hR a (by simp)) (hR b (by simp))
  | [], hn => simp at hn
  | _ :: _ :: _ :: _, hn => simp at hn
 refine w74 (bs wSubstr) (vc (v :: R)) ?_
 simp only [mk_bs, bs_inj]
 exact ⟨fun _ => ⟨_, _, _, _, hc, rfl⟩, fun h => absurd rfl h⟩
theorem fit_like (a b : V3) : fitP (likeV a b) = likeV a b := by
 unfold likeV
 split <;> rfl
theorem c_rsev_like (v a : V3) (hv : Vs v) (ha : Vs a) : FnC Tryz.prog 74 [sD wLike, .c (.vs (vc [v, a]))] (tupR (fitP (likeV v a))) := by
 rw [fit_like]
 have hc := c_rLike v.2.2 a.2.2 hv.2.2 ha.2.2
 refine w74 (bs wLike) (vc [v, a]) ?_
 simp only [mk_bs, bs_inj]
 rw [vc_0 _ (0 : Int) (by omega) (by simp), vc_0 _ (1 : Int) (by omega) (by simp), vc_2 _ (0 : Int) (by omega) (by simp), vc_2 _ (1 : Int) (by omega) (by simp)]
 refine ⟨fun h => absurd h (by decide), fun _ => ⟨fun _ => ?_, fun h => absurd rfl h⟩⟩
 refine ⟨by simp [vc_len], vc_sz _, vc_k0 _ _ (by omega) (by simp), fun _ => by simp [vc_len], fun _ => vc_sz _, fun _ => vc_k0 _ _ (by omega) (by simp), fun h => ?_, fun h => ?_⟩
 · rw [likeV, if_neg (fun e => h.elim (fun h => h e.1) (fun h => h e.2))]; rfl
 · rw [likeV, if_pos ⟨Classical.not_not.1 fun e => h (.inl e), Classical.not_not.1 fun e => h (.inr e)⟩]
   refine ⟨by simp [vc_len], vc_sz _, vc_k2 _ _ (by omega) (by simp), by simp [vc_len], vc_sz _, vc_k2 _ _ (by omega) (by simp), _, hc, fun h => ?_, fun h => ?_⟩
   · rw [h]; exact ⟨_, _, _, _, c_rnum 1, rfl⟩
   · rw [Bool.eq_false_iff.2 h]; exact ⟨_, _, _, _, c_rnum 0, rfl⟩
theorem fit_instr (a b : V3) : fitP (instrV a b) = instrV a b := by
 unfold instrV
 split <;> rfl
theorem c_rsev_instr (v a : V3) (hv : Vs v) (ha : Vs a) : FnC Tryz.prog 74 [sD wInstr, .c (.vs (vc [v, a]))] (tupR (fitP (instrV v a))) := by
 rw [fit_instr]
 have s0 := rawL_sm hv
 have s1 := rawL_sm ha
 refine w74 (bs wInstr) (vc [v, a]) ?_
 simp only [mk_bs, bs_inj]
 rw [vc_vD _ (0 : Int) (by omega) (by simp), vc_vD _ (1 : Int) (by omega) (by simp), vc_0 _ (0 : Int) (by omega) (by simp), vc_0 _ (1 : Int) (by omega) (by simp)]
 refine ⟨fun h => absurd h (by decide), fun _ => ⟨fun h => absurd h (by decide), fun _ => ⟨fun _ => ?_, fun h => absurd rfl h⟩⟩⟩
 have e : (v.1 == 3) = (a.1 == 3) ↔ ((v.1 = 3) ↔ (a.1 = 3)) := by
  by_cases h1 : v.1 = 3 <;> by_cases h2 : a.1 = 3 <;> simp [h1, h2]
  rw [beq_eq_false_iff_ne.2 h1, beq_eq_false_iff_ne.2 h2]
 refine ⟨by simp [vc_len], vc_sz _, vc_k0 _ _ (by omega) (by simp), by simp [vc_len], vc_sz _, vc_k0 _ _ (by omega) (by simp), fun h => ?_, fun h => ?_⟩
 · rw [instrV, if_neg (fun x => h (e.2 x))]; rfl
 · rw [instrV, if_pos (e.1 (Classical.not_not.1 h))]
   refine ⟨by simp [vc_len], vc_sz _, vc_k _ _ (by omega) (by simp), _, c_rbytes v hv.2.1, by simp [vc_len], vc_sz _, vc_k _ _ (by omega) (by simp), _, c_rbytes a ha.2.1, _, c_rat _ _ 0 s0 s1 (by omega), ?_⟩
   have := findL_rng (rawL v) (rawL a) 0
   unfold Sm at s0
   rw [i64_in _ (by omega)]
   exact ⟨_, _, _, _, c_rnum _, rfl⟩
set_option maxHeartbeats 1000000 in
theorem c_rsev_replace (v a b : V3) (hv : Vs v) (ha : Vs a) (hb : Vs b) : FnC Tryz.prog 74 [sD wReplace, .c (.vs (vc [v, a, b]))] (tupR (fitP (blobR [v, a, b] (replR (rawL v) (rawL a) (rawL b))))) := by
 have s0 := rawL_sm hv
 have s1 := rawL_sm ha
 have s2 := rawL_sm hb
 refine w74 (bs wReplace) (vc [v, a, b]) ?_
 simp only [mk_bs, bs_inj]
 rw [vc_vD _ (0 : Int) (by omega) (by simp), vc_vD _ (1 : Int) (by omega) (by simp), vc_vD _ (2 : Int) (by omega) (by simp), vc_0 _ (0 : Int) (by omega) (by simp), vc_0 _ (1 : Int) (by omega) (by simp), vc_0 _ (2 : Int) (by omega) (by simp)]
 have hl : (vc [v, a, b]).length = 3 := rfl
 iterate 3 refine ⟨fun h => absurd h (by decide), fun _ => ?_⟩
 refine ⟨by omega, vc_sz _, vc_k0 _ _ (by omega) (by simp), fun _ => by omega, fun _ => vc_sz _, fun _ => vc_k0 _ _ (by omega) (by simp), fun _ => by omega, fun _ => vc_sz _, fun _ => vc_k0 _ _ (by omega) (by simp), fun h => ?_, fun h => ?_⟩
 · have : anyB [v, a, b] = true := by
    unfold anyB
    rcases h with (h | h) | h
    · simp [show v.1 = 3 from h]
    · simp [show a.1 = 3 from h]
    · simp [show b.1 = 3 from h]
   rw [blobR, if_pos this]; rfl
 have : ¬ anyB [v, a, b] = true := by
  unfold anyB
  have h1 : ¬ v.1 = 3 := fun e => h (.inl (.inl e))
  have h2 : ¬ a.1 = 3 := fun e => h (.inl (.inr e))
  have h3 : ¬ b.1 = 3 := fun e => h (.inr e)
  simp [h1, h2, h3]
 rw [blobR, if_neg this]
 refine ⟨by omega, vc_sz _, vc_k _ _ (by omega) (by simp), _, c_rbytes v hv.2.1, by omega, vc_sz _, vc_k _ _ (by omega) (by simp), _, c_rbytes a ha.2.1, by omega, vc_sz _, vc_k _ _ (by omega) (by simp), _, c_rbytes b hb.2.1, ?_⟩
 clear this h
 generalize rawL v = s at *
 generalize rawL a = t at *
 generalize rawL b = u at *
 have hc := fun i hi => c_rat s t i s0 s1 hi
 unfold Sm at s0 s1 s2
 unfold replR
 rw [bs_inj]
 refine ⟨fun h => ?_, fun h => ?_⟩
 · rw [if_pos h]
   exact ⟨_, _, _, _, c_rstr _, rfl⟩
 rw [if_neg h]
 have ht : 0 < t.length := List.length_pos_iff.2 h
 refine ⟨_, hc 0 (by omega), ?_⟩
 refine ⟨fun o i x k => ∃ (q : List UInt8) (I : Nat), o = bs q ∧ i = I ∧ I ≤ s.length ∧ q.length ≤ 4096 ∧ x = findL s t I ∧ replL s t u 0 = q ++ replL s t u I ∧ k = s.length - I, ⟨_, [], 0, rfl, rfl, by omega, by simp, rfl, rfl, rfl⟩, ?_⟩
 rintro k o i x ⟨q, I, rfl, rfl, hI, hq, rfl, hr, rfl⟩
 have hf := findL_at s t I
 have he : ∀ n, ((bs s).extract (I : Int).toNat n) = bs ((s.take n).drop I) := fun n => by rw [bs_extract, Int.toNat_natCast]
 have hlen : ∀ n, ((s.take n).drop I).length ≤ s.length := fun n => by rw [List.length_drop, List.length_take]; omega
 generalize replL s t u 0 = G at *
 rw [replL] at hr
 refine ⟨fun h1 => ?_, fun h1 => ?_⟩
 · rw [dif_pos ⟨h1, ht⟩] at hr
   have hL := hlen (findL s t I).toNat
   simp only [he, bs_append, bs_size, List.length_append]
   refine ⟨by omega, by omega, by omega, fun h2 => ?_, fun h2 => ?_⟩
   · rw [hr, fit_long (by simp only [List.length_append]; omega)]; rfl
   · have h3 := hc ((findL s t I).toNat + t.length) (by omega)
     rw [i64_in _ (by omega), show findL s t I + (t.length : Int) = (((findL s t I).toNat + t.length : Nat) : Int) by omega]
     refine ⟨_, h3, s.length - ((findL s t I).toNat + t.length), by omega, q ++ (s.take (findL s t I).toNat).drop I ++ u, (findL s t I).toNat + t.length, rfl, rfl, by omega, by simp only [List.length_append]; omega, rfl, ?_, rfl⟩
     rw [hr]; simp only [List.append_assoc]
 · rw [dif_neg (fun e => h1 e.1)] at hr
   have hL := hlen s.length
   rw [bs_size, he, Int.toNat_natCast, bs_append, bs_size, bs_size, List.take_length]
   rw [List.take_length] at hL
   rw [hr]
   exact ⟨by omega, by omega, _, _, _, _, c_rstr _, rfl⟩
end Go.Proofs.YtodjimecekaaeaaGreatDoor
namespace Go.Proofs.YtodjimecekaaeaaGreatDoor
open Go.RowKit Go.IntWalk
set_option linter.unusedSimpArgs false
set_option linter.unusedVariables false
noncomputable def sevV (f : List UInt8) (L : List V3) : V3 × Int :=
 if f = wInstr then instrV (L.getD 0 nul) (L.getD 1 nul)
 else if f = wReplace then blobR L (replR (rawL (L.getD 0 nul)) (rawL (L.getD 1 nul)) (rawL (L.getD 2 nul)))
 else if f = wSubstr then substrV (L.getD 0 nul) L.tail
 else if f = wLike then likeV (L.getD 0 nul) (L.getD 1 nul)
 else singleV f (L.getD 0 nul)
noncomputable def bodyV (f : List UInt8) (L : List V3) : V3 × Int :=
 if f = wTypeof then txt (kindL (L.getD 0 nul).1)
 else if f = wQuote then txt (quoteL (L.getD 0 nul))
 else if f = wConcat then catR L
 else if f = wCoalesce ∨ f = wIfnull then (firstV L, 0)
 else if f = wNullif then (if cmpV (L.getD 0 nul) (L.getD 1 nul) 0 = 0 then nul else L.getD 0 nul, 0)
 else if L.any (fun v => v.1 == 0) = true then (nul, 0)
 else sevV f L
noncomputable def resC (op : List UInt8) (L : List V3) : V3 × Int :=
 if knownB (foldL op) L.length = true then (if badV L = 0 then fitP (bodyV (foldL op) L) else (nul, badV L)) else (nul, 25)
theorem known_cases (f : List UInt8) (n : Int) (h : knownB f n = true) : (f ∈ ones ∧ n = 1) ∨ ((f = wInstr ∨ f = wIfnull ∨ f = wNullif ∨ f = wLike) ∧ n = 2) ∨ (f = wReplace ∧ n = 3) ∨ (f = wSubstr ∧ (n = 2 ∨ n = 3)) ∨ ((f = wCoalesce ∨ f = wConcat) ∧ 1 ≤ n) := by
 unfold knownB at h
 have e : f ∈ ones ↔ (f = wAbs ∨ f = wSign ∨ f = wLength ∨ f = wUpper ∨ f = wLower ∨ f = wTrim ∨ f = wLtrim ∨ f = wRtrim ∨ f = wHex ∨ f = wQuote ∨ f = wTypeof) := by simp [ones]
 rw [e]
 split at h
 · rename_i h0; exact .inl ⟨h0, by simpa using h⟩
 · split at h
   · rename_i h0; exact .inr (.inl ⟨h0, by simpa using h⟩)
   · split at h
     · rename_i h0; exact .inr (.inr (.inl ⟨h0, by simpa using h⟩))
     · split at h
       · rename_i h0; exact .inr (.inr (.inr (.inl ⟨h0, by simpa using h⟩)))
       · split at h
         · rename_i h0; exact .inr (.inr (.inr (.inr ⟨h0, by simpa using h⟩)))
         · cases h
theorem known_one (f : List UInt8) (n : Int) (h : knownB f n = true) (hf : f ∈ ones) : n = 1 := by
 rcases known_cases f n h with ⟨_, h⟩ | ⟨h1, _⟩ | ⟨h1, _⟩ | ⟨h1, _⟩ | ⟨h1, _⟩
 · exact h
 · rcases h1 with rfl | rfl | rfl | rfl <;> exact absurd hf (by decide)
 · subst h1; exact absurd hf (by decide)
 · subst h1; exact absurd hf (by decide)
 · rcases h1 with rfl | rfl <;> exact absurd hf (by decide)
theorem known_two (f : List UInt8) (n : Int) (h : knownB f n = true) (hf : f = wInstr ∨ f = wIfnull ∨ f = wNullif ∨ f = wLike) : n = 2 := by
 rcases known_cases f n h with ⟨h1, _⟩ | ⟨_, h⟩ | ⟨h1, _⟩ | ⟨h1, _⟩ | ⟨h1, _⟩
 · rcases hf with rfl | rfl | rfl | rfl <;> exact absurd h1 (by decide)
 · exact h
 · subst h1; exact absurd hf (by decide)
 · subst h1; exact absurd hf (by decide)
 · rcases h1 with rfl | rfl <;> exact absurd hf (by decide)
theorem known_three (n : Int) (h : knownB wReplace n = true) : n = 3 := by
 rcases known_cases _ n h with ⟨h1, _⟩ | ⟨h1, _⟩ | ⟨_, h⟩ | ⟨h1, _⟩ | ⟨h1, _⟩
 · exact absurd h1 (by decide)
 · exact absurd h1 (by decide)
 · exact h
 · exact absurd h1 (by decide)
 · exact absurd h1 (by decide)
theorem known_sub (n : Int) (h : knownB wSubstr n = true) : n = 2 ∨ n = 3 := by
 rcases known_cases _ n h with ⟨h1, _⟩ | ⟨h1, _⟩ | ⟨h1, _⟩ | ⟨_, h⟩ | ⟨h1, _⟩
 · exact absurd h1 (by decide)
 · exact absurd h1 (by decide)
 · exact absurd h1 (by decide)
 · exact h
 · exact absurd h1 (by decide)
theorem known_all (f : List UInt8) (n : Int) (h : knownB f n = true) : f ∈ ones ∨ f = wInstr ∨ f = wIfnull ∨ f = wNullif ∨ f = wLike ∨ f = wReplace ∨ f = wSubstr ∨ f = wCoalesce ∨ f = wConcat := by
 rcases known_cases f n h with ⟨h1, _⟩ | ⟨h1, _⟩ | ⟨h1, _⟩ | ⟨h1, _⟩ | ⟨h1, _⟩
 · exact .inl h1
 · rcases h1 with h1 | h1 | h1 | h1 <;> simp [h1]
 · simp [h1]
 · simp [h1]
 · rcases h1 with h1 | h1 <;> simp [h1]
theorem known_pos (f : List UInt8) (n : Int) (h : knownB f n = true) : 1 ≤ n := by
 rcases known_cases f n h with ⟨_, h⟩ | ⟨_, h⟩ | ⟨_, h⟩ | ⟨_, h⟩ | ⟨_, h⟩ <;> omega
theorem list1 {L : List V3} (h : (L.length : Int) = 1) : ∃ v, L = [v] := by
 match L, h with
 | [v], _ => exact ⟨v, rfl⟩
 | [], h => simp at h
 | _ :: _ :: _, h => simp at h; omega
theorem list2 {L : List V3} (h : (L.length : Int) = 2) : ∃ v a, L = [v, a] := by
 match L, h with
 | [v, a], _ => exact ⟨v, a, rfl⟩
 | [], h => simp at h
 | [_], h => simp at h
 | _ :: _ :: _ :: _, h => simp at h; omega
theorem list3 {L : List V3} (h : (L.length : Int) = 3) : ∃ v a b, L = [v, a, b] := by
 match L, h with
 | [v, a, b], _ => exact ⟨v, a, b, rfl⟩
 | [], h => simp at h
 | [_], h => simp at h
 | [_, _], h => simp at h
 | _ :: _ :: _ :: _ :: _, h => simp at h; omega
theorem bad_all : ∀ {L : List V3}, badV L = 0 → ∀ v ∈ L, checkV v = 0
 | [], _, v, hv => by cases hv
 | u :: L, h, v, hv => by
  rw [badV] at h
  by_cases h0 : checkV u = 0
  · rw [if_pos h0] at h
    rcases List.mem_cons.1 hv with rfl | hv
    · exact h0
    · exact bad_all h v hv
  · rw [if_neg h0] at h; exact absurd h h0
theorem check_can {v : V3} (h : checkV v = 0) : Can v ∧ (v.2.2.length : Int) ≤ 4096 := by
 unfold checkV at h
 split at h
 · cases h
 · rename_i h0
   split at h
   · cases h
   · exact ⟨h0, by omega⟩
theorem can_null {v : V3} (h : Can v) (h0 : v.1 = 0) : v.2.2 = [] := by
 unfold Can at h
 by_cases e : v.2.2 = []
 · exact e
 · exact absurd (.inr (.inr (.inr ⟨by omega, e⟩))) h
theorem can_nul : Can nul := by simp [Can, nul]
theorem fit_can {r : V3 × Int} (h : Can r.1) : checkV (fitP r).1 = 0 := by
 unfold fitP
 have hn : checkV nul = 0 := by decide
 split
 · exact hn
 · split
   · rename_i h1 h2
     show checkV r.1 = 0
     unfold checkV
     rw [if_neg h, if_neg (fun e => h1 ⟨h2, e⟩)]
   · exact hn
theorem can_txt (s : List UInt8) : Can (txt s).1 := by simp [Can, txt]
theorem can_first : ∀ {L : List V3}, (∀ v ∈ L, Can v) → Can (firstV L)
 | [], _ => can_nul
 | v :: L, h => by
  rw [firstV]
  split
  · exact can_first fun u hu => h u (by simp [hu])
  · exact h v (by simp)
theorem getD_ok (L : List V3) (h : ∀ v ∈ L, Can v) (i : Nat) : Can (L.getD i nul) := by
 by_cases hi : i < L.length
 · exact h _ (getD_memV L i hi)
 · rw [List.getD_eq_getElem?_getD, List.getElem?_eq_none (by omega)]
   exact can_nul
theorem can_num (n : Int) : Can ((1, n, []) : V3) := by simp [Can]
theorem can_single (f : List UInt8) (v : V3) : Can (singleV f v).1 := by
 unfold singleV sizeV letV
 repeat' split
 all_goals first
  | exact can_num _
  | exact can_txt _
  | exact can_nul
  | (simp [Can]; done)
theorem can_sub (v : V3) (n : Int) (m : Option Int) : Can (subV v n m) := by
 unfold subV Can
 split <;> simp
theorem can_substr (v : V3) (R : List V3) : Can (substrV v R).1 := by
 unfold substrV
 split
 · split
   · exact can_sub _ _ _
   · exact can_nul
 · split
   · exact can_sub _ _ _
   · exact can_nul
 · exact can_nul
theorem can_body (f : List UInt8) (L : List V3) (h : ∀ v ∈ L, Can v) : Can (bodyV f L).1 := by
 unfold bodyV
 split
 · exact can_txt _
 split
 · exact can_txt _
 split
 · unfold catR
   split
   · exact can_nul
   · exact can_txt _
 split
 · exact can_first h
 split
 · show Can (if _ then _ else _)
   split
   · exact can_nul
   · exact getD_ok L h 0
 split
 · exact can_nul
 unfold sevV
 split
 · unfold instrV
   split
   · exact can_num _
   · exact can_nul
 split
 · unfold blobR
   split
   · exact can_nul
   · exact can_txt _
 split
 · exact can_substr _ _
 split
 · unfold likeV
   split
   · exact can_num _
   · exact can_nul
 · exact can_single _ _
theorem res_ok (op : List UInt8) (L : List V3) : checkV (resC op L).1 = 0 := by
 have hn : checkV nul = 0 := by decide
 unfold resC
 split
 · split
   · rename_i h
     exact fit_can (can_body _ _ fun v hv => (check_can (bad_all h v hv)).1)
   · exact hn
 · exact hn
end Go.Proofs.YtodjimecekaaeaaGreatDoor
namespace Go.Proofs.YtodjimecekaaeaaGreatDoor
open Go.RowKit Go.IntWalk
set_option linter.unusedSimpArgs false
set_option linter.unusedVariables false
def anyN (L : List V3) : Bool := L.any (fun v => v.1 == 0)
section
variable {op : List UInt8} (hop : Sm op) {L : List V3} (hl : L.length ≤ 1000000) (hk : knownB (foldL op) L.length = true) (hb : badV L = 0)
include hop hl hk hb
theorem call_open (r : V3 × Int) (h : FnC Tryz.prog 120 [sD (foldL op), .c (.vs (vc L))] (.tup [vD r.1, iD r.2, bD true])) (e : bodyV (foldL op) L = r) : FnC Tryz.prog 95 [sD op, .c (.vs (vc L))] (tupR (resC op L)) := by
 have := c_Call op hop L hl r.1 r.2 true nul 0 (fun _ _ => h) (fun _ _ h => by cases h)
 rw [callR, if_pos hk, if_pos hb, if_pos rfl, fitQ_P] at this
 rw [resC, if_pos hk, if_pos hb, e]
 exact this
theorem call_call (r s : V3 × Int) (hf : foldL op ≠ wTypeof ∧ foldL op ≠ wQuote ∧ foldL op ≠ wCoalesce ∧ foldL op ≠ wIfnull ∧ foldL op ≠ wNullif ∧ foldL op ≠ wConcat)
 (h : anyN L = false → FnC Tryz.prog 121 [sD (foldL op), .c (.vs (vc L))] (tupR r)) (hs : fitP r = fitP s) (e : sevV (foldL op) L = s) : FnC Tryz.prog 95 [sD op, .c (.vs (vc L))] (tupR (resC op L)) := by
 have := c_Call op hop L hl nul 0 false r.1 r.2 (fun _ _ => c_open_not (foldL op) L hf) (fun _ _ _ hn => h hn)
 rw [callR, if_pos hk, if_pos hb, if_neg (by simp), fitQ_P] at this
 obtain ⟨h1, h2, h3, h4, h5, h6⟩ := hf
 rw [resC, if_pos hk, if_pos hb, bodyV, if_neg h1, if_neg h2, if_neg h6, if_neg (fun x => x.elim h3 h4), if_neg h5]
 by_cases hn : L.any (fun v => v.1 == 0) = true
 · rw [if_pos hn] at this ⊢
   exact this
 · rw [if_neg hn] at this ⊢
   rw [e, ← hs]
   exact this
end
theorem c_CallV (op : List UInt8) (hop : Sm op) (L : List V3) (hl : L.length ≤ 1000000) (hV : ∀ v ∈ L, Vs v) : FnC Tryz.prog 95 [sD op, .c (.vs (vc L))] (tupR (resC op L)) := by
 by_cases hk : knownB (foldL op) L.length = true
 case neg =>
  have := c_Call op hop L hl nul 0 true nul 0 (fun h => absurd h hk) (fun h => absurd h hk)
  rw [callR, if_neg hk] at this
  rw [resC, if_neg hk]
  exact this
 by_cases hb : badV L = 0
 case neg =>
  have := c_Call op hop L hl nul 0 true nul 0 (fun _ h => absurd h hb) (fun _ h => absurd h hb)
  rw [callR, if_pos hk, if_neg hb] at this
  rw [resC, if_pos hk, if_neg hb]
  exact this
 have CO := fun r => call_open hop hl hk hb r
 have CC := fun r s => call_call hop hl hk hb r s
 generalize foldL op = f at *
 rcases known_all f _ hk with h | h | h | h | h | h | h | h | h
 · obtain ⟨v, rfl⟩ := list1 (known_one f _ hk h)
   have hv := hV v (by simp)
   simp only [ones, List.mem_cons, List.not_mem_nil, or_false] at h
   rcases h with rfl | rfl | rfl | rfl | rfl | rfl | rfl | rfl | rfl | rfl | rfl
   · exact CC _ _ (by decide) (fun _ => c_call_size v [] hv wAbs (.inl rfl)) rfl rfl
   · exact CC _ _ (by decide) (fun _ => c_call_size v [] hv wSign (.inr rfl)) rfl rfl
   · exact CC _ _ (by decide) (fun _ => c_call_length v [] hv) rfl rfl
   · exact CC _ _ (by decide) (fun _ => c_call_upper v [] hv) rfl rfl
   · exact CC _ _ (by decide) (fun _ => c_call_lower v [] hv) rfl rfl
   · exact CC _ _ (by decide) (fun _ => c_call_trim v [] hv) rfl rfl
   · exact CC _ _ (by decide) (fun _ => c_call_ltrim v [] hv) rfl rfl
   · exact CC _ _ (by decide) (fun _ => c_call_rtrim v [] hv) rfl rfl
   · exact CC _ _ (by decide) (fun _ => c_call_hex v [] hv) rfl rfl
   · exact CO (txt (quoteL v)) (c_open_quote v [] hv) rfl
   · exact CO (txt (kindL v.1)) (c_open_typeof v []) rfl
 · subst h
   obtain ⟨v, a, rfl⟩ := list2 (known_two _ _ hk (by simp))
   exact CC _ _ (by decide) (fun _ => c_call_instr' v a (hV v (by simp)) (hV a (by simp))) rfl rfl
 · subst h
   exact CO (firstV L, 0) (c_open_first wIfnull L hl (.inr rfl)) rfl
 · subst h
   obtain ⟨v, a, rfl⟩ := list2 (known_two _ _ hk (by simp))
   exact CO (if cmpV v a 0 = 0 then nul else v, 0) (c_open_nullif v a (hV v (by simp)) (hV a (by simp))) rfl
 · subst h
   obtain ⟨v, a, rfl⟩ := list2 (known_two _ _ hk (by simp))
   exact CC _ _ (by decide) (fun _ => c_call_like v a (hV v (by simp)) (hV a (by simp))) rfl rfl
 · subst h
   obtain ⟨v, a, b, rfl⟩ := list3 (known_three _ hk)
   exact CC _ _ (by decide) (fun _ => c_call_replace v a b (hV v (by simp)) (hV a (by simp)) (hV b (by simp))) (fit_blob _ _ _ (fit_repl _ _ _)) rfl
 · subst h
   match L, known_sub _ hk with
   | [], h => simp at h
   | v :: R, h =>
    exact CC _ _ (by decide) (fun _ => c_call_substr v R (hV v (by simp)) (fun a ha => hV a (by simp [ha])) (by simp only [List.length_cons] at h; omega)) rfl rfl
 · subst h
   exact CO (firstV L, 0) (c_open_first wCoalesce L hl (.inl rfl)) rfl
 · subst h
   exact CO (catR L) (c_open_cat L hV hl) rfl
theorem kind_at (v : V3) (h : Can v) : (cellAt (scs [[110, 117, 108, 108], [105, 110, 116], [116, 101, 120, 116], [98, 108, 111, 98]]) v.1 0).str = bs (kindL v.1) ∧ 0 ≤ v.1 ∧ v.1 < 4 := by
 unfold Can at h
 have h0 : 0 ≤ v.1 ∧ v.1 < 4 := by
  refine ⟨?_, ?_⟩
  · by_cases e : v.1 < 0
    · exact absurd (.inl e) h
    · omega
  · by_cases e : 3 < v.1
    · exact absurd (.inr (.inl e)) h
    · omega
 refine ⟨?_, h0⟩
 rw [scs_0 _ _ h0.1 (by simp; omega)]
 rcases (show v.1 = 0 ∨ v.1 = 1 ∨ v.1 = 2 ∨ v.1 = 3 by omega) with h | h | h | h <;> rw [h] <;> rfl
theorem c_rsev (f : List UInt8) (L : List V3) (hV : ∀ v ∈ L, Vs v) (hk : knownB f L.length = true) (hf : ((f = wInstr ∨ f = wReplace) ∨ f = wSubstr) ∨ f = wLike) : FnC Tryz.prog 74 [sD f, .c (.vs (vc L))] (tupR (fitP (sevV f L))) := by
 rcases hf with ((rfl | rfl) | rfl) | rfl
 · obtain ⟨v, a, rfl⟩ := list2 (known_two _ _ hk (by simp))
   exact c_rsev_instr v a (hV v (by simp)) (hV a (by simp))
 · obtain ⟨v, a, b, rfl⟩ := list3 (known_three _ hk)
   exact c_rsev_replace v a b (hV v (by simp)) (hV a (by simp)) (hV b (by simp))
 · match L, known_sub _ hk with
   | [], h => simp at h
   | v :: R, h => exact c_rsev_substr v R (hV v (by simp)) (fun a ha => hV a (by simp [ha])) (by simp only [List.length_cons] at h; omega)
 · obtain ⟨v, a, rfl⟩ := list2 (known_two _ _ hk (by simp))
   exact c_rsev_like v a (hV v (by simp)) (hV a (by simp))
theorem c_rCallV (op : List UInt8) (hop : Sm op) (L : List V3) (hl : L.length ≤ 1000000) (hV : ∀ v ∈ L, Vs v) : FnC Tryz.prog 40 [sD op, .c (.vs (vc L))] (tupR (resC op L)) := by
 refine w40 (bs op) (vc L) ?_
 rw [vc_len]
 refine ⟨_, c_rKnown op L.length hop (by omega), ?_⟩
 unfold resC
 refine ⟨fun hk => by rw [if_neg hk]; rfl, fun hk => ?_⟩
 have hk := Classical.not_not.1 hk
 rw [if_pos hk]
 refine ⟨fun i m => ∃ K : Nat, i = K ∧ K ≤ L.length ∧ badV L = badV (L.drop K) ∧ m = L.length - K, ⟨_, 0, rfl, by omega, rfl, rfl⟩, ?_⟩
 rintro m i ⟨K, rfl, hK, hb, rfl⟩
 refine ⟨fun hi => ⟨by omega, vc_sz _, vc_k _ _ (by omega) (by omega), ?_⟩, fun hi => ?_⟩
 · rw [vc_vD _ _ (by omega) (by omega), Int.toNat_natCast]
   have hd := drop_v L K (by omega)
   refine ⟨_, c_r4Check _, fun h => ?_, fun h => ?_⟩
   · have e : badV L = checkV (L.getD K nul) := by rw [hb, hd, badV, if_neg h]
     rw [e, if_neg h]; rfl
   · refine ⟨_, ?_, K + 1, by rw [i64_in _ (by omega)]; omega, by omega, ?_, rfl⟩
     · omega
     · rw [hb, hd, badV, if_pos (Classical.not_not.1 h)]
 have e : K = L.length := by omega
 subst e
 rw [List.drop_length] at hb
 have hb : badV L = 0 := hb
 rw [if_pos hb]
 have hC : ∀ v ∈ L, Can v := fun v hv => (check_can (bad_all hb v hv)).1
 have hpos := known_pos _ _ hk
 have g0 := getD_memV L 0 (by omega)
 refine ⟨_, c_r3Fold op hop, ?_⟩
 generalize foldL op = f at *
 simp only [mk_bs, bs_inj]
 unfold bodyV
 refine ⟨fun h => ?_, fun h1 => ?_⟩
 · rw [if_pos (show f = wTypeof from h)]
   intro x5 hx
   obtain rfl : x5 = scs [[110, 117, 108, 108], [105, 110, 116], [116, 101, 120, 116], [98, 108, 111, 98]] := hx
   rw [vc_0 _ (0 : Int) (by omega) (by omega)]
   obtain ⟨e1, e2, e3⟩ := kind_at _ (hC _ g0)
   have e1 : (cellAt (scs [[110, 117, 108, 108], [105, 110, 116], [116, 101, 120, 116], [98, 108, 111, 98]]) (L.getD (Int.toNat 0) nul).1 0).str = bs (kindL (L.getD 0 nul).1) := e1
   rw [e1, scs_len]
   refine ⟨by omega, vc_sz _, vc_k0 _ _ (by omega) (by omega), ⟨e2, e3⟩, scs_k _ _ e2 e3, _, _, _, _, c_rstr _, rfl⟩
 rw [if_neg (show ¬ f = wTypeof from h1)]
 refine ⟨fun h => ?_, fun h2 => ?_⟩
 · rw [if_pos (show f = wQuote from h), vc_vD _ (0 : Int) (by omega) (by omega)]
   exact ⟨by omega, vc_sz _, vc_k _ _ (by omega) (by omega), _, c_r3Quote _ (hV _ g0).2.1 (hV _ g0).2.2, _, _, _, _, c_rstr _, rfl⟩
 rw [if_neg (show ¬ f = wQuote from h2)]
 refine ⟨fun h => ?_, fun h3 => ?_⟩
 · rw [if_pos (show f = wConcat from h)]
   exact ⟨_, _, _, _, c_rconcat L hV (fun v hv h0 => can_null (hC v hv) h0) hl, rfl⟩
 rw [if_neg (show ¬ f = wConcat from h3)]
 have fz : ∀ v : V3, (v.2.2.length : Int) ≤ 4096 → fitP (v, 0) = (v, 0) := fun v h => by
  unfold fitP
  rw [if_neg (fun e => by have := e.2; simp only [] at this; omega), if_pos rfl]
 have fv : ∀ v ∈ L, fitP (v, 0) = (v, 0) := fun v hv => fz v (check_can (bad_all hb v hv)).2
 refine ⟨fun h => ?_, fun h4 => ?_⟩
 · rw [if_pos (show f = wCoalesce ∨ f = wIfnull from h)]
   refine ⟨fun i m => ∃ K : Nat, i = K ∧ K ≤ L.length ∧ firstV L = firstV (L.drop K) ∧ m = L.length - K, ⟨_, 0, rfl, by omega, rfl, rfl⟩, ?_⟩
   rintro m i ⟨K, rfl, hK, hfi, rfl⟩
   refine ⟨fun hi => ⟨by omega, vc_sz _, vc_k0 _ _ (by omega) (by omega), ?_⟩, fun hi => ?_⟩
   · have k3 := vc_k L (K : Int) (by omega) (by omega)
     rw [Int.toNat_natCast] at k3
     rw [vc_vD _ _ (by omega) (by omega), vc_0 _ _ (by omega) (by omega), Int.toNat_natCast]
     have hd := drop_v L K (by omega)
     refine ⟨fun h => ⟨by omega, vc_sz _, k3, ?_⟩, fun h => ?_⟩
     · rw [hfi, hd, firstV, if_neg h, fv _ (getD_memV L K (by omega))]; rfl
     · refine ⟨L.length - (K + 1), by omega, K + 1, by rw [i64_in _ (by omega)]; omega, by omega, ?_, rfl⟩
       rw [hfi, hd, firstV, if_pos (Classical.not_not.1 h)]
   · have e : K = L.length := by omega
     subst e
     rw [hfi, List.drop_length]; rfl
 rw [if_neg (show ¬ (f = wCoalesce ∨ f = wIfnull) from h4)]
 refine ⟨fun h => ?_, fun h5 => ?_⟩
 · have hl2 := known_two f _ hk (.inr (.inr (.inl h)))
   have g1 := getD_memV L 1 (by omega)
   rw [if_pos (show f = wNullif from h), vc_vD _ (0 : Int) (by omega) (by omega), vc_vD _ (1 : Int) (by omega) (by omega)]
   refine ⟨by omega, vc_sz _, vc_k _ _ (by omega) (by omega), by omega, vc_sz _, vc_k _ _ (by omega) (by omega), _, c_r4Compare _ _ 0 (hV _ g0).2.2.sz (hV _ g1).2.2.sz, fun hc => ?_, fun hc => ⟨by omega, vc_sz _, vc_k _ _ (by omega) (by omega), ?_⟩⟩
   · rw [if_pos (show cmpV (L.getD 0 nul) (L.getD 1 nul) 0 = 0 from hc)]; rfl
   · rw [if_neg (show ¬ cmpV (L.getD 0 nul) (L.getD 1 nul) 0 = 0 from hc), fv _ g0]; rfl
 rw [if_neg (show ¬ f = wNullif from h5)]
 refine ⟨fun i m => ∃ K : Nat, i = K ∧ K ≤ L.length ∧ (L.take K).any (fun v => v.1 == 0) = false ∧ m = L.length - K, ⟨_, 0, rfl, by omega, rfl, rfl⟩, ?_⟩
 rintro m i ⟨K, rfl, hK, hn, rfl⟩
 refine ⟨fun hi => ⟨by omega, vc_sz _, vc_k0 _ _ (by omega) (by omega), ?_⟩, fun hi => ?_⟩
 · rw [vc_0 _ _ (by omega) (by omega), Int.toNat_natCast]
   refine ⟨fun h => ?_, fun h => ?_⟩
   · rw [if_pos (List.any_eq_true.2 ⟨_, getD_memV L K (by omega), by simpa using h⟩)]; rfl
   · refine ⟨L.length - (K + 1), by omega, K + 1, by rw [i64_in _ (by omega)]; omega, by omega, ?_, rfl⟩
     rw [take_v L K (by omega), List.any_append, hn]
     simpa using h
 have e : K = L.length := by omega
 subst e
 rw [List.take_length] at hn
 rw [if_neg (by rw [hn]; simp)]
 refine ⟨fun h => ?_, fun h6 => ?_⟩
 · exact ⟨_, _, _, _, c_rsev f L hV hk h, rfl⟩
 · have e : sevV f L = singleV f (L.getD 0 nul) := by
    unfold sevV
    rw [if_neg (show ¬ f = wInstr from fun e => h6 (.inl (.inl (.inl e)))), if_neg (show ¬ f = wReplace from fun e => h6 (.inl (.inl (.inr e)))), if_neg (show ¬ f = wSubstr from fun e => h6 (.inl (.inr e))), if_neg (show ¬ f = wLike from fun e => h6 (.inr e))]
   rw [e, vc_vD _ (0 : Int) (by omega) (by omega)]
   exact ⟨by omega, vc_sz _, vc_k _ _ (by omega) (by omega), _, _, _, _, c_rsingle f _ (hV _ g0), rfl⟩
end Go.Proofs.YtodjimecekaaeaaGreatDoor
