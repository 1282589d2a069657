/- What the small functions of package value and of its document's answer compute. Conditions: numbers of 64 bits, texts that a machine can hold. -/
import Derived.Test.YtabakkdlcjpjfaaDoorCt4
import Derived.Test.YtabakkdlcjpjfaaDoorPa
import Derived.Test.YtabakkdlcjpjfaaDoorDv
import Derived.Lib.IndexAny
import Derived.Test.YtabakkdlcjpjfaaDoorShelf
namespace Go.Proofs.YtabakkdlcjpjfaaDoor
open Go.RowKit Go.IntWalk
set_option linter.unusedSimpArgs false
set_option linter.unusedVariables false

theorem c_strCompare (a b : List UInt8) : FnC Tryd.prog 63 [sD a, sD b] (iD (Lib.compareBytes a b)) := by
  have := fnC_calls2 Tryd.func63 (by kernel_rfl) (by kernel_rfl) (by rfl) (Tryd.strings_Compare (bs a) (bs b))
  rwa [bs_data, bs_data] at this
theorem c_isNaN (x : Int) : FnC Tryd.prog 67 [iD x] (bD false) := by
  refine w67 x ?_
  (try simp only [mk_bs, bs_inj, bs_size, bs_toList, bs_append, byteAt_bs])
  (repeat' (first | with_reducible refine ⟨fun _ => ?_, fun _ => ?_⟩ | fail))
  all_goals (simp_all)
theorem c_isNaN64 (x : Int) : FnC Tryd.prog 68 [iD x] (bD false) := by
  refine w68 x ?_
  (try simp only [mk_bs, bs_inj, bs_size, bs_toList, bs_append, byteAt_bs])
  (repeat' (first | with_reducible refine ⟨fun _ => ?_, fun _ => ?_⟩ | fail))
  all_goals (simp_all)
def cmpI (x y : Int) : Int := if x < y then -1 else if y < x then 1 else 0
theorem c_compare (x y : Int) : FnC Tryd.prog 61 [iD x, iD y] (iD (cmpI x y)) := by
  refine w61 x y ?_
  (try simp only [mk_bs, bs_inj, bs_size, bs_toList, bs_append, byteAt_bs])
  (repeat' (first | (with_reducible refine ⟨_, (c_isNaN _), ?_⟩) | (with_reducible refine ⟨_, _, (c_isNaN _), ?_⟩) | (with_reducible refine ⟨_, _, _, (c_isNaN _), ?_⟩) | (with_reducible refine ⟨_, _, _, _, (c_isNaN _), ?_⟩) | (with_reducible refine ⟨_, fun _ => (c_isNaN _), ?_⟩) | (with_reducible refine ⟨_, _, fun _ => (c_isNaN _), ?_⟩) | (with_reducible refine ⟨_, _, _, fun _ => (c_isNaN _), ?_⟩) | (with_reducible refine ⟨_, _, _, _, fun _ => (c_isNaN _), ?_⟩) | with_reducible refine ⟨fun _ => ?_, fun _ => ?_⟩ | fail))
  all_goals (((try simp only [cmpI] at *); (repeat' split) <;> (first | rfl | (exfalso; omega) | (simp_all; done) | (simp_all; omega))))
theorem c_compare64 (x y : Int) : FnC Tryd.prog 62 [iD x, iD y] (iD (cmpI x y)) := by
  refine w62 x y ?_
  (try simp only [mk_bs, bs_inj, bs_size, bs_toList, bs_append, byteAt_bs])
  (repeat' (first | (with_reducible refine ⟨_, (c_isNaN64 _), ?_⟩) | (with_reducible refine ⟨_, _, (c_isNaN64 _), ?_⟩) | (with_reducible refine ⟨_, _, _, (c_isNaN64 _), ?_⟩) | (with_reducible refine ⟨_, _, _, _, (c_isNaN64 _), ?_⟩) | (with_reducible refine ⟨_, fun _ => (c_isNaN64 _), ?_⟩) | (with_reducible refine ⟨_, _, fun _ => (c_isNaN64 _), ?_⟩) | (with_reducible refine ⟨_, _, _, fun _ => (c_isNaN64 _), ?_⟩) | (with_reducible refine ⟨_, _, _, _, fun _ => (c_isNaN64 _), ?_⟩) | with_reducible refine ⟨fun _ => ?_, fun _ => ?_⟩ | fail))
  all_goals (((try simp only [cmpI] at *); (repeat' split) <;> (first | rfl | (exfalso; omega) | (simp_all; done) | (simp_all; omega))))

theorem c_vNum (n : Int) : FnC Tryd.prog 57 [iD n] (vD (1, n, [])) := by
  refine w57 n ?_
  (try simp only [mk_bs, bs_inj, bs_size, bs_toList, bs_append, byteAt_bs])
  (repeat' (first | with_reducible refine ⟨fun _ => ?_, fun _ => ?_⟩ | fail))
  all_goals (rfl)
theorem c_vStr (s : List UInt8) : FnC Tryd.prog 58 [sD s] (vD (2, 0, s)) := by
  refine w58 (bs s) ?_
  (try simp only [mk_bs, bs_inj, bs_size, bs_toList, bs_append, byteAt_bs])
  (repeat' (first | with_reducible refine ⟨fun _ => ?_, fun _ => ?_⟩ | fail))
  all_goals (rfl)
theorem c_vBytes (s : List UInt8) : FnC Tryd.prog 65 [sD s] (vD (3, 0, s)) := by
  refine w65 (bs s) ?_
  (try simp only [mk_bs, bs_inj, bs_size, bs_toList, bs_append, byteAt_bs])
  (repeat' (first | with_reducible refine ⟨fun _ => ?_, fun _ => ?_⟩ | fail))
  all_goals (rfl)
theorem c_vBool (b : Bool) : FnC Tryd.prog 41 [bD b] (vD (1, if b then 1 else 0, [])) := by
  refine w41 b ?_
  (try simp only [mk_bs, bs_inj, bs_size, bs_toList, bs_append, byteAt_bs])
  (repeat' (first | (with_reducible refine ⟨_, (c_vNum _), ?_⟩) | (with_reducible refine ⟨_, _, (c_vNum _), ?_⟩) | (with_reducible refine ⟨_, _, _, (c_vNum _), ?_⟩) | (with_reducible refine ⟨_, _, _, _, (c_vNum _), ?_⟩) | (with_reducible refine ⟨_, fun _ => (c_vNum _), ?_⟩) | (with_reducible refine ⟨_, _, fun _ => (c_vNum _), ?_⟩) | (with_reducible refine ⟨_, _, _, fun _ => (c_vNum _), ?_⟩) | (with_reducible refine ⟨_, _, _, _, fun _ => (c_vNum _), ?_⟩) | with_reducible refine ⟨fun _ => ?_, fun _ => ?_⟩ | fail))
  all_goals (simp_all)
def bareV (v : V3) : V3 × Bool := if v.1 = 0 then (nul, true) else if v.1 = 1 then ((1, v.2.1, []), true) else if v.1 = 2 ∨ v.1 = 3 then ((v.1, 0, v.2.2), true) else (nul, false)
theorem c_bare (v : V3) : FnC Tryd.prog 30 [vD v] (.tup [vD (bareV v).1, bD (bareV v).2]) := by
  refine w30 v.1 v.2.1 (bs v.2.2) ?_
  (try simp only [mk_bs, bs_inj, bs_size, bs_toList, bs_append, byteAt_bs])
  (repeat' (first | (with_reducible refine ⟨_, (c_vNum _), ?_⟩) | (with_reducible refine ⟨_, _, (c_vNum _), ?_⟩) | (with_reducible refine ⟨_, _, _, (c_vNum _), ?_⟩) | (with_reducible refine ⟨_, _, _, _, (c_vNum _), ?_⟩) | (with_reducible refine ⟨_, fun _ => (c_vNum _), ?_⟩) | (with_reducible refine ⟨_, _, fun _ => (c_vNum _), ?_⟩) | (with_reducible refine ⟨_, _, _, fun _ => (c_vNum _), ?_⟩) | (with_reducible refine ⟨_, _, _, _, fun _ => (c_vNum _), ?_⟩) | with_reducible refine ⟨fun _ => ?_, fun _ => ?_⟩ | fail))
  all_goals (((try simp only [bareV, nul] at *); (repeat' split) <;> (first | rfl | (exfalso; omega) | (simp_all; done) | (simp_all; omega))))
def checkV (v : V3) : Int := if v.1 < 0 ∨ 3 < v.1 ∨ (v.1 ≠ 1 ∧ v.2.1 ≠ 0) ∨ (v.1 < 2 ∧ v.2.2 ≠ []) then 1 else if 4096 < (v.2.2.length : Int) then 3 else 0
theorem bare_check (v : V3) : ((bareV v).2 = true ∧ v = (bareV v).1) ↔ ¬ (v.1 < 0 ∨ 3 < v.1 ∨ (v.1 ≠ 1 ∧ v.2.1 ≠ 0) ∨ (v.1 < 2 ∧ v.2.2 ≠ [])) := by
  obtain ⟨k, n, s⟩ := v
  simp only [bareV, nul]
  by_cases h0 : k = 0
  · subst h0; simp
  by_cases h1 : k = 1
  · subst h1; simp
  by_cases h2 : k = 2
  · subst h2; simp
  by_cases h3 : k = 3
  · subst h3; simp
  simp [h0, h1, h2, h3]
  omega
theorem c_vCheck (v : V3) : FnC Tryd.prog 18 [vD v] (iD (checkV v)) := by
  refine w18 v.1 v.2.1 (bs v.2.2) ?_
  refine ⟨_, _, _, _, c_bare v, ?_⟩
  have hb := bare_check v
  have e : (v.1 = (bareV v).1.1 ∧ v.2.1 = (bareV v).1.2.1 ∧ bs v.2.2 = bs (bareV v).1.2.2 ∧ (true = true)) ↔ v = (bareV v).1 := by
    rw [bs_inj]
    constructor
    · rintro ⟨h1, h2, h3, _⟩
      exact Prod.ext h1 (Prod.ext h2 h3)
    · intro h; rw [← h]; simp
  rw [e, bs_size]
  have e2 : (¬ (bareV v).2 = true ∨ ¬ v = (bareV v).1) ↔ (v.1 < 0 ∨ 3 < v.1 ∨ (v.1 ≠ 1 ∧ v.2.1 ≠ 0) ∨ (v.1 < 2 ∧ v.2.2 ≠ [])) := by
    rw [← Classical.not_and_iff_not_or_not, hb, Classical.not_not]
  rw [e2]
  refine ⟨fun h => ?_, fun h => ⟨fun h2 => ?_, fun h2 => ?_⟩⟩
  · simp only [checkV, h, if_true]
  · simp only [checkV, h, h2, if_true, if_false]
  · simp only [checkV, h, h2, if_false]
theorem c_r4Check (v : V3) : FnC Tryd.prog 11 [vD v] (iD (checkV v)) := by
  refine w11 v.1 v.2.1 (bs v.2.2) ?_
  simp only [mk_bs, bs_inj, bs_size]
  have e2 : (((v.1 < 0 ∨ 3 < v.1) ∨ ¬ v.1 = 1 ∧ ¬ v.2.1 = 0) ∨ v.1 < 2 ∧ ¬ v.2.2 = []) ↔ (v.1 < 0 ∨ 3 < v.1 ∨ (v.1 ≠ 1 ∧ v.2.1 ≠ 0) ∨ (v.1 < 2 ∧ v.2.2 ≠ [])) := by
    simp only [or_assoc, ne_eq]
  rw [e2]
  refine ⟨fun h => ?_, fun h => ⟨fun h2 => ?_, fun h2 => ?_⟩⟩
  · simp only [checkV, h, if_true]
  · simp only [checkV, h, h2, if_true, if_false]
  · simp only [checkV, h, h2, if_false]
def wordsV (v : V3) : List UInt8 × Bool := if v.1 = 1 then (numL v.2.1, true) else if v.1 = 2 then (v.2.2, true) else ([], false)
def textV (v : V3) : List UInt8 := if v.1 = 1 then numL v.2.1 else v.2.2
def numberV (v : V3) : V3 × Int := if v.1 = 1 then (v, 0) else if v.1 = 2 then (if (readL v.2.2).2 ≠ 0 then (nul, (readL v.2.2).2) else ((1, (readL v.2.2).1, []), 0)) else (nul, 11)
end Go.Proofs.YtabakkdlcjpjfaaDoor
