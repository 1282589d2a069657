/- What the small functions of package value and of its document's answer compute. Conditions: numbers of 64 bits, texts that a machine can hold. -/
import Derived.Test.YtdgjcdhomfhfpaaCt4
import Derived.Test.YtdgjcdhomfhfpaaPa
import Derived.Test.YtdgjcdhomfhfpaaDv
import Derived.Lib.IndexAny
import Derived.Test.YtdgjcdhomfhfpaaShelf
namespace Go.Proofs.Ytdgjcdhomfhfpaa
open Go.RowKit Go.IntWalk
set_option linter.unusedSimpArgs false
set_option linter.unusedVariables false

theorem c_strCompare (a b : List UInt8) : FnC Try.prog 47 [sD a, sD b] (iD (Lib.compareBytes a b)) := by
  have := fnC_calls2 Try.func47 (by kernel_rfl) (by kernel_rfl) (by rfl) (Try.strings_Compare (bs a) (bs b))
  rwa [bs_data, bs_data] at this
theorem c_isNaN (x : Int) : FnC Try.prog 55 [iD x] (bD false) := by
  refine w55 x ?_
  (try simp only [mk_bs, bs_inj, bs_size, bs_toList, bs_append, byteAt_bs])
  (repeat' (first | with_reducible refine ⟨fun _ => ?_, fun _ => ?_⟩ | fail))
  all_goals (simp_all)
theorem c_isNaN64 (x : Int) : FnC Try.prog 56 [iD x] (bD false) := by
  refine w56 x ?_
  (try simp only [mk_bs, bs_inj, bs_size, bs_toList, bs_append, byteAt_bs])
  (repeat' (first | with_reducible refine ⟨fun _ => ?_, fun _ => ?_⟩ | fail))
  all_goals (simp_all)
def cmpI (x y : Int) : Int := if x < y then -1 else if y < x then 1 else 0
theorem c_compare (x y : Int) : FnC Try.prog 45 [iD x, iD y] (iD (cmpI x y)) := by
  refine w45 x y ?_
  (try simp only [mk_bs, bs_inj, bs_size, bs_toList, bs_append, byteAt_bs])
  (repeat' (first | (with_reducible refine ⟨_, (c_isNaN _), ?_⟩) | (with_reducible refine ⟨_, _, (c_isNaN _), ?_⟩) | (with_reducible refine ⟨_, _, _, (c_isNaN _), ?_⟩) | (with_reducible refine ⟨_, _, _, _, (c_isNaN _), ?_⟩) | (with_reducible refine ⟨_, fun _ => (c_isNaN _), ?_⟩) | (with_reducible refine ⟨_, _, fun _ => (c_isNaN _), ?_⟩) | (with_reducible refine ⟨_, _, _, fun _ => (c_isNaN _), ?_⟩) | (with_reducible refine ⟨_, _, _, _, fun _ => (c_isNaN _), ?_⟩) | with_reducible refine ⟨fun _ => ?_, fun _ => ?_⟩ | fail))
  all_goals (((try simp only [cmpI] at *); (repeat' split) <;> (first | rfl | (exfalso; omega) | (simp_all; done) | (simp_all; omega))))
theorem c_compare64 (x y : Int) : FnC Try.prog 46 [iD x, iD y] (iD (cmpI x y)) := by
  refine w46 x y ?_
  (try simp only [mk_bs, bs_inj, bs_size, bs_toList, bs_append, byteAt_bs])
  (repeat' (first | (with_reducible refine ⟨_, (c_isNaN64 _), ?_⟩) | (with_reducible refine ⟨_, _, (c_isNaN64 _), ?_⟩) | (with_reducible refine ⟨_, _, _, (c_isNaN64 _), ?_⟩) | (with_reducible refine ⟨_, _, _, _, (c_isNaN64 _), ?_⟩) | (with_reducible refine ⟨_, fun _ => (c_isNaN64 _), ?_⟩) | (with_reducible refine ⟨_, _, fun _ => (c_isNaN64 _), ?_⟩) | (with_reducible refine ⟨_, _, _, fun _ => (c_isNaN64 _), ?_⟩) | (with_reducible refine ⟨_, _, _, _, fun _ => (c_isNaN64 _), ?_⟩) | with_reducible refine ⟨fun _ => ?_, fun _ => ?_⟩ | fail))
  all_goals (((try simp only [cmpI] at *); (repeat' split) <;> (first | rfl | (exfalso; omega) | (simp_all; done) | (simp_all; omega))))

theorem c_vNum (n : Int) : FnC Try.prog 24 [iD n] (vD (1, n, [])) := by
  refine w24 n ?_
  (try simp only [mk_bs, bs_inj, bs_size, bs_toList, bs_append, byteAt_bs])
  (repeat' (first | with_reducible refine ⟨fun _ => ?_, fun _ => ?_⟩ | fail))
  all_goals (rfl)
def bareV (v : V3) : V3 × Bool := if v.1 = 0 then (nul, true) else if v.1 = 1 then ((1, v.2.1, []), true) else if v.1 = 2 ∨ v.1 = 3 then ((v.1, 0, v.2.2), true) else (nul, false)
def checkV (v : V3) : Int := if v.1 < 0 ∨ 3 < v.1 ∨ (v.1 ≠ 1 ∧ v.2.1 ≠ 0) ∨ (v.1 < 2 ∧ v.2.2 ≠ []) then 1 else if 4096 < (v.2.2.length : Int) then 3 else 0
theorem bare_check (v : V3) : ((bareV v).2 = true ∧ v = (bareV v).1) ↔ ¬ (v.1 < 0 ∨ 3 < v.1 ∨ (v.1 ≠ 1 ∧ v.2.1 ≠ 0) ∨ (v.1 < 2 ∧ v.2.2 ≠ [])) := by
  obtain ⟨k, n, s⟩ := v
  simp only [bareV, nul]
  by_cases h0 : k = 0
  · subst h0; simp
  by_cases h1 : k = 1
  · subst h1; simp
  by_cases h2 : k = 2
  · subst h2; simp
  by_cases h3 : k = 3
  · subst h3; simp
  simp [h0, h1, h2, h3]
  omega
def wordsV (v : V3) : List UInt8 × Bool := if v.1 = 1 then (numL v.2.1, true) else if v.1 = 2 then (v.2.2, true) else ([], false)
def textV (v : V3) : List UInt8 := if v.1 = 1 then numL v.2.1 else v.2.2
def numberV (v : V3) : V3 × Int := if v.1 = 1 then (v, 0) else if v.1 = 2 then (if (readL v.2.2).2 ≠ 0 then (nul, (readL v.2.2).2) else ((1, (readL v.2.2).1, []), 0)) else (nul, 11)
end Go.Proofs.Ytdgjcdhomfhfpaa
