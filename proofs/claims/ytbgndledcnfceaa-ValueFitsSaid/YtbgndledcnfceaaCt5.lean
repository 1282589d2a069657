/- What the small functions of package value and of its document's answer compute. Conditions: numbers of 64 bits, texts that a machine can hold. -/
import Derived.Test.YtbgndledcnfceaaCt4
import Derived.Test.YtbgndledcnfceaaPa
import Derived.Lib.IndexAny
import Derived.Test.YtbgndledcnfceaaShelf
namespace Go.Proofs.Ytbgndledcnfceaa
open Go.RowKit Go.IntWalk
set_option linter.unusedSimpArgs false
set_option linter.unusedVariables false

abbrev V3 := Int × Int × List UInt8
abbrev iD (n : Int) : DV := .c (.v (.int .i64 n))
abbrev bD (b : Bool) : DV := .c (.v (.bool b))
abbrev sD (l : List UInt8) : DV := .c (.v (.string (bs l)))
abbrev vD (v : V3) : DV := .agg [.v (.int .i64 v.1), .v (.int .i64 v.2.1), .v (.string (bs v.2.2))]
abbrev nul : V3 := (0, 0, [])
abbrev I64 (n : Int) : Prop := -9223372036854775808 ≤ n ∧ n ≤ 9223372036854775807

theorem cells2 {w : World} {X : Nat → Prop} {a b : Value} {vs : List Value} (h : DVRs w X [.c (.v a), .c (.v b)] vs) : vs = [a, b] := by
  match vs, h with
  | [x, y], h =>
    simp only [DVRs, DVR] at h
    obtain ⟨h1, h2, _⟩ := h
    cases h1
    cases h2
    rfl
  | [], h => simp [DVRs] at h
  | [_], h => simp [DVRs] at h
  | _ :: _ :: _ :: _, h => simp [DVRs] at h
theorem fnC_calls2 {P : Program} {f : FuncId} {fn : Func} (hf : P.funcs[f]? = some fn) (hn : (fn.name == "runtime.NumGoroutine") = false) (hb : fn.body.isNone = false) {a b v : Value} (hv : v.oneCell' = true)
    (h : ∀ w, Calls P f #[a, b] w fun e w' => e = .returned v ∧ w' = w) : FnC P f [.c (.v a), .c (.v b)] (.c (.v v)) :=
  ⟨canEnter_of hf hn hb, fun w X vs _ hvs => by
    rw [cells2 hvs]
    refine (h w).mono ?_
    rintro e w' ⟨rfl, rfl⟩
    refine ⟨v, rfl, ?_, Below.refl _ _⟩
    simp only [DVR]
    exact .v v hv⟩
theorem c_strCompare (a b : List UInt8) : FnC Try.prog 34 [sD a, sD b] (iD (Lib.compareBytes a b)) := by
  have := fnC_calls2 Try.func34 (by kernel_rfl) (by kernel_rfl) (by rfl) (Try.strings_Compare (bs a) (bs b))
  rwa [bs_data, bs_data] at this
theorem c_contains (a : List UInt8) (c : UInt8) : FnC Try.prog 38 [sD a, sD [c]] (bD (a.contains c)) := by
  have := fnC_calls2 Try.func38 (by kernel_rfl) (by kernel_rfl) (by rfl) (Try.strings_Contains_one (bs a) c)
  rw [bs_data] at this
  rwa [Lib.contains_iff_indexByte]
theorem c_isNaN (x : Int) : FnC Try.prog 47 [iD x] (bD false) := by
  refine w47 x ?_
  (try simp only [mk_bs, bs_inj, bs_size, bs_toList, bs_append, byteAt_bs])
  (repeat' (first | with_reducible refine ⟨fun _ => ?_, fun _ => ?_⟩ | fail))
  all_goals (simp_all)
theorem c_isNaN64 (x : Int) : FnC Try.prog 48 [iD x] (bD false) := by
  refine w48 x ?_
  (try simp only [mk_bs, bs_inj, bs_size, bs_toList, bs_append, byteAt_bs])
  (repeat' (first | with_reducible refine ⟨fun _ => ?_, fun _ => ?_⟩ | fail))
  all_goals (simp_all)
def cmpI (x y : Int) : Int := if x < y then -1 else if y < x then 1 else 0
theorem c_compare (x y : Int) : FnC Try.prog 32 [iD x, iD y] (iD (cmpI x y)) := by
  refine w32 x y ?_
  (try simp only [mk_bs, bs_inj, bs_size, bs_toList, bs_append, byteAt_bs])
  (repeat' (first | (with_reducible refine ⟨_, (c_isNaN _), ?_⟩) | (with_reducible refine ⟨_, _, (c_isNaN _), ?_⟩) | (with_reducible refine ⟨_, _, _, (c_isNaN _), ?_⟩) | (with_reducible refine ⟨_, _, _, _, (c_isNaN _), ?_⟩) | (with_reducible refine ⟨_, fun _ => (c_isNaN _), ?_⟩) | (with_reducible refine ⟨_, _, fun _ => (c_isNaN _), ?_⟩) | (with_reducible refine ⟨_, _, _, fun _ => (c_isNaN _), ?_⟩) | (with_reducible refine ⟨_, _, _, _, fun _ => (c_isNaN _), ?_⟩) | with_reducible refine ⟨fun _ => ?_, fun _ => ?_⟩ | fail))
  all_goals (((try simp only [cmpI] at *); (repeat' split) <;> (first | rfl | (exfalso; omega) | (simp_all; done) | (simp_all; omega))))
theorem c_compare64 (x y : Int) : FnC Try.prog 33 [iD x, iD y] (iD (cmpI x y)) := by
  refine w33 x y ?_
  (try simp only [mk_bs, bs_inj, bs_size, bs_toList, bs_append, byteAt_bs])
  (repeat' (first | (with_reducible refine ⟨_, (c_isNaN64 _), ?_⟩) | (with_reducible refine ⟨_, _, (c_isNaN64 _), ?_⟩) | (with_reducible refine ⟨_, _, _, (c_isNaN64 _), ?_⟩) | (with_reducible refine ⟨_, _, _, _, (c_isNaN64 _), ?_⟩) | (with_reducible refine ⟨_, fun _ => (c_isNaN64 _), ?_⟩) | (with_reducible refine ⟨_, _, fun _ => (c_isNaN64 _), ?_⟩) | (with_reducible refine ⟨_, _, _, fun _ => (c_isNaN64 _), ?_⟩) | (with_reducible refine ⟨_, _, _, _, fun _ => (c_isNaN64 _), ?_⟩) | with_reducible refine ⟨fun _ => ?_, fun _ => ?_⟩ | fail))
  all_goals (((try simp only [cmpI] at *); (repeat' split) <;> (first | rfl | (exfalso; omega) | (simp_all; done) | (simp_all; omega))))

theorem c_vNum (n : Int) : FnC Try.prog 16 [iD n] (vD (1, n, [])) := by
  refine w16 n ?_
  (try simp only [mk_bs, bs_inj, bs_size, bs_toList, bs_append, byteAt_bs])
  (repeat' (first | with_reducible refine ⟨fun _ => ?_, fun _ => ?_⟩ | fail))
  all_goals (rfl)
theorem c_vStr (s : List UInt8) : FnC Try.prog 18 [sD s] (vD (2, 0, s)) := by
  refine w18 (bs s) ?_
  (try simp only [mk_bs, bs_inj, bs_size, bs_toList, bs_append, byteAt_bs])
  (repeat' (first | with_reducible refine ⟨fun _ => ?_, fun _ => ?_⟩ | fail))
  all_goals (rfl)
theorem c_vBytes (s : List UInt8) : FnC Try.prog 20 [sD s] (vD (3, 0, s)) := by
  refine w20 (bs s) ?_
  (try simp only [mk_bs, bs_inj, bs_size, bs_toList, bs_append, byteAt_bs])
  (repeat' (first | with_reducible refine ⟨fun _ => ?_, fun _ => ?_⟩ | fail))
  all_goals (rfl)
theorem c_r4Num (n : Int) : FnC Try.prog 17 [iD n] (vD (1, n, [])) := by
  refine w17 n ?_
  (try simp only [mk_bs, bs_inj, bs_size, bs_toList, bs_append, byteAt_bs])
  (repeat' (first | with_reducible refine ⟨fun _ => ?_, fun _ => ?_⟩ | fail))
  all_goals (rfl)
theorem c_r4Str (s : List UInt8) : FnC Try.prog 19 [sD s] (vD (2, 0, s)) := by
  refine w19 (bs s) ?_
  (try simp only [mk_bs, bs_inj, bs_size, bs_toList, bs_append, byteAt_bs])
  (repeat' (first | with_reducible refine ⟨fun _ => ?_, fun _ => ?_⟩ | fail))
  all_goals (rfl)
theorem c_r4Bytes (s : List UInt8) : FnC Try.prog 21 [sD s] (vD (3, 0, s)) := by
  refine w21 (bs s) ?_
  (try simp only [mk_bs, bs_inj, bs_size, bs_toList, bs_append, byteAt_bs])
  (repeat' (first | with_reducible refine ⟨fun _ => ?_, fun _ => ?_⟩ | fail))
  all_goals (rfl)
theorem c_vBool (b : Bool) : FnC Try.prog 22 [bD b] (vD (1, if b then 1 else 0, [])) := by
  refine w22 b ?_
  (try simp only [mk_bs, bs_inj, bs_size, bs_toList, bs_append, byteAt_bs])
  (repeat' (first | (with_reducible refine ⟨_, (c_vNum _), ?_⟩) | (with_reducible refine ⟨_, _, (c_vNum _), ?_⟩) | (with_reducible refine ⟨_, _, _, (c_vNum _), ?_⟩) | (with_reducible refine ⟨_, _, _, _, (c_vNum _), ?_⟩) | (with_reducible refine ⟨_, fun _ => (c_vNum _), ?_⟩) | (with_reducible refine ⟨_, _, fun _ => (c_vNum _), ?_⟩) | (with_reducible refine ⟨_, _, _, fun _ => (c_vNum _), ?_⟩) | (with_reducible refine ⟨_, _, _, _, fun _ => (c_vNum _), ?_⟩) | with_reducible refine ⟨fun _ => ?_, fun _ => ?_⟩ | fail))
  all_goals (simp_all)
theorem c_r4Bool (b : Bool) : FnC Try.prog 23 [bD b] (vD (1, if b then 1 else 0, [])) := by
  refine w23 b ?_
  (try simp only [mk_bs, bs_inj, bs_size, bs_toList, bs_append, byteAt_bs])
  (repeat' (first | (with_reducible refine ⟨_, (c_r4Num _), ?_⟩) | (with_reducible refine ⟨_, _, (c_r4Num _), ?_⟩) | (with_reducible refine ⟨_, _, _, (c_r4Num _), ?_⟩) | (with_reducible refine ⟨_, _, _, _, (c_r4Num _), ?_⟩) | (with_reducible refine ⟨_, fun _ => (c_r4Num _), ?_⟩) | (with_reducible refine ⟨_, _, fun _ => (c_r4Num _), ?_⟩) | (with_reducible refine ⟨_, _, _, fun _ => (c_r4Num _), ?_⟩) | (with_reducible refine ⟨_, _, _, _, fun _ => (c_r4Num _), ?_⟩) | with_reducible refine ⟨fun _ => ?_, fun _ => ?_⟩ | fail))
  all_goals (simp_all)
def bareV (v : V3) : V3 × Bool := if v.1 = 0 then (nul, true) else if v.1 = 1 then ((1, v.2.1, []), true) else if v.1 = 2 ∨ v.1 = 3 then ((v.1, 0, v.2.2), true) else (nul, false)
theorem c_bare (v : V3) : FnC Try.prog 37 [vD v] (.tup [vD (bareV v).1, bD (bareV v).2]) := by
  refine w37 v.1 v.2.1 (bs v.2.2) ?_
  (try simp only [mk_bs, bs_inj, bs_size, bs_toList, bs_append, byteAt_bs])
  (repeat' (first | (with_reducible refine ⟨_, (c_vNum _), ?_⟩) | (with_reducible refine ⟨_, _, (c_vNum _), ?_⟩) | (with_reducible refine ⟨_, _, _, (c_vNum _), ?_⟩) | (with_reducible refine ⟨_, _, _, _, (c_vNum _), ?_⟩) | (with_reducible refine ⟨_, fun _ => (c_vNum _), ?_⟩) | (with_reducible refine ⟨_, _, fun _ => (c_vNum _), ?_⟩) | (with_reducible refine ⟨_, _, _, fun _ => (c_vNum _), ?_⟩) | (with_reducible refine ⟨_, _, _, _, fun _ => (c_vNum _), ?_⟩) | with_reducible refine ⟨fun _ => ?_, fun _ => ?_⟩ | fail))
  all_goals (((try simp only [bareV, nul] at *); (repeat' split) <;> (first | rfl | (exfalso; omega) | (simp_all; done) | (simp_all; omega))))
def checkV (v : V3) : Int := if v.1 < 0 ∨ 3 < v.1 ∨ (v.1 ≠ 1 ∧ v.2.1 ≠ 0) ∨ (v.1 < 2 ∧ v.2.2 ≠ []) then 1 else if 4096 < (v.2.2.length : Int) then 3 else 0
theorem bare_check (v : V3) : ((bareV v).2 = true ∧ v = (bareV v).1) ↔ ¬ (v.1 < 0 ∨ 3 < v.1 ∨ (v.1 ≠ 1 ∧ v.2.1 ≠ 0) ∨ (v.1 < 2 ∧ v.2.2 ≠ [])) := by
  obtain ⟨k, n, s⟩ := v
  simp only [bareV, nul]
  by_cases h0 : k = 0
  · subst h0; simp
  by_cases h1 : k = 1
  · subst h1; simp
  by_cases h2 : k = 2
  · subst h2; simp
  by_cases h3 : k = 3
  · subst h3; simp
  simp [h0, h1, h2, h3]
  omega
theorem c_vCheck (v : V3) : FnC Try.prog 14 [vD v] (iD (checkV v)) := by
  refine w14 v.1 v.2.1 (bs v.2.2) ?_
  refine ⟨_, _, _, _, c_bare v, ?_⟩
  have hb := bare_check v
  have e : (v.1 = (bareV v).1.1 ∧ v.2.1 = (bareV v).1.2.1 ∧ bs v.2.2 = bs (bareV v).1.2.2 ∧ (true = true)) ↔ v = (bareV v).1 := by
    rw [bs_inj]
    constructor
    · rintro ⟨h1, h2, h3, _⟩
      exact Prod.ext h1 (Prod.ext h2 h3)
    · intro h; rw [← h]; simp
  rw [e, bs_size]
  have e2 : (¬ (bareV v).2 = true ∨ ¬ v = (bareV v).1) ↔ (v.1 < 0 ∨ 3 < v.1 ∨ (v.1 ≠ 1 ∧ v.2.1 ≠ 0) ∨ (v.1 < 2 ∧ v.2.2 ≠ [])) := by
    rw [← Classical.not_and_iff_not_or_not, hb, Classical.not_not]
  rw [e2]
  refine ⟨fun h => ?_, fun h => ⟨fun h2 => ?_, fun h2 => ?_⟩⟩
  · simp only [checkV, h, if_true]
  · simp only [checkV, h, h2, if_true, if_false]
  · simp only [checkV, h, h2, if_false]
theorem c_r4Check (v : V3) : FnC Try.prog 15 [vD v] (iD (checkV v)) := by
  refine w15 v.1 v.2.1 (bs v.2.2) ?_
  simp only [mk_bs, bs_inj, bs_size]
  have e2 : (((v.1 < 0 ∨ 3 < v.1) ∨ ¬ v.1 = 1 ∧ ¬ v.2.1 = 0) ∨ v.1 < 2 ∧ ¬ v.2.2 = []) ↔ (v.1 < 0 ∨ 3 < v.1 ∨ (v.1 ≠ 1 ∧ v.2.1 ≠ 0) ∨ (v.1 < 2 ∧ v.2.2 ≠ [])) := by
    simp only [or_assoc, ne_eq]
  rw [e2]
  refine ⟨fun h => ?_, fun h => ⟨fun h2 => ?_, fun h2 => ?_⟩⟩
  · simp only [checkV, h, if_true]
  · simp only [checkV, h, h2, if_true, if_false]
  · simp only [checkV, h, h2, if_false]
theorem c_typed (ty : Int) : FnC Try.prog 44 [iD ty] (bD (decide (0 ≤ ty ∧ ty ≤ 3))) := by
  refine w44 ty ?_
  by_cases h1 : 0 ≤ ty <;> by_cases h2 : ty ≤ 3 <;> simp [h1, h2]
theorem c_vTruth (v : V3) : FnC Try.prog 9 [vD v] (.tup [bD (v.1 == 1 && !(v.2.1 == 0)), bD (v.1 == 1)]) := by
  refine w9 v.1 v.2.1 (bs v.2.2) ?_
  (try simp only [mk_bs, bs_inj, bs_size, bs_toList, bs_append, byteAt_bs])
  (repeat' (first | with_reducible refine ⟨fun _ => ?_, fun _ => ?_⟩ | fail))
  all_goals (simp_all)
theorem c_r4Truth (v : V3) : FnC Try.prog 10 [vD v] (.tup [bD (v.1 == 1 && !(v.2.1 == 0)), bD (v.1 == 1)]) := by
  refine w10 v.1 v.2.1 (bs v.2.2) ?_
  cases h : (v.1 == 1) <;> simp [h]
def wordsV (v : V3) : List UInt8 × Bool := if v.1 = 1 then (numL v.2.1, true) else if v.1 = 2 then (v.2.2, true) else ([], false)
theorem c_words (v : V3) (h : I64 v.2.1) : FnC Try.prog 42 [vD v] (.tup [sD (wordsV v).1, bD (wordsV v).2]) := by
  refine w42 v.1 v.2.1 (bs v.2.2) ?_
  (try simp only [mk_bs, bs_inj, bs_size, bs_toList, bs_append, byteAt_bs])
  (repeat' (first | (with_reducible refine ⟨_, (c_tNum _ h), ?_⟩) | (with_reducible refine ⟨_, _, (c_tNum _ h), ?_⟩) | (with_reducible refine ⟨_, _, _, (c_tNum _ h), ?_⟩) | (with_reducible refine ⟨_, _, _, _, (c_tNum _ h), ?_⟩) | (with_reducible refine ⟨_, fun _ => (c_tNum _ h), ?_⟩) | (with_reducible refine ⟨_, _, fun _ => (c_tNum _ h), ?_⟩) | (with_reducible refine ⟨_, _, _, fun _ => (c_tNum _ h), ?_⟩) | (with_reducible refine ⟨_, _, _, _, fun _ => (c_tNum _ h), ?_⟩) | with_reducible refine ⟨fun _ => ?_, fun _ => ?_⟩ | fail))
  all_goals (((try simp only [wordsV] at *); (repeat' split) <;> (first | rfl | (exfalso; omega) | (simp_all; done) | (simp_all; omega))))
def textV (v : V3) : List UInt8 := if v.1 = 1 then numL v.2.1 else v.2.2
theorem c_r4Text (v : V3) (h : I64 v.2.1) : FnC Try.prog 43 [vD v] (.tup [sD (textV v), bD (v.1 == 1 || v.1 == 2)]) := by
  refine w43 v.1 v.2.1 (bs v.2.2) ?_
  (try simp only [mk_bs, bs_inj, bs_size, bs_toList, bs_append, byteAt_bs])
  (repeat' (first | (with_reducible refine ⟨_, (c_r3Num _ h), ?_⟩) | (with_reducible refine ⟨_, _, (c_r3Num _ h), ?_⟩) | (with_reducible refine ⟨_, _, _, (c_r3Num _ h), ?_⟩) | (with_reducible refine ⟨_, _, _, _, (c_r3Num _ h), ?_⟩) | (with_reducible refine ⟨_, fun _ => (c_r3Num _ h), ?_⟩) | (with_reducible refine ⟨_, _, fun _ => (c_r3Num _ h), ?_⟩) | (with_reducible refine ⟨_, _, _, fun _ => (c_r3Num _ h), ?_⟩) | (with_reducible refine ⟨_, _, _, _, fun _ => (c_r3Num _ h), ?_⟩) | with_reducible refine ⟨fun _ => ?_, fun _ => ?_⟩ | fail))
  all_goals ((simp_all [textV]; done))
def numberV (v : V3) : V3 × Int := if v.1 = 1 then (v, 0) else if v.1 = 2 then (if (readL v.2.2).2 ≠ 0 then (nul, (readL v.2.2).2) else ((1, (readL v.2.2).1, []), 0)) else (nul, 11)
theorem c_number (v : V3) (h : Sz v.2.2) : FnC Try.prog 45 [vD v] (.tup [vD (numberV v).1, iD (numberV v).2]) := by
  refine w45 v.1 v.2.1 (bs v.2.2) ?_
  (try simp only [mk_bs, bs_inj, bs_size, bs_toList, bs_append, byteAt_bs])
  (repeat' (first | (with_reducible refine ⟨_, (c_vNum _), ?_⟩) | (with_reducible refine ⟨_, _, (c_vNum _), ?_⟩) | (with_reducible refine ⟨_, _, _, (c_vNum _), ?_⟩) | (with_reducible refine ⟨_, _, _, _, (c_vNum _), ?_⟩) | (with_reducible refine ⟨_, fun _ => (c_vNum _), ?_⟩) | (with_reducible refine ⟨_, _, fun _ => (c_vNum _), ?_⟩) | (with_reducible refine ⟨_, _, _, fun _ => (c_vNum _), ?_⟩) | (with_reducible refine ⟨_, _, _, _, fun _ => (c_vNum _), ?_⟩) | (with_reducible refine ⟨_, (c_tRead _ h), ?_⟩) | (with_reducible refine ⟨_, _, (c_tRead _ h), ?_⟩) | (with_reducible refine ⟨_, _, _, (c_tRead _ h), ?_⟩) | (with_reducible refine ⟨_, _, _, _, (c_tRead _ h), ?_⟩) | (with_reducible refine ⟨_, fun _ => (c_tRead _ h), ?_⟩) | (with_reducible refine ⟨_, _, fun _ => (c_tRead _ h), ?_⟩) | (with_reducible refine ⟨_, _, _, fun _ => (c_tRead _ h), ?_⟩) | (with_reducible refine ⟨_, _, _, _, fun _ => (c_tRead _ h), ?_⟩) | with_reducible refine ⟨fun _ => ?_, fun _ => ?_⟩ | fail))
  all_goals (((try simp only [numberV, nul] at *); (repeat' split) <;> (first | rfl | (exfalso; omega) | (simp_all; done) | (simp_all; omega))))
end Go.Proofs.Ytbgndledcnfceaa
