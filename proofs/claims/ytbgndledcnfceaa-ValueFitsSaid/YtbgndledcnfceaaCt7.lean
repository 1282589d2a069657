/- What Arith, Join, Cast and Fits of package value compute, and what the document's do. Conditions: numbers of 64 bits, texts that a machine can hold. -/
import Derived.Test.YtbgndledcnfceaaCt6
namespace Go.Proofs.Ytbgndledcnfceaa
open Go.RowKit Go.IntWalk
set_option linter.unusedSimpArgs false
set_option linter.unusedVariables false

theorem i64w (n : Int) : IntKind.wrap .i64 n = wrap64 n := i64_left n
def fitR (s : Int) : V3 × Int := if fit64 s then ((1, s, []), 0) else (nul, 9)
theorem c_fits (n : Int) (ok : Bool) : FnC Try.prog 39 [iD n, bD ok] (.tup [vD (if ok then (1, n, []) else nul), iD (if ok then 0 else 9)]) := by
  refine w39 n ok ?_
  (try simp only [mk_bs, bs_inj, bs_size, bs_toList, bs_append, byteAt_bs])
  (repeat' (first | (with_reducible refine ⟨_, (c_vNum _), ?_⟩) | (with_reducible refine ⟨_, _, (c_vNum _), ?_⟩) | (with_reducible refine ⟨_, _, _, (c_vNum _), ?_⟩) | (with_reducible refine ⟨_, _, _, _, (c_vNum _), ?_⟩) | (with_reducible refine ⟨_, fun _ => (c_vNum _), ?_⟩) | (with_reducible refine ⟨_, _, fun _ => (c_vNum _), ?_⟩) | (with_reducible refine ⟨_, _, _, fun _ => (c_vNum _), ?_⟩) | (with_reducible refine ⟨_, _, _, _, fun _ => (c_vNum _), ?_⟩) | with_reducible refine ⟨fun _ => ?_, fun _ => ?_⟩ | fail))
  all_goals (simp_all)
theorem c_fits' (s : Int) : FnC Try.prog 39 [iD (wrap64 s), bD (fit64 s)] (.tup [vD (fitR s).1, iD (fitR s).2]) := by
  have := c_fits (wrap64 s) (fit64 s)
  cases h : fit64 s
  · rw [h] at this
    simpa [fitR, h] using this
  · rw [h] at this
    rw [wrap64_fit s ((fit64_iff s).1 h)] at this ⊢
    simpa [fitR, h] using this
theorem c_product (a b : Int) (ha : I64 a) (hb : I64 b) : FnC Try.prog 40 [iD a, iD b] (.tup [iD (wrap64 (a * b)), bD (fit64 (a * b))]) := by
  refine w40 a b ?_
  simp only [i64w]
  refine ⟨fun h => ?_, fun h => ⟨fun h1 => ?_, fun h1 => ⟨?_, ?_⟩⟩⟩
  · have : a * b = 0 := by rcases h with h | h <;> subst h <;> simp
    have e1 : wrap64 0 = 0 := wrap64_fit 0 (by omega)
    have e2 : fit64 0 = true := by decide
    rw [this, e1, e2]
  · have e : (if (!a == -9223372036854775808) = true then !b == -9223372036854775808 else false) = fit64 (a * b) := ?_
    · rw [e]
    apply bool_eq
    rw [fit64_iff]
    rcases h1 with h1 | h1
    · subst h1
      rw [Int.neg_mul, Int.one_mul]
      simp
      omega
    · subst h1
      rw [Int.mul_neg, Int.mul_one]
      by_cases hh : a = -9223372036854775808
      · subst hh; simp
      · simp [hh]; omega
  · omega
  · rw [mul_back a b (by omega) (by omega) hb]
def divR (op : List UInt8) (x y : Int) : V3 × Int := if y = 0 then (nul, 0) else if op = [37] then ((1, x.tmod y, []), 0) else fitR (x.tdiv y)
theorem fit_div (x y : Int) (hx : I64 x) (hy : y ≠ 0) : fit64 (x.tdiv y) = (if (!(x == -9223372036854775808)) then true else (!(y == -1))) := by
  apply bool_eq
  rw [fit64_iff]
  by_cases h : y = -1
  · subst h
    rw [tdiv_m1]
    by_cases hh : x = -9223372036854775808
    · subst hh; simp
    · simp [hh]; omega
  · have := tdiv_small x y hx h
    simp [h, this]
theorem c_divide (op : List UInt8) (x y : Int) (hx : I64 x) (hy : I64 y) : FnC Try.prog 41 [sD op, iD x, iD y] (.tup [vD (divR op x y).1, iD (divR op x y).2]) := by
  refine w41 (bs op) x y ?_
  simp only [mk_bs, bs_inj, i64w]
  refine ⟨fun h => by simp [divR, h, bs], fun h => ⟨fun h1 => ⟨_, _, _, c_vNum _, ?_⟩, fun h1 => ⟨fun h2 => ⟨h, _, _, _, c_vNum _, ?_⟩, fun h2 => ⟨h, _, _, _, _, ?_, rfl⟩⟩⟩⟩
  · obtain ⟨rfl, rfl⟩ := h1
    simp [divR, tmod_m1]
  · subst h2
    simp [divR, h]
  · have := c_fits' (x.tdiv y)
    rw [fit_div x y hx h] at this
    have e : divR op x y = fitR (x.tdiv y) := by simp [divR, h, h2]
    rw [e]
    exact this
def opOk (op : List UInt8) : Bool := op == [43] || op == [45] || op == [42] || op == [47] || op == [37]
def arithV (op : List UInt8) (a b : V3) : V3 × Int :=
  if opOk op = true then (if a.1 = 0 ∨ b.1 = 0 then (nul, 0) else if a.1 ≠ 1 ∨ b.1 ≠ 1 then (nul, 11) else
    if op = [43] then fitR (a.2.1 + b.2.1) else if op = [45] then fitR (a.2.1 - b.2.1) else if op = [42] then fitR (a.2.1 * b.2.1) else divR op a.2.1 b.2.1)
  else (nul, 1)
theorem c_vArith (op : List UInt8) (a b : V3) (ha : I64 a.2.1) (hb : I64 b.2.1) : FnC Try.prog 24 [sD op, vD a, vD b] (.tup [vD (arithV op a b).1, iD (arithV op a b).2]) := by
  refine w24 (bs op) a.1 a.2.1 (bs a.2.2) b.1 b.2.1 (bs b.2.2) ?_
  simp only [mk_bs, bs_inj, bs_size, i64w]
  have hok : opOk op = (decide ((op.length : Int) = 1) && ([43, 45, 42, 47, 37] : List UInt8).contains (op.getD 0 0)) := by
    match op with
    | [] => rfl
    | [c] =>
      apply bool_eq
      simp only [opOk, List.contains_cons, Bool.or_eq_true, beq_iff_eq, List.cons.injEq, and_true, List.length_singleton, Bool.and_eq_true, decide_eq_true_eq, List.getD_cons_zero]
      simp [or_assoc]
    | _ :: _ :: _ =>
      have h1 : ∀ n : Nat, ¬ ((n : Int) + 1 + 1 = 1) := fun n => by omega
      simp [opOk, h1]
  have hcall : (op.length : Int) = 1 → FnC Try.prog 38 [sD [43, 45, 42, 47, 37], sD op] (bD (([43, 45, 42, 47, 37] : List UInt8).contains (op.getD 0 0))) := fun h => by
    match op, h with
    | [c], _ => exact c_contains _ c
    | [], h => simp at h
    | _ :: _ :: r, h => simp at h; omega
  refine ⟨_, hcall, fun h => ?_, fun h => ?_⟩
  · have : opOk op = false := by
      rw [hok]
      rcases h with h | h
      · simp [h]
      · rw [Bool.eq_false_iff.2 h, Bool.and_false]
    simp [arithV, this, bs]
  have hk : opOk op = true := by
    rw [hok]
    have h1 : (op.length : Int) = 1 := Classical.byContradiction fun hc => h (.inl hc)
    have h2 := Classical.byContradiction fun hc => h (.inr hc)
    rw [h2]
    simp [h1]
  simp only [arithV, hk, if_true]
  refine ⟨fun h => by simp only [h, if_true], fun h => ⟨fun h1 => by simp only [h, if_false, h1, ne_eq, if_true], fun h1 => ?_⟩⟩
  simp only [h, if_false, h1, ne_eq]
  refine ⟨fun h => ?_, fun h => ⟨fun h1 => ?_, fun h1 => ⟨fun h2 => ?_, fun h2 => ?_⟩⟩⟩
  · simp only [h, if_true]
    rw [add_up _ _ ha hb]
    exact ⟨_, _, _, _, c_fits' _, rfl⟩
  · simp only [h, h1, if_true, if_false]
    rw [sub_up _ _ ha hb]
    exact ⟨_, _, _, _, c_fits' _, rfl⟩
  · simp only [h, h1, h2, if_true, if_false]
    exact ⟨_, _, c_product _ _ ha hb, _, _, _, _, c_fits' _, rfl⟩
  · simp only [h, h1, h2, if_false]
    exact ⟨_, _, _, _, c_divide _ _ _ ha hb, rfl⟩
theorem c_r4Arith (op : List UInt8) (a b : V3) (ha : I64 a.2.1) (hb : I64 b.2.1) : FnC Try.prog 25 [sD op, vD a, vD b] (.tup [vD (arithV op a b).1, iD (arithV op a b).2]) := by
  refine w25 (bs op) a.1 a.2.1 (bs a.2.2) b.1 b.2.1 (bs b.2.2) ?_
  simp only [mk_bs, bs_inj, bs_size, i64w]
  have hok : opOk op = true ↔ ¬ ((((¬ op = [43] ∧ ¬ op = [45]) ∧ ¬ op = [42]) ∧ ¬ op = [47]) ∧ ¬ op = [37]) := by
    simp only [opOk, Bool.or_eq_true, beq_iff_eq]
    constructor
    · rintro ((((h | h) | h) | h) | h) <;> subst h <;> decide
    · intro h
      apply Classical.byContradiction
      intro hc
      simp only [not_or] at hc
      exact h hc
  refine ⟨fun h => ?_, fun h => ?_⟩
  · have : opOk op = false := by rw [Bool.eq_false_iff]; exact fun hc => hok.1 hc h
    simp [arithV, this, bs]
  have hk := hok.2 h
  simp only [arithV, hk, if_true]
  refine ⟨fun h => by simp only [h, if_true], fun h => ⟨fun h1 => by simp only [h, if_false, h1, ne_eq, if_true], fun h1 => ?_⟩⟩
  simp only [h, if_false, h1, ne_eq]
  have fin : ∀ s : Int, (fit64 s = true → ∃ x7 x8 x9, FnC Try.prog 17 [iD (wrap64 s)] (.agg [.v (.int .i64 x7), .v (.int .i64 x8), .v (.string x9)]) ∧ DV.tup [.agg [.v (.int .i64 x7), .v (.int .i64 x8), .v (.string x9)], iD 0] = .tup [vD (fitR s).1, iD (fitR s).2]) := fun s hs => by
    rw [wrap64_fit s ((fit64_iff s).1 hs)]
    refine ⟨_, _, _, c_r4Num _, ?_⟩
    simp [fitR, hs]
  have fin2 : ∀ s : Int, ¬ fit64 s = true → DV.tup [.agg [.v (.int .i64 0), .v (.int .i64 0), .v (.string (bs []))], iD 9] = .tup [vD (fitR s).1, iD (fitR s).2] := fun s hs => by
    simp [fitR, hs]
  refine ⟨fun h => ?_, fun h => ⟨fun h1 => ?_, fun h1 => ⟨fun h2 => ?_, fun h2 => ?_⟩⟩⟩
  · simp only [h, if_true]
    have e : (decide (0 ≤ b.2.1) = decide (a.2.1 ≤ wrap64 (a.2.1 + b.2.1))) ↔ fit64 (a.2.1 + b.2.1) = true := by rw [← ge_up _ _ ha hb, beq_iff_eq]
    rw [e]
    exact ⟨fin _, fin2 _⟩
  · simp only [h, h1, if_true, if_false]
    have e : (decide (0 ≤ b.2.1) = decide (wrap64 (a.2.1 - b.2.1) ≤ a.2.1)) ↔ fit64 (a.2.1 - b.2.1) = true := by rw [← le_up _ _ ha hb, beq_iff_eq]
    rw [e]
    exact ⟨fin _, fin2 _⟩
  · simp only [h, h1, h2, if_true, if_false]
    have e : (a.2.1 = 0 ∨ (wrap64 ((wrap64 (a.2.1 * b.2.1)).tdiv a.2.1) = b.2.1 ∧ (¬ a.2.1 = -1 ∨ ¬ b.2.1 = -9223372036854775808))) ↔ fit64 (a.2.1 * b.2.1) = true := by
      by_cases h0 : a.2.1 = 0
      · simp [h0]; decide
      by_cases h1 : a.2.1 = -1
      · rw [h1, fit64_iff]
        rw [Int.neg_mul, Int.one_mul, tdiv_m1]
        have hb' := hb
        unfold wrap64
        omega
      · have := mul_back b.2.1 a.2.1 h0 h1 ha
        rw [Int.mul_comm b.2.1 a.2.1] at this
        rw [← this, beq_iff_eq]
        simp [h0, h1]
    rw [e]
    exact ⟨fun h => h, fin _, fin2 _⟩
  · simp only [h, h1, h2, if_false]
    refine ⟨fun h => ?_, fun h => ⟨fun h1 => ?_, fun h1 => ?_⟩⟩
    · subst h
      refine ⟨fun h => by simp [divR, h], fun h => ⟨fun h1 => ⟨h, ?_⟩, fun h1 => ?_⟩⟩
      · have e : divR [47] a.2.1 b.2.1 = fitR (a.2.1.tdiv b.2.1) := by simp [divR, h]
        rw [e]
        refine fin _ ?_
        rw [fit_div _ _ ha h]
        rcases h1 with h1 | h1
        · simp [h1]
        · simp [h1]
      · have e : divR [47] a.2.1 b.2.1 = fitR (a.2.1.tdiv b.2.1) := by simp [divR, h]
        rw [e]
        refine fin2 _ ?_
        rw [fit_div _ _ ha h]
        simp only [not_or, Classical.not_not] at h1
        simp [h1.1, h1.2]
    · subst h1
      refine ⟨fun h => by simp [divR, h], fun h => ⟨fun h1 => ⟨_, _, _, c_r4Num _, ?_⟩, fun h1 => ⟨h, _, _, _, c_r4Num _, ?_⟩⟩⟩
      · rw [h1]; simp [divR, tmod_m1]
      · simp [divR, h]
    · exfalso
      simp only [opOk, Bool.or_eq_true, beq_iff_eq] at hk
      simp_all

def joinV2 (a b : V3) : V3 × Int := if a.1 = 0 ∨ b.1 = 0 then (nul, 0) else if ¬ (a.1 = 1 ∨ a.1 = 2) ∨ ¬ (b.1 = 1 ∨ b.1 = 2) then (nul, 11)
  else if 4096 < (textV a).length + (textV b).length then (nul, 3) else ((2, 0, textV a ++ textV b), 0)
theorem wordsV_eq (v : V3) : wordsV v = if v.1 = 1 ∨ v.1 = 2 then (textV v, true) else ([], false) := by
  unfold wordsV textV
  by_cases h1 : v.1 = 1
  · simp [h1]
  · by_cases h2 : v.1 = 2 <;> simp [h1, h2]
theorem textV_sz (v : V3) (h : I64 v.2.1) (hs : Sz v.2.2) : (textV v).length ≤ 9223372036854775807 := by
  unfold textV
  split
  · have := numL_len v.2.1 h; omega
  · exact hs
theorem c_vJoin (a b : V3) (ha : I64 a.2.1) (hb : I64 b.2.1) (sa : Sz a.2.2) (sb : Sz b.2.2) : FnC Try.prog 26 [vD a, vD b] (.tup [vD (joinV2 a b).1, iD (joinV2 a b).2]) := by
  refine w26 a.1 a.2.1 (bs a.2.2) b.1 b.2.1 (bs b.2.2) ?_
  simp only [mk_bs]
  refine ⟨fun h => by simp only [joinV2, h, if_true], fun h => ⟨_, _, c_words a ha, _, _, c_words b hb, ?_⟩⟩
  simp only [joinV2, h, if_false]
  rw [wordsV_eq, wordsV_eq]
  have l1 := textV_sz a ha sa
  have l2 := textV_sz b hb sb
  by_cases ka : a.1 = 1 ∨ a.1 = 2
  rotate_left
  · simp only [ka, if_false, not_false_eq_true, true_or, if_true]
    exact ⟨fun _ => trivial, fun h => absurd (.inl (by simp)) h⟩
  by_cases kb : b.1 = 1 ∨ b.1 = 2
  rotate_left
  · simp only [kb, if_false, not_false_eq_true, or_true, if_true]
    exact ⟨fun _ => trivial, fun h => absurd (.inr (by simp)) h⟩
  simp only [ka, kb, if_true, not_true, or_self, if_false, bs_size, bs_append]
  refine ⟨fun h => h.elim, fun _ => ?_⟩
  by_cases hl : (textV a).length ≤ 4096
  · rw [i64_in _ (by omega)]
    refine ⟨fun h => by rw [if_pos (by omega)], fun h => ⟨by omega, _, _, _, c_vStr _, ?_⟩⟩
    rw [if_neg (by omega)]
  · refine ⟨fun h => by rw [if_pos (by omega)], fun h => absurd (.inl (by omega)) h⟩
theorem c_r4Join (a b : V3) (ha : I64 a.2.1) (hb : I64 b.2.1) (sa : Sz a.2.2) (sb : Sz b.2.2) : FnC Try.prog 27 [vD a, vD b] (.tup [vD (joinV2 a b).1, iD (joinV2 a b).2]) := by
  refine w27 a.1 a.2.1 (bs a.2.2) b.1 b.2.1 (bs b.2.2) ?_
  simp only [mk_bs]
  refine ⟨fun h => by simp only [joinV2, h, if_true], fun h => ⟨_, _, c_r4Text a ha, _, _, c_r4Text b hb, ?_⟩⟩
  simp only [joinV2, h, if_false]
  have l1 := textV_sz a ha sa
  have l2 := textV_sz b hb sb
  simp only [Bool.or_eq_true, beq_iff_eq, bs_size, bs_append]
  refine ⟨fun h => by rw [if_pos h], fun h => ?_⟩
  rw [if_neg h]
  by_cases hl : (textV a).length ≤ 4096
  · rw [i64_in _ (by omega)]
    refine ⟨fun h => by rw [if_pos (by omega)], fun h => ⟨by omega, _, _, _, c_r4Str _, ?_⟩⟩
    rw [if_neg (by omega)]
  · refine ⟨fun h => by rw [if_pos (by omega)], fun h => absurd (.inl (by omega)) h⟩

def castV (v : V3) (ty : Int) : V3 × Int :=
  if ty < 0 ∨ 3 < ty ∨ v.1 < 0 ∨ 3 < v.1 then (nul, 1) else if ty = 0 ∨ v.1 = 0 ∨ ty = v.1 then (v, 0)
  else if ty = 1 then numberV v else ((ty, 0, textV v), 0)
theorem c_vCast (v : V3) (ty : Int) (h : I64 v.2.1) (hs : Sz v.2.2) : FnC Try.prog 29 [vD v, iD ty] (.tup [vD (castV v ty).1, iD (castV v ty).2]) := by
  refine w29 v.1 v.2.1 (bs v.2.2) ty ?_
  simp only [mk_bs]
  refine ⟨_, _, _, _, c_bare v, _, c_typed ty, ?_⟩
  have hb : (bareV v).2 = decide (0 ≤ v.1 ∧ v.1 ≤ 3) := by
    apply bool_eq
    rw [decide_eq_true_eq]
    simp only [bareV]
    repeat' split
    all_goals simp
    all_goals omega
  have hb0 : (0 ≤ v.1 ∧ v.1 ≤ 3) → ((bareV v).1.1 = 0 ↔ v.1 = 0) := fun h => by
    simp only [bareV]
    repeat' split
    all_goals simp_all
    omega
  rw [hb]
  simp only [decide_eq_true_eq]
  refine ⟨fun h => ?_, fun h => ?_⟩
  · have : ty < 0 ∨ 3 < ty ∨ v.1 < 0 ∨ 3 < v.1 := by omega
    simp only [castV, this, if_true]
  have h1 : ¬ (ty < 0 ∨ 3 < ty ∨ v.1 < 0 ∨ 3 < v.1) := by omega
  rw [hb0 (by omega)]
  simp only [castV, h1, if_false]
  refine ⟨fun h => ?_, fun h => ⟨fun h2 => ?_, fun h2 => ⟨fun h3 => ?_, fun h3 => ?_⟩⟩⟩
  · rw [if_pos (by omega)]
  · subst h2
    refine ⟨_, _, _, _, c_number v hs, ?_⟩
    by_cases hv : v.1 = 1
    · rw [if_pos (by omega)]; simp [numberV, hv]
    · rw [if_neg (by omega), if_pos rfl]
  · rw [if_pos (by omega)]
  rw [if_neg (by omega), if_neg h2]
  refine ⟨_, _, c_words v ‹_›, ?_⟩
  rw [wordsV_eq]
  have ht : ¬ (v.1 = 1 ∨ v.1 = 2) → textV v = v.2.2 := fun h => by unfold textV; rw [if_neg (fun e => h (.inl e))]
  by_cases hv : v.1 = 1 ∨ v.1 = 2
  · simp only [hv, if_true, not_true, false_implies, true_and, not_false_eq_true, true_implies]
    refine ⟨fun h => ⟨_, _, _, c_vStr _, by rw [h]⟩, fun h => ⟨_, _, _, c_vBytes _, ?_⟩⟩
    have : ty = 3 := by omega
    rw [this]
  · rw [ht hv]
    simp only [hv, if_false, Bool.false_eq_true, not_false_eq_true, true_implies, not_true, false_implies, and_true]
    refine ⟨fun h => ⟨_, _, _, c_vStr _, by rw [h]⟩, fun h => ⟨_, _, _, c_vBytes _, ?_⟩⟩
    have : ty = 3 := by omega
    rw [this]
theorem c_r4Cast (v : V3) (ty : Int) (h : I64 v.2.1) (hs : Sz v.2.2) : FnC Try.prog 30 [vD v, iD ty] (.tup [vD (castV v ty).1, iD (castV v ty).2]) := by
  refine w30 v.1 v.2.1 (bs v.2.2) ty ?_
  simp only [mk_bs]
  refine ⟨fun h => ?_, fun h => ⟨_, _, c_r4Text v ‹_›, ?_⟩⟩
  · rw [castV, if_pos (by omega)]
  rw [castV, if_neg (by omega)]
  simp only [Bool.or_eq_true, beq_iff_eq]
  refine ⟨fun h => ?_, fun h => ⟨fun h2 => ?_, fun h2 => ⟨fun h3 => ?_, fun h3 => ⟨fun h4 => ?_, fun h4 => ⟨fun h5 => ?_, fun h5 => ?_⟩⟩⟩⟩⟩
  · rw [if_pos (by omega)]
  · rw [if_neg (by omega), if_pos h2.1]; simp [numberV, h2.2]
  · rw [if_neg (by omega), if_pos h3]
    have hv : v.1 = 2 := by omega
    refine ⟨_, _, c_r3Read _ hs, fun h => ?_, fun h => ⟨_, _, _, c_r4Num _, ?_⟩⟩
    · simp [numberV, hv, h]
    · simp [numberV, hv, h]
  · rw [if_neg (by omega), if_neg h3]
    refine ⟨_, _, _, c_r4Str _, ?_⟩
    simp only [textV]
    rw [if_neg (by omega), h4.1]
  · rw [if_neg (by omega), if_neg h3]
    refine ⟨_, _, _, c_r4Str _, ?_⟩
    rw [h5]
  · rw [if_neg (by omega), if_neg h3]
    refine ⟨_, _, _, c_r4Bytes _, ?_⟩
    have : ty = 3 := by omega
    rw [this]

def fitsV (v : V3) (ty : Int) : V3 × Bool :=
  if checkV v ≠ 0 ∨ ty < 0 ∨ 3 < ty then (nul, false) else if ty = 0 ∨ v.1 = 0 then (v, true)
  else if ty = 1 then ((numberV v).1, (numberV v).2 == 0) else if ty = 3 then (if v.1 = 3 then (v, true) else (nul, false))
  else if v.1 = 1 ∨ v.1 = 2 then ((2, 0, textV v), true) else (nul, false)
theorem c_vFits (v : V3) (ty : Int) (h : I64 v.2.1) (hs : Sz v.2.2) : FnC Try.prog 28 [vD v, iD ty] (.tup [vD (fitsV v ty).1, bD (fitsV v ty).2]) := by
  refine w28 v.1 v.2.1 (bs v.2.2) ty ?_
  simp only [mk_bs]
  refine ⟨_, c_vCheck v, _, fun _ => c_typed ty, ?_⟩
  simp only [decide_eq_true_eq]
  refine ⟨fun h => ?_, fun h => ?_⟩
  · rw [fitsV, if_pos (by omega)]
  rw [fitsV, if_neg (by omega)]
  refine ⟨fun h => ?_, fun h => ⟨fun h2 => ?_, fun h2 => ⟨fun h3 => ⟨fun h4 => ?_, fun h4 => ?_⟩, fun h3 => ?_⟩⟩⟩
  · rw [if_pos h]
  · rw [if_neg h, if_pos h2]
    exact ⟨_, _, _, _, c_number v hs, rfl⟩
  · rw [if_neg h, if_neg h2, if_pos h3, if_neg h4]
  · rw [if_neg h, if_neg h2, if_pos h3, if_pos (Classical.not_not.1 h4)]
  · rw [if_neg h, if_neg h2, if_neg h3]
    refine ⟨_, _, c_words v ‹_›, ?_⟩
    rw [wordsV_eq]
    by_cases hv : v.1 = 1 ∨ v.1 = 2
    · simp only [hv, if_true, not_true, false_implies, true_and, not_false_eq_true, true_implies]
      exact ⟨_, _, _, c_vStr _, rfl⟩
    · simp only [hv, if_false, Bool.false_eq_true, not_false_eq_true, true_implies, not_true, false_implies, and_true]
end Go.Proofs.Ytbgndledcnfceaa
