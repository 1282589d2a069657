/- Plain laws on 64-bit numbers: when a sum, a difference or a product fits. No condition. -/
import Derived.Test.YtdgjcdhomfhfpaaPl
namespace Go.Proofs.Ytdgjcdhomfhfpaa
open Go.RowKit
set_option linter.unusedSimpArgs false
set_option linter.unusedVariables false

def fit64 (n : Int) : Bool := decide (-9223372036854775808 ≤ n ∧ n ≤ 9223372036854775807)
theorem fit64_iff (n : Int) : fit64 n = true ↔ -9223372036854775808 ≤ n ∧ n ≤ 9223372036854775807 := by simp [fit64]
theorem fit64_not (n : Int) : fit64 n = false ↔ ¬ (-9223372036854775808 ≤ n ∧ n ≤ 9223372036854775807) := by simp [fit64]
theorem wrap64_fit (n : Int) (h : -9223372036854775808 ≤ n ∧ n ≤ 9223372036854775807) : wrap64 n = n := by unfold wrap64; omega
theorem wrap64_rng (n : Int) : -9223372036854775808 ≤ wrap64 n ∧ wrap64 n ≤ 9223372036854775807 := by unfold wrap64; omega
theorem wrap64_mod (n : Int) : ∃ k, n = wrap64 n + 18446744073709551616 * k := ⟨(n + 9223372036854775808) / 18446744073709551616, by unfold wrap64; omega⟩

theorem bool_eq {p q : Bool} (h : p = true ↔ q = true) : p = q := by cases p <;> cases q <;> simp_all

theorem tdiv_rest (n b : Int) (hb : b ≠ 0) : ∃ r, n = b * n.tdiv b + r ∧ -(b.natAbs : Int) < r ∧ r < (b.natAbs : Int) := by
  refine ⟨n.tmod b, (Int.mul_tdiv_add_tmod n b).symm, ?_, ?_⟩
  · have h := Int.natAbs_tmod n b
    have h2 := Nat.mod_lt n.natAbs (Int.natAbs_pos.2 hb)
    omega
  · have h := Int.natAbs_tmod n b
    have h2 := Nat.mod_lt n.natAbs (Int.natAbs_pos.2 hb)
    omega

theorem tdiv_small (n b : Int) (hn : -9223372036854775808 ≤ n ∧ n ≤ 9223372036854775807) (h : b ≠ -1) : -9223372036854775808 ≤ n.tdiv b ∧ n.tdiv b ≤ 9223372036854775807 := by
  by_cases h0 : b = 0
  · subst h0; simp
  by_cases h1 : b = 1
  · subst h1; simpa using hn
  have e : (n.tdiv b).natAbs = n.natAbs / b.natAbs := Int.natAbs_tdiv n b
  have h2 : 2 ≤ b.natAbs := by omega
  have h3 : n.natAbs / b.natAbs ≤ n.natAbs / 2 := Nat.div_le_div_left h2 (by omega)
  omega
theorem mul_back (a b : Int) (hb0 : b ≠ 0) (hb1 : b ≠ -1) (hb : -9223372036854775808 ≤ b ∧ b ≤ 9223372036854775807) : (wrap64 ((wrap64 (a * b)).tdiv b) == a) = fit64 (a * b) := by
  rw [wrap64_fit ((wrap64 (a * b)).tdiv b) (tdiv_small _ _ (wrap64_rng _) hb1)]
  apply bool_eq
  rw [beq_iff_eq, fit64_iff]
  constructor
  · intro h
    obtain ⟨r, h1, h2, h3⟩ := tdiv_rest (wrap64 (a * b)) b hb0
    rw [h, Int.mul_comm b a] at h1
    have hr := wrap64_rng (a * b)
    obtain ⟨k, hk⟩ := wrap64_mod (a * b)
    omega
  · intro h
    rw [wrap64_fit _ h, Int.mul_tdiv_cancel _ hb0]

theorem add_up (x y : Int) (hx : -9223372036854775808 ≤ x ∧ x ≤ 9223372036854775807) (hy : -9223372036854775808 ≤ y ∧ y ≤ 9223372036854775807) :
    (decide (x < wrap64 (x + y)) == decide (0 < y)) = fit64 (x + y) := by
  apply bool_eq
  simp only [beq_iff_eq, fit64_iff, decide_eq_decide]
  unfold wrap64
  omega
theorem sub_up (x y : Int) (hx : -9223372036854775808 ≤ x ∧ x ≤ 9223372036854775807) (hy : -9223372036854775808 ≤ y ∧ y ≤ 9223372036854775807) :
    (decide (wrap64 (x - y) < x) == decide (0 < y)) = fit64 (x - y) := by
  apply bool_eq
  simp only [beq_iff_eq, fit64_iff, decide_eq_decide]
  unfold wrap64
  omega
theorem neg1_fit (b : Int) : (b != -9223372036854775808) = fit64 (-b) ∨ ¬ (-9223372036854775808 ≤ b ∧ b ≤ 9223372036854775807) := by
  by_cases h : -9223372036854775808 ≤ b ∧ b ≤ 9223372036854775807
  · left
    apply bool_eq
    rw [bne_iff_ne, fit64_iff]
    omega
  · exact .inr h
theorem ge_up (x y : Int) (hx : -9223372036854775808 ≤ x ∧ x ≤ 9223372036854775807) (hy : -9223372036854775808 ≤ y ∧ y ≤ 9223372036854775807) :
    (decide (0 ≤ y) == decide (x ≤ wrap64 (x + y))) = fit64 (x + y) := by
  apply bool_eq
  simp only [beq_iff_eq, fit64_iff, decide_eq_decide]
  unfold wrap64
  omega
theorem le_up (x y : Int) (hx : -9223372036854775808 ≤ x ∧ x ≤ 9223372036854775807) (hy : -9223372036854775808 ≤ y ∧ y ≤ 9223372036854775807) :
    (decide (0 ≤ y) == decide (wrap64 (x - y) ≤ x)) = fit64 (x - y) := by
  apply bool_eq
  simp only [beq_iff_eq, fit64_iff, decide_eq_decide]
  unfold wrap64
  omega
theorem tdiv_m1 (n : Int) : n.tdiv (-1) = -n := by rw [Int.tdiv_neg]; simp
theorem tmod_m1 (n : Int) : n.tmod (-1) = 0 := by rw [Int.tmod_neg]; simp
end Go.Proofs.Ytdgjcdhomfhfpaa
