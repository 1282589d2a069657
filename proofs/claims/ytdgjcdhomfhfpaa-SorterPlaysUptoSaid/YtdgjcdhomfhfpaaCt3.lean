/- What text.Read computes: the number of a text. Condition: a text that a machine can hold. -/
import Derived.Test.YtdgjcdhomfhfpaaCt2
namespace Go.Proofs.Ytdgjcdhomfhfpaa
open Go.RowKit Go.IntWalk
set_option linter.unusedSimpArgs false
set_option linter.unusedVariables false

theorem take_ble (p l : List UInt8) : (if decide ((p.length : Int) ≤ (l.length : Int)) = true then (bs (List.drop 0 (List.take p.length l))).toList == (bs p).toList else false) = p.isPrefixOf l := by
  rw [bs_toList, bs_toList, List.drop_zero]
  by_cases h : p.length ≤ l.length
  · have h1 : (p.length : Int) ≤ l.length := by omega
    simp only [h1, decide_true, if_true]
    rw [Bool.eq_iff_iff, beq_iff_eq, List.isPrefixOf_iff_prefix, List.prefix_iff_eq_take]
    constructor <;> intro h <;> exact h.symm
  · have h1 : ¬ (p.length : Int) ≤ l.length := by omega
    simp only [h1, decide_false, Bool.false_eq_true, if_false]
    symm
    rw [Bool.eq_false_iff]
    intro hp
    have := (List.isPrefixOf_iff_prefix.1 hp).length_le
    omega
/-- the loop of Read -/
theorem read_step (d : List UInt8) (hs : Sz d) (hd : d.all isDig = true) (most : Int) (hm : most = 9223372036854775807 ∨ most = 9223372036854775808) (pos n : Int) (h0 : 0 ≤ pos) (h1 : pos < d.length) (hn : n = (valL (d.take pos.toNat) : Int)) (hle : n ≤ most) :
    ∃ c : Int, 0 ≤ c ∧ c ≤ 9 ∧ IntKind.wrap .u64 (IntKind.wrap .i32 ((((Utf8.decode (bs d) pos.toNat).1 : Nat) : Int) - 48)) = c ∧ IntKind.wrap .u64 (Int.tdiv (IntKind.wrap .u64 (most - c)) 10) = (most - c) / 10 ∧ ((Utf8.decode (bs d) pos.toNat).2 : Int) = 1 ∧
      (valL (d.take (pos.toNat + 1)) : Int) = 10 * n + c ∧ ((most - c) / 10 < n → most < (valL d : Int)) ∧ (¬ (most - c) / 10 < n → 10 * n + c ≤ most ∧ IntKind.wrap .u64 (IntKind.wrap .u64 (10 * n) + c) = 10 * n + c) := by
  have hi : pos.toNat < d.length := by omega
  have hg := getD_dig hd hi
  rw [dec_low d _ hi (by omega)]
  have hv : (valL (d.take (pos.toNat + 1)) : Int) = 10 * n + (((d.getD pos.toNat 0).toNat - 48 : Nat) : Int) := by
    rw [List.take_add_one, valL, valG_app, hn]
    have : d[pos.toNat]?.toList = [d.getD pos.toNat 0] := by simp [List.getD_eq_getElem?_getD, hi]
    rw [this, valG_one]
    simp [valL]
  refine ⟨(((d.getD pos.toNat 0).toNat - 48 : Nat) : Int), by omega, by omega, ?_, ?_, rfl, hv, fun h => ?_, fun h => ?_⟩
  · rw [i32_in _ (by simp only []; omega), u64_in _ (by simp only []; omega)]
    simp only []
    omega
  · rw [u64_in (most - _) (by omega), u64_quo _ _ (by omega)]
  · have hmono : valL (d.take (pos.toNat + 1)) ≤ valL d := by
      conv => rhs; rw [← List.take_append_drop (pos.toNat + 1) d, valL, valG_app]
      have := valG_lt (d.drop (pos.toNat + 1)) (valG 0 (d.take (pos.toNat + 1))) (by
        rw [List.all_eq_true] at hd ⊢
        exact fun x hx => hd x (List.mem_of_mem_drop hx))
      have h2 := this.2
      have : valG 0 (d.take (pos.toNat + 1)) ≤ valG 0 (d.take (pos.toNat + 1)) * 10 ^ (d.drop (pos.toNat + 1)).length := Nat.le_mul_of_pos_right _ (Nat.pow_pos (by omega))
      unfold valL
      omega
    omega
  · have : 10 * n + (((d.getD pos.toNat 0).toNat - 48 : Nat) : Int) ≤ most := by omega
    refine ⟨this, ?_⟩
    rw [u64_in (10 * n) (by omega), u64_in _ (by omega)]

theorem digitsL_all {l : List UInt8} (h : digitsL l = true) : l.all isDig = true := by
  simp only [digitsL, Bool.and_eq_true] at h
  exact h.1
end Go.Proofs.Ytdgjcdhomfhfpaa
