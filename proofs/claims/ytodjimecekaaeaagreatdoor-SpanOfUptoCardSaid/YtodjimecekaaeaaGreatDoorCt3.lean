/- What text.Read computes: the number of a text. Condition: a text that a machine can hold. -/
import Derived.Test.YtodjimecekaaeaaGreatDoorCt2
namespace Go.Proofs.YtodjimecekaaeaaGreatDoor
open Go.RowKit Go.IntWalk
set_option linter.unusedSimpArgs false
set_option linter.unusedVariables false
theorem take_ble (p l : List UInt8) : (if decide ((p.length : Int) ≤ (l.length : Int)) = true then (bs (List.drop 0 (List.take p.length l))).toList == (bs p).toList else false) = p.isPrefixOf l := by
 rw [bs_toList, bs_toList, List.drop_zero]
 by_cases h : p.length ≤ l.length
 · have h1 : (p.length : Int) ≤ l.length := by omega
   simp only [h1, decide_true, if_true]
   rw [Bool.eq_iff_iff, beq_iff_eq, List.isPrefixOf_iff_prefix, List.prefix_iff_eq_take]
   constructor <;> intro h <;> exact h.symm
 · have h1 : ¬ (p.length : Int) ≤ l.length := by omega
   simp only [h1, decide_false, Bool.false_eq_true, if_false]
   symm
   rw [Bool.eq_false_iff]
   intro hp
   have := (List.isPrefixOf_iff_prefix.1 hp).length_le
   omega
theorem c_hasPrefix (l p : List UInt8) : FnC Tryz.prog 175 [.c (.v (.string (bs l))), .c (.v (.string (bs p)))] (.c (.v (.bool (p.isPrefixOf l)))) := by
 refine w175 (bs l) (bs p) ?_
 simp only [bs_size, bs_extract, Int.toNat_natCast]
 refine ⟨fun h => by omega, ?_⟩
 congr 3
 exact take_ble p l
theorem c_cutPrefix0 (l p : List UInt8) : FnC Tryz.prog 166 [.c (.v (.string (bs l))), .c (.v (.string (bs p)))] (.tup [.c (.v (.string (bs (if p.isPrefixOf l then l.drop p.length else l)))), .c (.v (.bool (p.isPrefixOf l)))]) := by
 refine w166 (bs l) (bs p) ?_
 refine ⟨_, c_hasPrefix l p, fun h => ?_, fun h => ?_⟩
 · have : p.isPrefixOf l = false := by rw [Bool.eq_false_iff]; exact h
   simp [this]
 · have h1 : p.isPrefixOf l = true := by simpa using h
   have := (List.isPrefixOf_iff_prefix.1 h1).length_le
   simp only [bs_size, bs_extract, Int.toNat_natCast, List.take_length, h1, if_true]
   exact ⟨by omega, trivial⟩
theorem c_cutPrefix (l p : List UInt8) : FnC Tryz.prog 155 [.c (.v (.string (bs l))), .c (.v (.string (bs p)))] (.tup [.c (.v (.string (bs (if p.isPrefixOf l then l.drop p.length else l)))), .c (.v (.bool (p.isPrefixOf l)))]) := by
 refine w155 (bs l) (bs p) ?_
 exact ⟨_, _, c_cutPrefix0 l p, rfl⟩
theorem read_step (d : List UInt8) (hs : Sz d) (hd : d.all isDig = true) (most : Int) (hm : most = 9223372036854775807 ∨ most = 9223372036854775808) (pos n : Int) (h0 : 0 ≤ pos) (h1 : pos < d.length) (hn : n = (valL (d.take pos.toNat) : Int)) (hle : n ≤ most) :
 ∃ c : Int, 0 ≤ c ∧ c ≤ 9 ∧ IntKind.wrap .u64 (IntKind.wrap .i32 ((((Utf8.decode (bs d) pos.toNat).1 : Nat) : Int) - 48)) = c ∧ IntKind.wrap .u64 (Int.tdiv (IntKind.wrap .u64 (most - c)) 10) = (most - c) / 10 ∧ ((Utf8.decode (bs d) pos.toNat).2 : Int) = 1 ∧
  (valL (d.take (pos.toNat + 1)) : Int) = 10 * n + c ∧ ((most - c) / 10 < n → most < (valL d : Int)) ∧ (¬ (most - c) / 10 < n → 10 * n + c ≤ most ∧ IntKind.wrap .u64 (IntKind.wrap .u64 (10 * n) + c) = 10 * n + c) := by
 have hi : pos.toNat < d.length := by omega
 have hg := getD_dig hd hi
 rw [dec_low d _ hi (by omega)]
 have hv : (valL (d.take (pos.toNat + 1)) : Int) = 10 * n + (((d.getD pos.toNat 0).toNat - 48 : Nat) : Int) := by
  rw [List.take_add_one, valL, valG_app, hn]
  have : d[pos.toNat]?.toList = [d.getD pos.toNat 0] := by simp [List.getD_eq_getElem?_getD, hi]
  rw [this, valG_one]
  simp [valL]
 refine ⟨(((d.getD pos.toNat 0).toNat - 48 : Nat) : Int), by omega, by omega, ?_, ?_, rfl, hv, fun h => ?_, fun h => ?_⟩
 · rw [i32_in _ (by simp only []; omega), u64_in _ (by simp only []; omega)]
   simp only []
   omega
 · rw [u64_in (most - _) (by omega), u64_quo _ _ (by omega)]
 · have hmono : valL (d.take (pos.toNat + 1)) ≤ valL d := by
    conv => rhs; rw [← List.take_append_drop (pos.toNat + 1) d, valL, valG_app]
    have := valG_lt (d.drop (pos.toNat + 1)) (valG 0 (d.take (pos.toNat + 1))) (by
     rw [List.all_eq_true] at hd ⊢
     exact fun x hx => hd x (List.mem_of_mem_drop hx))
    have h2 := this.2
    have : valG 0 (d.take (pos.toNat + 1)) ≤ valG 0 (d.take (pos.toNat + 1)) * 10 ^ (d.drop (pos.toNat + 1)).length := Nat.le_mul_of_pos_right _ (Nat.pow_pos (by omega))
    unfold valL
    omega
   omega
 · have : 10 * n + (((d.getD pos.toNat 0).toNat - 48 : Nat) : Int) ≤ most := by omega
   refine ⟨this, ?_⟩
   rw [u64_in (10 * n) (by omega), u64_in _ (by omega)]
theorem digitsL_all {l : List UInt8} (h : digitsL l = true) : l.all isDig = true := by
 simp only [digitsL, Bool.and_eq_true] at h
 exact h.1
theorem c_tRead (l : List UInt8) (hs : Sz l) : FnC Tryz.prog 152 [.c (.v (.string (bs l)))] (.tup [.c (.v (.int .i64 (readL l).1)), .c (.v (.int .i64 (readL l).2))]) := by
 refine w152 (bs l) ?_
 simp only [mk_bs, bs_inj]
 have hpre : ([45] : List UInt8).isPrefixOf l = decide (l.head? = some 45) := by
  cases l with
  | nil => rfl
  | cons a l =>
   have : ((45 : UInt8) == a) = decide (a = 45) := by
    rw [Bool.eq_iff_iff]; simp only [beq_iff_eq, decide_eq_true_eq]; exact ⟨fun h => h.symm, fun h => h.symm⟩
   simp only [List.isPrefixOf, this, Bool.and_true, List.head?_cons, Option.some.injEq]
 generalize hd : (if ([45] : List UInt8).isPrefixOf l then l.drop ([45] : List UInt8).length else l) = d
 have hsd : Sz d := by
  subst hd
  unfold Sz at hs ⊢
  split
  · simp; omega
  · exact hs
 have hcut := c_cutPrefix l [45]
 rw [hd] at hcut
 refine ⟨_, _, hcut, _, c_tdigits d hsd, ?_⟩
 rw [hpre] at hd ⊢
 simp only [decide_eq_true_eq] at hd
 have hR : readL l = if l.head? = some 45 then (if digitsL d = true ∧ d ≠ [48] then (if valL d ≤ 9223372036854775808 then (-(valL d : Int), 0) else (0, 9)) else (0, 8)) else (if digitsL d = true then (if valL d ≤ 9223372036854775807 then ((valL d : Int), 0) else (0, 9)) else (0, 8)) := by
  unfold readL
  split
  · rename_i h
    rw [if_pos h] at hd
    rw [← hd, List.length_singleton, List.drop_one]
  · rename_i h
    rw [if_neg h] at hd
    rw [← hd]
 rw [hR]
 clear hR hcut hpre
 simp only [decide_eq_true_eq]
 refine ⟨fun h => ?_, fun h => ?_⟩
 · by_cases hb : l.head? = some 45
   · simp only [hb, if_true]
     rw [if_neg (fun hc => by rcases h with h | h; exact h hc.1; exact hc.2 ((bs_inj _ _).1 h.2))]
   · simp only [hb, if_false]
     rw [if_neg (fun hc => by rcases h with h | h; exact h hc; exact hb h.1)]
 have hdig : digitsL d = true := Classical.byContradiction fun hc => h (.inl hc)
 have hall := digitsL_all hdig
 refine ⟨fun hb => ?_, fun hb => ?_⟩
 · have hne : d ≠ [48] := fun e => h (.inr ⟨hb, (bs_inj _ _).2 e⟩)
   simp only [hb, if_true, hdig, hne, ne_eq, not_false_eq_true, and_self]
   refine ⟨fun pos n k => 0 ≤ pos ∧ pos ≤ d.length ∧ n = (valL (d.take pos.toNat) : Int) ∧ n ≤ 9223372036854775808 ∧ k = d.length - pos.toNat, ⟨_, by omega, by omega, by simp [valL, valG], by omega, rfl⟩, ?_⟩
   rintro k pos n ⟨h0, h1, h2, h3, rfl⟩
   rw [bs_size]
   refine ⟨fun hlt => ⟨by omega, ?_⟩, fun hlt => ⟨fun _ => ?_, fun hc => absurd trivial hc⟩⟩
   · obtain ⟨c, c0, c9, hc, hq, hw, hv, hov, hok⟩ := read_step d hsd hall 9223372036854775808 (.inr rfl) pos n h0 hlt h2 h3
     rw [hc, hq, hw]
     refine ⟨fun hlt => ?_, fun hlt => ?_⟩
     · rw [if_neg (by have := hov hlt; omega)]
     · obtain ⟨hl, hw2⟩ := hok hlt
       rw [hw2]
       refine ⟨_, ?_, by omega, by omega, ?_, hl, rfl⟩
       · omega
       · rw [show (pos + 1).toNat = pos.toNat + 1 by omega, hv]
   · have e : pos.toNat = d.length := by omega
     rw [e, List.take_length] at h2
     rw [if_pos (by omega)]
     have e2 : IntKind.wrap .i64 (IntKind.wrap .u64 (0 - n)) = -n := by rw [IntKind.wrap_u64, IntKind.wrap_i64]; (try unfold wrap64); omega
     rw [e2, h2]
 · simp only [hb, if_false, hdig, if_true]
   refine ⟨fun pos n k => 0 ≤ pos ∧ pos ≤ d.length ∧ n = (valL (d.take pos.toNat) : Int) ∧ n ≤ 9223372036854775807 ∧ k = d.length - pos.toNat, ⟨_, by omega, by omega, by simp [valL, valG], by omega, rfl⟩, ?_⟩
   rintro k pos n ⟨h0, h1, h2, h3, rfl⟩
   rw [bs_size]
   refine ⟨fun hlt => ⟨by omega, ?_⟩, fun hlt => ⟨fun hc => absurd hc (by simp), fun _ => ?_⟩⟩
   · obtain ⟨c, c0, c9, hc, hq, hw, hv, hov, hok⟩ := read_step d hsd hall 9223372036854775807 (.inl rfl) pos n h0 hlt h2 h3
     rw [hc, hq, hw]
     refine ⟨fun hlt => ?_, fun hlt => ?_⟩
     · rw [if_neg (by have := hov hlt; omega)]
     · obtain ⟨hl, hw2⟩ := hok hlt
       rw [hw2]
       refine ⟨_, ?_, by omega, by omega, ?_, hl, rfl⟩
       · omega
       · rw [show (pos + 1).toNat = pos.toNat + 1 by omega, hv]
   · have e : pos.toNat = d.length := by omega
     rw [e, List.take_length] at h2
     rw [if_pos (by omega), i64_in _ (by omega), h2]
end Go.Proofs.YtodjimecekaaeaaGreatDoor
