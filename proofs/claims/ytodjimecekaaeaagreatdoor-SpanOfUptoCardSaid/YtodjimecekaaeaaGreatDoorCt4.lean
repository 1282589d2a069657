/- What the document's Num and Read compute: the digits of a number, and the number of a text. Conditions: a number of 64 bits; a text that a machine can hold. -/
import Derived.Test.YtodjimecekaaeaaGreatDoorCt3
namespace Go.Proofs.YtodjimecekaaeaaGreatDoor
open Go.RowKit Go.IntWalk
set_option linter.unusedSimpArgs false
set_option linter.unusedVariables false
theorem one_byte (z : Int) (b : UInt8) (h : z = (b.toNat : Int)) : ([[CV.v (.int .u8 z)]] : List (List CV)) = bc [b] := by subst h; rfl
theorem r3Num_pos : ∀ (N : Nat), N ≤ 9223372036854775807 → FnC Tryz.prog 102 [.c (.v (.int .i64 (N : Int)))] (.c (.v (.string (bs (digs N))))) := by
 intro N
 induction N using Nat.strongRecOn with
 | _ N ih =>
  intro hN
  refine w102 (N : Int) ?_
  refine ⟨fun h => by omega, fun _ => ⟨fun h => ?_, fun h => ⟨by omega, ?_⟩⟩⟩
  · intro x1 hx1
    have e : IntKind.wrap .u8 (IntKind.wrap .i64 (48 + (N : Int))) = ((dig1 N).toNat : Int) := by
     rw [i64_in _ (by omega), u8_in _ (by omega), dig1_toNat]; omega
    rw [one_byte _ _ e] at hx1
    subst hx1
    rw [bc_str, digs_lt (by omega)]
    exact ⟨bc_all _, rfl⟩
  · have e : IntKind.wrap .i64 (Int.tdiv (N : Int) 10) = ((N / 10 : Nat) : Int) := by rw [i64_quo _ _ (by omega)]; omega
    rw [e]
    refine ⟨_, ih (N / 10) (by omega) (by omega), by omega, fun x2 hx2 => ?_⟩
    have e2 : Int.tmod (N : Int) 10 = ((N % 10 : Nat) : Int) := by rw [Int.tmod_eq_emod_of_nonneg (by omega)]; omega
    have e3 : IntKind.wrap .u8 (IntKind.wrap .i64 (48 + Int.tmod (N : Int) 10)) = ((dig1 N).toNat : Int) := by
     rw [e2, i64_in _ (by omega), u8_in _ (by omega), dig1_toNat]; omega
    rw [one_byte _ _ e3] at hx2
    subst hx2
    rw [bc_str, bs_size, bs_size, bs_append, digs_ge (n := N) (by omega)]
    refine ⟨bc_all _, ?_, rfl⟩
    have := digs_len19 (N / 10) (by omega)
    simp
    omega
theorem r3Num_neg : ∀ (N : Nat), 0 < N → N ≤ 9223372036854775808 → FnC Tryz.prog 102 [.c (.v (.int .i64 (-(N : Int))))] (.c (.v (.string (bs (45 :: digs N))))) := by
 intro N
 induction N using Nat.strongRecOn with
 | _ N ih =>
  intro h0 hN
  refine w102 (-(N : Int)) ?_
  refine ⟨fun _ => ⟨fun h => ?_, fun h => ⟨by omega, ?_⟩⟩, fun h => by omega⟩
  · intro x1 hx1
    have e : IntKind.wrap .u8 (IntKind.wrap .i64 (48 - (-(N : Int)))) = ((dig1 N).toNat : Int) := by
     rw [i64_in _ (by omega), u8_in _ (by omega), dig1_toNat]; omega
    rw [one_byte _ _ e] at hx1
    subst hx1
    rw [bc_str]
    simp only [mk_bs]
    rw [bs_size, bs_size, bs_append, digs_lt (by omega)]
    exact ⟨bc_all _, by simp, rfl⟩
  · have e0 : Int.tdiv (-(N : Int)) 10 = -((N / 10 : Nat) : Int) := by
     rw [Int.neg_tdiv]
     congr 1
    have e : IntKind.wrap .i64 (Int.tdiv (-(N : Int)) 10) = -((N / 10 : Nat) : Int) := by rw [e0, i64_in _ (by omega)]
    rw [e]
    refine ⟨_, ih (N / 10) (by omega) (by omega) (by omega), by omega, fun x2 hx2 => ?_⟩
    have e2 : Int.tmod (-(N : Int)) 10 = -((N % 10 : Nat) : Int) := by
     rw [Int.neg_tmod]
     congr 1
    have e3 : IntKind.wrap .u8 (IntKind.wrap .i64 (48 - Int.tmod (-(N : Int)) 10)) = ((dig1 N).toNat : Int) := by
     rw [e2, i64_in _ (by omega), u8_in _ (by omega), dig1_toNat]; omega
    rw [one_byte _ _ e3] at hx2
    subst hx2
    rw [bc_str, bs_size, bs_size, bs_append, digs_ge (n := N) (by omega)]
    refine ⟨bc_all _, ?_, rfl⟩
    have := digs_len19 (N / 10) (by omega)
    simp
    omega
theorem c_r3Num (n : Int) (h : -9223372036854775808 ≤ n ∧ n ≤ 9223372036854775807) : FnC Tryz.prog 102 [.c (.v (.int .i64 n))] (.c (.v (.string (bs (numL n))))) := by
 unfold numL
 by_cases hn : n < 0
 · rw [if_pos hn]
   have := r3Num_neg n.natAbs (by omega) (by omega)
   rwa [show -((n.natAbs : Nat) : Int) = n by omega] at this
 · rw [if_neg hn]
   have := r3Num_pos n.natAbs (by omega)
   rwa [show ((n.natAbs : Nat) : Int) = n by omega] at this
theorem less_val : ∀ (l m : List UInt8) (n : Nat), l.all isDig = true → m.all isDig = true → l.length = m.length → ((Op.bytesLess l m = true ∨ l = m) ↔ valG n l ≤ valG n m)
 | [], [], n, _, _, _ => by simp
 | a :: l, b :: m, n, hl, hm, he => by
  simp only [List.all_cons, Bool.and_eq_true, isDig, decide_eq_true_eq] at hl hm
  obtain ⟨ha, hl⟩ := hl
  obtain ⟨hb, hm⟩ := hm
  have hl' : l.all isDig = true := by simpa [isDig] using hl
  have hm' : m.all isDig = true := by simpa [isDig] using hm
  have he' : l.length = m.length := by simpa using he
  show _ ↔ valG (10 * n + (a.toNat - 48)) l ≤ valG (10 * n + (b.toNat - 48)) m
  have v1 := valG_lt l (10 * n + (a.toNat - 48)) hl'
  have v2 := valG_lt m (10 * n + (b.toNat - 48)) hm'
  rw [he'] at v1
  by_cases hab : a = b
  · subst hab
    rw [← less_val l m _ hl' hm' he']
    simp [Op.bytesLess]
  · by_cases hlt : a < b
    · have h1 : a.toNat < b.toNat := hlt
      have : (10 * n + (a.toNat - 48) + 1) * 10 ^ m.length ≤ (10 * n + (b.toNat - 48)) * 10 ^ m.length := Nat.mul_le_mul_right _ (by omega)
      constructor
      · intro _; omega
      · intro _; left; simp [Op.bytesLess, hlt]
    · have h1 : b.toNat < a.toNat := by
       have h1 : ¬ a.toNat < b.toNat := hlt
       have h2 : a.toNat ≠ b.toNat := fun e => hab (UInt8.toNat_inj.1 e)
       omega
      have : (10 * n + (b.toNat - 48) + 1) * 10 ^ m.length ≤ (10 * n + (a.toNat - 48)) * 10 ^ m.length := Nat.mul_le_mul_right _ (by omega)
      constructor
      · rintro (h | h)
        · have hba : b < a := h1
          simp [Op.bytesLess, hlt] at h
          exact absurd h.1 hab
        · simp only [List.cons.injEq] at h
          exact absurd h.1 hab
      · intro h; omega
 | [], _ :: _, _, _, _, he => by simp at he
 | _ :: _, [], _, _, _, he => by simp at he
theorem most_val : valL [57, 50, 50, 51, 51, 55, 50, 48, 51, 54, 56, 53, 52, 55, 55, 53, 56, 48, 56] = 9223372036854775808 ∧ valL [57, 50, 50, 51, 51, 55, 50, 48, 51, 54, 56, 53, 52, 55, 55, 53, 56, 48, 55] = 9223372036854775807 := by decide +kernel
theorem digitsL_lead {d : List UInt8} (h : digitsL d = true) (hl : 19 < d.length) : 10000000000000000000 ≤ valL d := by
 obtain ⟨h1, h2⟩ := (by simpa only [digitsL, Bool.and_eq_true] using h : d.all isDig = true ∧ (d.length == 1 || (decide (1 < d.length) && !(d.getD 0 0 == 48))) = true)
 cases d with
 | nil => simp at hl
 | cons a d =>
  simp only [List.length_cons] at hl h2
  have h3 : ((d.length + 1 == 1) : Bool) = false := beq_false_of_ne (by omega)
  rw [h3] at h2
  have ha : ¬ a = 48 := by
   have : (List.getD (a :: d) 0 0 == 48) = false := by
    cases hh : (List.getD (a :: d) 0 0 == 48)
    · rfl
    · rw [hh] at h2; simp at h2
   intro e
   subst e
   simp at this
  simp only [List.all_cons, Bool.and_eq_true, isDig, decide_eq_true_eq] at h1
  have ha' : a.toNat ≠ 48 := fun e => ha (UInt8.toNat_inj.1 e)
  have := (valG_lt d (a.toNat - 48) (by simpa [isDig] using h1.2)).2
  have e : valL (a :: d) = valG (a.toNat - 48) d := by
   show valG (10 * 0 + (a.toNat - 48)) d = _
   simp
  rw [e]
  have h19 : 10 ^ 19 ≤ 10 ^ d.length := Nat.pow_le_pow_right (by omega) (by omega)
  have : 1 * 10 ^ d.length ≤ (a.toNat - 48) * 10 ^ d.length := Nat.mul_le_mul_right _ (by omega)
  omega
theorem digitsL_short {d : List UInt8} (h : digitsL d = true) (hl : d.length < 19) : valL d < 1000000000000000000 := by
 have := (valG_lt d 0 (digitsL_all h)).1
 have h2 : 10 ^ d.length ≤ 10 ^ 18 := Nat.pow_le_pow_right (by omega) (by omega)
 unfold valL
 omega
theorem over_iff {d m : List UInt8} {M : Nat} (h : digitsL d = true) (hm : valL m = M) (hma : m.all isDig = true) (hml : m.length = 19) (hM : 1000000000000000000 ≤ M ∧ M < 10000000000000000000) :
 ((19 : Int) < (d.length : Int) ∨ ((d.length : Int) = 19 ∧ ¬ (Op.bytesLess d m = true ∨ d = m))) ↔ M < valL d := by
 rcases Nat.lt_trichotomy d.length 19 with hl | hl | hl
 · have := digitsL_short h hl
   constructor
   · intro h; omega
   · intro h; omega
 · have := less_val d m 0 (digitsL_all h) hma (by omega)
   rw [this]
   unfold valL at *
   constructor
   · rintro (h | h) <;> omega
   · intro h; right; constructor <;> omega
 · have := digitsL_lead h hl
   constructor
   · intro _; omega
   · intro _; left; omega
theorem rstep (d : List UInt8) (hd : d.all isDig = true) (n : Int) (i : Nat) (hi : i < d.length) (hn : n = -(valL (d.take i) : Int)) (hb : (valL d : Int) ≤ 9223372036854775808) :
 IntKind.wrap .i64 (IntKind.wrap .i64 (10 * n) - IntKind.wrap .i64 (IntKind.wrap .u8 (((d.getD i 0).toNat : Int) - 48))) = -(valL (d.take (i + 1)) : Int) := by
 have hg := getD_dig hd hi
 have hv : (valL (d.take (i + 1)) : Int) = 10 * (valL (d.take i) : Int) + (((d.getD i 0).toNat - 48 : Nat) : Int) := by
  rw [List.take_add_one, valL, valG_app]
  have : d[i]?.toList = [d.getD i 0] := by simp [List.getD_eq_getElem?_getD, hi]
  rw [this, valG_one]
  simp [valL]
 have hmono : valL (d.take (i + 1)) ≤ valL d := by
  conv => rhs; rw [← List.take_append_drop (i + 1) d, valL, valG_app]
  have := valG_lt (d.drop (i + 1)) (valG 0 (d.take (i + 1))) (by
   rw [List.all_eq_true] at hd ⊢
   exact fun x hx => hd x (List.mem_of_mem_drop hx))
  have h2 := this.2
  have : valG 0 (d.take (i + 1)) ≤ valG 0 (d.take (i + 1)) * 10 ^ (d.drop (i + 1)).length := Nat.le_mul_of_pos_right _ (Nat.pow_pos (by omega))
  unfold valL
  omega
 have e1 : IntKind.wrap .u8 (((d.getD i 0).toNat : Int) - 48) = (((d.getD i 0).toNat : Int) - 48) := u8_in _ (by omega)
 have e2 : IntKind.wrap .i64 (10 * n) = 10 * n := i64_in _ (by omega)
 have e3 : IntKind.wrap .i64 (((d.getD i 0).toNat : Int) - 48) = (((d.getD i 0).toNat : Int) - 48) := i64_in _ (by omega)
 rw [e1, e2, e3, i64_in _ (by omega)]
 omega
theorem c_r3Read (l : List UInt8) (hs : Sz l) : FnC Tryz.prog 77 [.c (.v (.string (bs l)))] (.tup [.c (.v (.int .i64 (readL l).1)), .c (.v (.int .i64 (readL l).2))]) := by
 refine w77 (bs l) ?_
 unfold Sz at hs
 have hhead : (0 < (((bs l).size : Nat) : Int) ∧ byteAt (bs l) 0 = 45) ↔ l.head? = some 45 := by
  rw [bs_size, byteAt_bs]
  cases l with
  | nil => simp
  | cons a l =>
   simp only [List.length_cons, Int.toNat_zero, List.getD_cons_zero, List.head?_cons, Option.some.injEq]
   constructor
   · rintro ⟨_, h⟩
     exact u8_ext (b := 45) h
   · rintro rfl
     exact ⟨by omega, rfl⟩
 simp only [hhead]
 refine ⟨fun h => by omega, fun hb => ?_, fun hb => ?_⟩
 · have hl : 0 < l.length := by cases l <;> simp_all
   have htail : (bs l).extract (1 : Int).toNat (((bs l).size : Nat) : Int).toNat = bs l.tail := by
    rw [bs_size, bs_extract]
    congr 1
    simp [List.drop_one]
   rw [htail]
   have hR : readL l = (if digitsL l.tail = true ∧ l.tail ≠ [48] then (if valL l.tail ≤ 9223372036854775808 then (-(valL l.tail : Int), 0) else (0, 9)) else (0, 8)) := by
    unfold readL; rw [if_pos hb]
   rw [hR]
   generalize hd : l.tail = d at *
   have hsd : Sz d := by unfold Sz; subst hd; simp; omega
   simp only [mk_bs, bs_inj, bs_toList, hb, true_and, true_implies, not_true, false_implies, and_true]
   refine ⟨by rw [bs_size]; omega, _, c_r3digits d hsd, fun h => ?_, fun h => ?_⟩
   · rw [if_neg (fun hc => by rcases h with h | h; exact h hc.1; exact hc.2 h)]
   have hdig : digitsL d = true := Classical.byContradiction fun hc => h (.inl hc)
   have hne : d ≠ [48] := fun e => h (.inr e)
   rw [if_pos ⟨hdig, hne⟩]
   have ho := over_iff hdig most_val.1 (by decide) (by decide) (by omega)
   rw [bs_size]
   refine ⟨fun hlt => ?_, fun hlt => ?_⟩
   · rw [if_neg (by have := ho.1 hlt; omega)]
   have hle : ¬ 9223372036854775808 < valL d := fun hc => hlt (ho.2 hc)
   rw [if_pos (by omega)]
   refine ⟨fun n i k => 0 ≤ i ∧ i ≤ d.length ∧ n = -(valL (d.take i.toNat) : Int) ∧ k = d.length - i.toNat, ⟨_, by omega, by omega, by simp [valL, valG], rfl⟩, ?_⟩
   unfold Sz at hsd
   rintro k n i ⟨h0, h1, h2, rfl⟩
   refine ⟨fun hi => ⟨by omega, ?_⟩, fun hi => ?_⟩
   · rw [byteAt_bs, rstep d (digitsL_all hdig) n i.toNat (by omega) h2 (by omega), i64_in _ (by omega)]
     refine ⟨_, ?_, by omega, by omega, ?_, rfl⟩
     · omega
     · rw [show (i + 1).toNat = i.toNat + 1 by omega]
   · rw [show i.toNat = d.length by omega, List.take_length] at h2
     rw [h2]
 · have hR : readL l = (if digitsL l = true then (if valL l ≤ 9223372036854775807 then ((valL l : Int), 0) else (0, 9)) else (0, 8)) := by
    unfold readL; rw [if_neg hb]
   rw [hR]
   simp only [mk_bs, bs_inj, bs_toList, hb, false_and, or_false, true_and, true_implies, not_true, not_false_eq_true, false_implies, and_true]
   refine ⟨_, c_r3digits l hs, fun h => ?_, fun h => ?_⟩
   · rw [if_neg h]
   have hdig : digitsL l = true := Classical.byContradiction fun hc => h hc
   rw [if_pos hdig]
   have ho := over_iff hdig most_val.2 (by decide) (by decide) (by omega)
   rw [bs_size]
   refine ⟨fun hlt => ?_, fun hlt => ?_⟩
   · rw [if_neg (by have := ho.1 hlt; omega)]
   have hle : ¬ 9223372036854775807 < valL l := fun hc => hlt (ho.2 hc)
   rw [if_pos (by omega)]
   refine ⟨fun n i k => 0 ≤ i ∧ i ≤ l.length ∧ n = -(valL (l.take i.toNat) : Int) ∧ k = l.length - i.toNat, ⟨_, by omega, by omega, by simp [valL, valG], rfl⟩, ?_⟩
   rintro k n i ⟨h0, h1, h2, rfl⟩
   refine ⟨fun hi => ⟨by omega, ?_⟩, fun hi => ?_⟩
   · rw [byteAt_bs, rstep l (digitsL_all hdig) n i.toNat (by omega) h2 (by omega), i64_in _ (by omega)]
     refine ⟨_, ?_, by omega, by omega, ?_, rfl⟩
     · omega
     · rw [show (i + 1).toNat = i.toNat + 1 by omega]
   · rw [show i.toNat = l.length by omega, List.take_length] at h2
     rw [h2, i64_in _ (by omega)]
     congr 5
     omega
end Go.Proofs.YtodjimecekaaeaaGreatDoor
