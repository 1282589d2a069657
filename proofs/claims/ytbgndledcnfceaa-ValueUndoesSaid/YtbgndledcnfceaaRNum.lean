/- What the document's Num computes. No condition but that the number is of 64 bits. -/
import Derived.Test.YtbgndledcnfceaaNum
import Derived.Outline
import Derived.Deep.RegionWith
namespace Go.Proofs.Ytbgndledcnfceaa
open Go.ChangeShapes Go.WideShapes Go.ChangeAt Go.RowKit

set_option maxHeartbeats 1000000 in
theorem rNum3_pos (k : Nat) : ∀ (N : Nat) (w : World), N ≤ k → N ≤ 9223372036854775807 → Calls Try.prog 52 #[.int .i64 (N : Int)] w (Ret (.string ⟨(digs N).toArray⟩) w) := by
  induction k with
  | zero =>
    intro N w hk hN
    have h0 : N = 0 := by omega
    subst h0
    have hd := digs_lt (n := 0) (by omega)
    have Hd := Lib.hid hd
    clear hd
    have kc := conv_one (P := Try.prog) 67 9 5 Try.underlying67 Try.underlying5 Try.underlying9 (dig1 0) 48 (by rw [dig1_toNat]; omega)
    go_enter Try.func52, Try.ntmps52
    go_wp2_with fail
    go_ret
    exact ⟨ret_str (by rw [Hd.out]), (Below.refl _ _).alloc (Nat.le_refl _) _⟩
  | succ k ih =>
    intro N w hk hN
    have hdlt : (N : Int) % 10 < 10 := by omega
    by_cases h : N < 10
    · have hd := digs_lt h
      have Hd := Lib.hid hd
      clear hd
      have kc := conv_one (P := Try.prog) 67 9 5 Try.underlying67 Try.underlying5 Try.underlying9 (dig1 N) (48 + (N : Int)) (by rw [dig1_toNat]; omega)
      go_enter Try.func52, Try.ntmps52
      go_wp2_with fail
      go_ret
      exact ⟨ret_str (by rw [Hd.out]), (Below.refl _ _).alloc (Nat.le_refl _) _⟩
    · have ih' := fun wx => ih (N / 10) wx (by omega) (by omega)
      rw [show ((N / 10 : Nat) : Int) = (N : Int) / 10 from by omega] at ih'
      have Hih := Lib.hid ih'
      clear ih' ih
      have hd := digs_ge h
      have Hd := Lib.hid hd
      clear hd
      have kc := conv_one (P := Try.prog) 67 9 5 Try.underlying67 Try.underlying5 Try.underlying9 (dig1 N) (48 + (N : Int) % 10) (by rw [dig1_toNat]; omega)
      have hsz := digs_len19 (N / 10) (by omega)
      go_enter Try.func52, Try.ntmps52
      go_wp2_with fail
      have w1 : IntKind.i64.wrap ((N : Int) / 10) = (N : Int) / 10 := IntWalk.i64_in _ (by omega)
      have w2 : IntKind.i64.wrap (48 + (N : Int) % 10) = 48 + (N : Int) % 10 := IntWalk.i64_in _ (by omega)
      have w3 : IntKind.u8.wrap (48 + (N : Int) % 10) = 48 + (N : Int) % 10 := by simp [IntKind.wrap, IntKind.bits, IntKind.signed]; omega
      have w4 : ((N : Int)).tmod 10 = (N : Int) % 10 := rfl
      
      
      go_region_with (go_at_call 52; refine (Hih.out _).mono ?_; rintro e w' ⟨rfl, hb⟩; obtain ⟨hc, hf⟩ := bcell hb; have hz := hb.size; try simp at hz)
      clear w1 w2 w3 w4
      all_goals go_wp2_with fail
      all_goals go_ret
      all_goals refine ⟨ret_str ?_, ?_⟩
      all_goals first | (rw [Hd.out]; exact ByteArray.mk_append_mk _ _) | skip
      all_goals repeat (first | exact Below.refl _ _ | assumption | refine Below.drew ?_ | refine below_drewN ?_ _ | refine Below.setCell ?_ (by first | exact Nat.le_refl _ | omega | (simp; done) | (simp; omega)) _ | refine Below.alloc ?_ (by first | exact Nat.le_refl _ | omega | (simp; done) | (simp; omega)) _ | refine Below.trans ?_ (Below.mono (by assumption) (by first | exact Nat.le_refl _ | omega | (simp; done) | (simp; omega))))

set_option maxHeartbeats 1000000 in
theorem rNum3_neg (k : Nat) : ∀ (n : Int) (w : World), n.natAbs ≤ k → n < 0 → -9223372036854775808 ≤ n → Calls Try.prog 52 #[.int .i64 n] w (Ret (.string ⟨(45 :: digs n.natAbs).toArray⟩) w) := by
  induction k with
  | zero =>
    intro n w hk h1 hN
    omega
  | succ k ih =>
    intro n w hk h1 hN
    by_cases h : n.natAbs < 10
    · have hd := digs_lt h
      have Hd := Lib.hid hd
      clear hd
      have kc := conv_one (P := Try.prog) 67 9 5 Try.underlying67 Try.underlying5 Try.underlying9 (dig1 n.natAbs) (48 - n) (by rw [dig1_toNat]; omega)
      go_enter Try.func52, Try.ntmps52
      go_wp2_with fail
      go_ret
      exact ⟨ret_str (by rw [Hd.out]; rfl), (Below.refl _ _).alloc (Nat.le_refl _) _⟩
    · have hq : (n.tdiv 10).natAbs = n.natAbs / 10 := Int.natAbs_tdiv n 10
      have hq0 : n.tdiv 10 < 0 := by
        have e : n = -((n.natAbs : Nat) : Int) := by omega
        rw [e, Int.neg_tdiv]
        have : ((n.natAbs : Nat) : Int).tdiv 10 = (n.natAbs : Int) / 10 := rfl
        omega
      have ih' := fun wx => ih (n.tdiv 10) wx (by omega) hq0 (by omega)
      rw [hq] at ih'
      have Hih := Lib.hid ih'
      have hd := digs_ge h
      have Hd := Lib.hid hd
      clear hd
      have hm : n.tmod 10 = -((n.natAbs % 10 : Nat) : Int) := by
        have e : n = -((n.natAbs : Nat) : Int) := by omega
        have e2 : (-((n.natAbs : Nat) : Int)).tmod 10 = -((n.natAbs : Int).tmod 10) := Int.neg_tmod ..
        rw [← e] at e2
        rw [e2]; rfl
      have hm0 : -10 < n.tmod 10 ∧ n.tmod 10 ≤ 0 := by omega
      have kc := conv_one (P := Try.prog) 67 9 5 Try.underlying67 Try.underlying5 Try.underlying9 (dig1 n.natAbs) (48 - n.tmod 10) (by rw [dig1_toNat]; omega)
      have hsz := digs_len19 (n.natAbs / 10) (by omega)
      have w1 : IntKind.i64.wrap (n.tdiv 10) = n.tdiv 10 := IntWalk.i64_in _ (by omega)
      have w2 : IntKind.i64.wrap (48 - n.tmod 10) = 48 - n.tmod 10 := IntWalk.i64_in _ (by omega)
      have w3 : IntKind.u8.wrap (48 - n.tmod 10) = 48 - n.tmod 10 := by simp [IntKind.wrap, IntKind.bits, IntKind.signed]; omega
      have h10 : n ≤ -10 := by omega
      clear ih' ih hq hm
      go_enter Try.func52, Try.ntmps52
      go_wp2_with fail
      go_region_with (go_at_call 52; refine (Hih.out _).mono ?_; rintro e w' ⟨rfl, hb⟩; obtain ⟨hc, hf⟩ := bcell hb; have hz := hb.size; try simp at hz)
      clear w1 w2 w3
      all_goals go_wp2_with fail
      all_goals go_ret
      all_goals refine ⟨ret_str ?_, ?_⟩
      all_goals first | (rw [Hd.out]; exact ByteArray.mk_append_mk _ _) | skip
      all_goals repeat (first | exact Below.refl _ _ | assumption | refine Below.drew ?_ | refine below_drewN ?_ _ | refine Below.setCell ?_ (by first | exact Nat.le_refl _ | omega | (simp; done) | (simp; omega)) _ | refine Below.alloc ?_ (by first | exact Nat.le_refl _ | omega | (simp; done) | (simp; omega)) _ | refine Below.trans ?_ (Below.mono (by assumption) (by first | exact Nat.le_refl _ | omega | (simp; done) | (simp; omega))))
theorem rNum3 (n : Int) (h : -9223372036854775808 ≤ n ∧ n ≤ 9223372036854775807) (w : World) : Calls Try.prog 52 #[.int .i64 n] w (Ret (.string ⟨(numL n).toArray⟩) w) := by
  unfold numL
  split
  · exact rNum3_neg _ n w (Nat.le_refl _) (by omega) h.1
  · obtain ⟨N, rfl⟩ := Int.eq_ofNat_of_zero_le (show 0 ≤ n by omega)
    rw [Int.natAbs_natCast]
    exact rNum3_pos _ N w (Nat.le_refl _) (by omega)
end Go.Proofs.Ytbgndledcnfceaa
