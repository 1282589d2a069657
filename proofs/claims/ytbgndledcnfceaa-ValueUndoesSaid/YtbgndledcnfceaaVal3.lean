/- What value.Arith and the document's Arith compute, second part: product, quotient, remainder. No condition. -/
import Derived.Test.YtbgndledcnfceaaVal2
namespace Go.Proofs.Ytbgndledcnfceaa
open Go.ChangeShapes Go.WideShapes Go.ChangeAt Go.RowKit

theorem vArith_mul (x y : Int) (sx sy : ByteArray) (hx : -9223372036854775808 ≤ x ∧ x ≤ 9223372036854775807) (hy : -9223372036854775808 ≤ y ∧ y ≤ 9223372036854775807) (w : World) :
    Calls Try.prog 24 #[.string ⟨#[42]⟩, Value.agg #[.int .i64 (1), .int .i64 (x), .string (sx)], Value.agg #[.int .i64 (1), .int .i64 (y), .string (sy)]] w (Ret (Value.tuple #[.agg #[.int .i64 (opR 42 x y).1, .int .i64 (opR 42 x y).2.1, .string ⟨#[]⟩], .int .i64 (opR 42 x y).2.2]) w) := by
  cases hf : fit64 (x * y)
  · have hr : opR 42 x y = (0, 0, 9) := by simp [opR, ofFit, hf]
    have Hr := Lib.hid hr
    clear hr
    go_enter Try.func24, Try.ntmps24
    go_wp2_with (first | (go_at_call 38; refine (Try.strings_Contains_one _ _ _).mono ?_; rintro e w' ⟨rfl, rfl⟩) | (go_at_call 40; refine (vproduct _ _ hx hy _).mono ?_; rintro e w1 ⟨rfl, hb1⟩; obtain ⟨hc1, hf1⟩ := bcell hb1; have hz1 := hb1.size; (try simp at hz1); obtain ⟨hl1, hm1⟩ := bsz hb1; (try have hl1_0 : w.heap.size < w1.heap.size := by omega); (try have hm1_0 : w.heap.size ≤ w1.heap.size := by omega); (try have hl1_1 : w.heap.size + 1 < w1.heap.size := by omega); (try have hm1_1 : w.heap.size + 1 ≤ w1.heap.size := by omega); (try have hl1_2 : w.heap.size + 1 + 1 < w1.heap.size := by omega); (try have hm1_2 : w.heap.size + 1 + 1 ≤ w1.heap.size := by omega); (try have hl1_3 : w.heap.size + 1 + 1 + 1 < w1.heap.size := by omega); (try have hm1_3 : w.heap.size + 1 + 1 + 1 ≤ w1.heap.size := by omega)) | (go_at_call 39; refine (vfits _ _ _).mono ?_; rintro e w1 ⟨rfl, hb1⟩; obtain ⟨hc1, hf1⟩ := bcell hb1; have hz1 := hb1.size; (try simp at hz1); obtain ⟨hl1, hm1⟩ := bsz hb1; (try have hl1_0 : w.heap.size < w1.heap.size := by omega); (try have hm1_0 : w.heap.size ≤ w1.heap.size := by omega); (try have hl1_1 : w.heap.size + 1 < w1.heap.size := by omega); (try have hm1_1 : w.heap.size + 1 ≤ w1.heap.size := by omega); (try have hl1_2 : w.heap.size + 1 + 1 < w1.heap.size := by omega); (try have hm1_2 : w.heap.size + 1 + 1 ≤ w1.heap.size := by omega); (try have hl1_3 : w.heap.size + 1 + 1 + 1 < w1.heap.size := by omega); (try have hm1_3 : w.heap.size + 1 + 1 + 1 ≤ w1.heap.size := by omega)) | ((with_reducible refine region_draws ?_); go_quiet (fail)))
    refine bodyPost_ret (v := Value.tuple #[.agg #[.int .i64 ((0, 0, 9)).1, .int .i64 ((0, 0, 9)).2.1, .string ⟨#[]⟩], .int .i64 ((0, 0, 9)).2.2]) (by simp [results, Try.results24, go_sem, *]) rfl ⟨by rw [Hr.out], ?_⟩
    repeat (first | exact Below.refl _ _ | assumption | refine Below.drew ?_ | refine below_drewN ?_ _ | refine Below.setCell ?_ (by first | exact Nat.le_refl _ | omega | (simp; done) | (simp; omega)) _ | refine Below.alloc ?_ (by first | exact Nat.le_refl _ | omega | (simp; done) | (simp; omega)) _ | refine Below.trans ?_ (Below.mono (by assumption) (by first | exact Nat.le_refl _ | omega | (simp; done) | (simp; omega))))
  · have hr : opR 42 x y = (1, x * y, 0) := by simp [opR, ofFit, hf]
    have Hr := Lib.hid hr
    have Hw := Lib.hid (wrap64_fit _ ((fit64_iff _).1 hf))
    clear hr
    go_enter Try.func24, Try.ntmps24
    go_wp2_with (first | (go_at_call 38; refine (Try.strings_Contains_one _ _ _).mono ?_; rintro e w' ⟨rfl, rfl⟩) | (go_at_call 40; refine (vproduct _ _ hx hy _).mono ?_; rintro e w1 ⟨rfl, hb1⟩; obtain ⟨hc1, hf1⟩ := bcell hb1; have hz1 := hb1.size; (try simp at hz1); obtain ⟨hl1, hm1⟩ := bsz hb1; (try have hl1_0 : w.heap.size < w1.heap.size := by omega); (try have hm1_0 : w.heap.size ≤ w1.heap.size := by omega); (try have hl1_1 : w.heap.size + 1 < w1.heap.size := by omega); (try have hm1_1 : w.heap.size + 1 ≤ w1.heap.size := by omega); (try have hl1_2 : w.heap.size + 1 + 1 < w1.heap.size := by omega); (try have hm1_2 : w.heap.size + 1 + 1 ≤ w1.heap.size := by omega); (try have hl1_3 : w.heap.size + 1 + 1 + 1 < w1.heap.size := by omega); (try have hm1_3 : w.heap.size + 1 + 1 + 1 ≤ w1.heap.size := by omega)) | (go_at_call 39; refine (vfits _ _ _).mono ?_; rintro e w1 ⟨rfl, hb1⟩; obtain ⟨hc1, hf1⟩ := bcell hb1; have hz1 := hb1.size; (try simp at hz1); obtain ⟨hl1, hm1⟩ := bsz hb1; (try have hl1_0 : w.heap.size < w1.heap.size := by omega); (try have hm1_0 : w.heap.size ≤ w1.heap.size := by omega); (try have hl1_1 : w.heap.size + 1 < w1.heap.size := by omega); (try have hm1_1 : w.heap.size + 1 ≤ w1.heap.size := by omega); (try have hl1_2 : w.heap.size + 1 + 1 < w1.heap.size := by omega); (try have hm1_2 : w.heap.size + 1 + 1 ≤ w1.heap.size := by omega); (try have hl1_3 : w.heap.size + 1 + 1 + 1 < w1.heap.size := by omega); (try have hm1_3 : w.heap.size + 1 + 1 + 1 ≤ w1.heap.size := by omega)) | ((with_reducible refine region_draws ?_); go_quiet (fail)))
    refine bodyPost_ret (v := Value.tuple #[.agg #[.int .i64 ((1, wrap64 (x * y), 0)).1, .int .i64 ((1, wrap64 (x * y), 0)).2.1, .string ⟨#[]⟩], .int .i64 ((1, wrap64 (x * y), 0)).2.2]) (by simp [results, Try.results24, go_sem, *]) rfl ⟨by rw [Hr.out, Hw.out], ?_⟩
    repeat (first | exact Below.refl _ _ | assumption | refine Below.drew ?_ | refine below_drewN ?_ _ | refine Below.setCell ?_ (by first | exact Nat.le_refl _ | omega | (simp; done) | (simp; omega)) _ | refine Below.alloc ?_ (by first | exact Nat.le_refl _ | omega | (simp; done) | (simp; omega)) _ | refine Below.trans ?_ (Below.mono (by assumption) (by first | exact Nat.le_refl _ | omega | (simp; done) | (simp; omega))))

set_option maxHeartbeats 1000000 in
theorem rArith_mul (x y : Int) (sx sy : ByteArray) (hx : -9223372036854775808 ≤ x ∧ x ≤ 9223372036854775807) (hy : -9223372036854775808 ≤ y ∧ y ≤ 9223372036854775807) (w : World) :
    Calls Try.prog 25 #[.string ⟨#[42]⟩, Value.agg #[.int .i64 (1), .int .i64 (x), .string (sx)], Value.agg #[.int .i64 (1), .int .i64 (y), .string (sy)]] w (Ret (Value.tuple #[.agg #[.int .i64 (opR 42 x y).1, .int .i64 (opR 42 x y).2.1, .string ⟨#[]⟩], .int .i64 (opR 42 x y).2.2]) w) := by
  by_cases x0 : x = 0
  · subst x0
    have hr : opR 42 0 y = (1, 0, 0) := by simp [opR, ofFit, fit64]
    have Hr := Lib.hid hr
    clear hr
    go_enter Try.func25, Try.ntmps25
    go_wp2_with (first | (go_at_call 17; refine (rNum _ _).mono ?_; rintro e w1 ⟨rfl, hb1⟩; obtain ⟨hc1, hf1⟩ := bcell hb1; have hz1 := hb1.size; (try simp at hz1); obtain ⟨hl1, hm1⟩ := bsz hb1; (try have hl1_0 : w.heap.size < w1.heap.size := by omega); (try have hm1_0 : w.heap.size ≤ w1.heap.size := by omega); (try have hl1_1 : w.heap.size + 1 < w1.heap.size := by omega); (try have hm1_1 : w.heap.size + 1 ≤ w1.heap.size := by omega); (try have hl1_2 : w.heap.size + 1 + 1 < w1.heap.size := by omega); (try have hm1_2 : w.heap.size + 1 + 1 ≤ w1.heap.size := by omega); (try have hl1_3 : w.heap.size + 1 + 1 + 1 < w1.heap.size := by omega); (try have hm1_3 : w.heap.size + 1 + 1 + 1 ≤ w1.heap.size := by omega)) | ((with_reducible refine region_draws ?_); go_quiet (fail)))
    refine bodyPost_ret (v := Value.tuple #[.agg #[.int .i64 ((1, 0, 0)).1, .int .i64 ((1, 0, 0)).2.1, .string ⟨#[]⟩], .int .i64 ((1, 0, 0)).2.2]) (by simp [results, Try.results25, go_sem, *]) rfl ⟨by rw [Hr.out], ?_⟩
    repeat (first | exact Below.refl _ _ | assumption | refine Below.drew ?_ | refine below_drewN ?_ _ | refine Below.setCell ?_ (by first | exact Nat.le_refl _ | omega | (simp; done) | (simp; omega)) _ | refine Below.alloc ?_ (by first | exact Nat.le_refl _ | omega | (simp; done) | (simp; omega)) _ | refine Below.trans ?_ (Below.mono (by assumption) (by first | exact Nat.le_refl _ | omega | (simp; done) | (simp; omega))))
  have t0 : (x == 0) = false := by simpa using x0
  by_cases x1 : x = -1
  · subst x1
    by_cases ym : y = -9223372036854775808
    · subst ym
      have hr : opR 42 (-1) (-9223372036854775808) = (0, 0, 9) := by simp [opR, ofFit, fit64]
      have Hr := Lib.hid hr
      clear hr
      have hq : (wrap64 (-wrap64 9223372036854775808) == -9223372036854775808) = true := by simp [wrap64]
      go_enter Try.func25, Try.ntmps25
      go_wp2_with (first | (go_at_call 17; refine (rNum _ _).mono ?_; rintro e w1 ⟨rfl, hb1⟩; obtain ⟨hc1, hf1⟩ := bcell hb1; have hz1 := hb1.size; (try simp at hz1); obtain ⟨hl1, hm1⟩ := bsz hb1; (try have hl1_0 : w.heap.size < w1.heap.size := by omega); (try have hm1_0 : w.heap.size ≤ w1.heap.size := by omega); (try have hl1_1 : w.heap.size + 1 < w1.heap.size := by omega); (try have hm1_1 : w.heap.size + 1 ≤ w1.heap.size := by omega); (try have hl1_2 : w.heap.size + 1 + 1 < w1.heap.size := by omega); (try have hm1_2 : w.heap.size + 1 + 1 ≤ w1.heap.size := by omega); (try have hl1_3 : w.heap.size + 1 + 1 + 1 < w1.heap.size := by omega); (try have hm1_3 : w.heap.size + 1 + 1 + 1 ≤ w1.heap.size := by omega)) | ((with_reducible refine region_draws ?_); go_quiet (fail)))
      refine bodyPost_ret (v := Value.tuple #[.agg #[.int .i64 ((0, 0, 9)).1, .int .i64 ((0, 0, 9)).2.1, .string ⟨#[]⟩], .int .i64 ((0, 0, 9)).2.2]) (by simp [results, Try.results25, go_sem, *]) rfl ⟨by rw [Hr.out], ?_⟩
      repeat (first | exact Below.refl _ _ | assumption | refine Below.drew ?_ | refine below_drewN ?_ _ | refine Below.setCell ?_ (by first | exact Nat.le_refl _ | omega | (simp; done) | (simp; omega)) _ | refine Below.alloc ?_ (by first | exact Nat.le_refl _ | omega | (simp; done) | (simp; omega)) _ | refine Below.trans ?_ (Below.mono (by assumption) (by first | exact Nat.le_refl _ | omega | (simp; done) | (simp; omega))))
    have tm : (y != -9223372036854775808) = true := by simpa using ym
    have hf : fit64 (-y) = true := by rw [fit64_iff]; omega
    have hw : wrap64 (-y) = -y := wrap64_fit _ (by omega)
    have hr : opR 42 (-1) y = (1, -y, 0) := by simp [opR, ofFit, hf]
    have Hr := Lib.hid hr
    have hq : (wrap64 (-wrap64 (-y)) == y) = true := by rw [hw]; simp [wrap64_fit y hy]
    clear hr hf hw
    go_enter Try.func25, Try.ntmps25
    go_wp2_with (first | (go_at_call 17; refine (rNum _ _).mono ?_; rintro e w1 ⟨rfl, hb1⟩; obtain ⟨hc1, hf1⟩ := bcell hb1; have hz1 := hb1.size; (try simp at hz1); obtain ⟨hl1, hm1⟩ := bsz hb1; (try have hl1_0 : w.heap.size < w1.heap.size := by omega); (try have hm1_0 : w.heap.size ≤ w1.heap.size := by omega); (try have hl1_1 : w.heap.size + 1 < w1.heap.size := by omega); (try have hm1_1 : w.heap.size + 1 ≤ w1.heap.size := by omega); (try have hl1_2 : w.heap.size + 1 + 1 < w1.heap.size := by omega); (try have hm1_2 : w.heap.size + 1 + 1 ≤ w1.heap.size := by omega); (try have hl1_3 : w.heap.size + 1 + 1 + 1 < w1.heap.size := by omega); (try have hm1_3 : w.heap.size + 1 + 1 + 1 ≤ w1.heap.size := by omega)) | ((with_reducible refine region_draws ?_); go_quiet (fail)))
    refine bodyPost_ret (v := Value.tuple #[.agg #[.int .i64 ((1, -y, 0)).1, .int .i64 ((1, -y, 0)).2.1, .string ⟨#[]⟩], .int .i64 ((1, -y, 0)).2.2]) (by simp [results, Try.results25, go_sem, *]) rfl ⟨by rw [Hr.out], ?_⟩
    repeat (first | exact Below.refl _ _ | assumption | refine Below.drew ?_ | refine below_drewN ?_ _ | refine Below.setCell ?_ (by first | exact Nat.le_refl _ | omega | (simp; done) | (simp; omega)) _ | refine Below.alloc ?_ (by first | exact Nat.le_refl _ | omega | (simp; done) | (simp; omega)) _ | refine Below.trans ?_ (Below.mono (by assumption) (by first | exact Nat.le_refl _ | omega | (simp; done) | (simp; omega))))
  have t1 : (x != -1) = true := by simpa using x1
  have tb := mul_back y x x0 x1 hx
  rw [Int.mul_comm y x] at tb
  cases hf : fit64 (x * y)
  all_goals rw [hf] at tb
  · have hr : opR 42 x y = (0, 0, 9) := by simp [opR, ofFit, hf]
    have Hr := Lib.hid hr
    clear hr
    go_enter Try.func25, Try.ntmps25
    go_wp2_with (first | (go_at_call 17; refine (rNum _ _).mono ?_; rintro e w1 ⟨rfl, hb1⟩; obtain ⟨hc1, hf1⟩ := bcell hb1; have hz1 := hb1.size; (try simp at hz1); obtain ⟨hl1, hm1⟩ := bsz hb1; (try have hl1_0 : w.heap.size < w1.heap.size := by omega); (try have hm1_0 : w.heap.size ≤ w1.heap.size := by omega); (try have hl1_1 : w.heap.size + 1 < w1.heap.size := by omega); (try have hm1_1 : w.heap.size + 1 ≤ w1.heap.size := by omega); (try have hl1_2 : w.heap.size + 1 + 1 < w1.heap.size := by omega); (try have hm1_2 : w.heap.size + 1 + 1 ≤ w1.heap.size := by omega); (try have hl1_3 : w.heap.size + 1 + 1 + 1 < w1.heap.size := by omega); (try have hm1_3 : w.heap.size + 1 + 1 + 1 ≤ w1.heap.size := by omega)) | ((with_reducible refine region_draws ?_); go_quiet (fail)))
    refine bodyPost_ret (v := Value.tuple #[.agg #[.int .i64 ((0, 0, 9)).1, .int .i64 ((0, 0, 9)).2.1, .string ⟨#[]⟩], .int .i64 ((0, 0, 9)).2.2]) (by simp [results, Try.results25, go_sem, *]) rfl ⟨by rw [Hr.out], ?_⟩
    repeat (first | exact Below.refl _ _ | assumption | refine Below.drew ?_ | refine below_drewN ?_ _ | refine Below.setCell ?_ (by first | exact Nat.le_refl _ | omega | (simp; done) | (simp; omega)) _ | refine Below.alloc ?_ (by first | exact Nat.le_refl _ | omega | (simp; done) | (simp; omega)) _ | refine Below.trans ?_ (Below.mono (by assumption) (by first | exact Nat.le_refl _ | omega | (simp; done) | (simp; omega))))
  · have hr : opR 42 x y = (1, x * y, 0) := by simp [opR, ofFit, hf]
    have Hr := Lib.hid hr
    have Hw := Lib.hid (wrap64_fit _ ((fit64_iff _).1 hf))
    clear hr
    go_enter Try.func25, Try.ntmps25
    go_wp2_with (first | (go_at_call 17; refine (rNum _ _).mono ?_; rintro e w1 ⟨rfl, hb1⟩; obtain ⟨hc1, hf1⟩ := bcell hb1; have hz1 := hb1.size; (try simp at hz1); obtain ⟨hl1, hm1⟩ := bsz hb1; (try have hl1_0 : w.heap.size < w1.heap.size := by omega); (try have hm1_0 : w.heap.size ≤ w1.heap.size := by omega); (try have hl1_1 : w.heap.size + 1 < w1.heap.size := by omega); (try have hm1_1 : w.heap.size + 1 ≤ w1.heap.size := by omega); (try have hl1_2 : w.heap.size + 1 + 1 < w1.heap.size := by omega); (try have hm1_2 : w.heap.size + 1 + 1 ≤ w1.heap.size := by omega); (try have hl1_3 : w.heap.size + 1 + 1 + 1 < w1.heap.size := by omega); (try have hm1_3 : w.heap.size + 1 + 1 + 1 ≤ w1.heap.size := by omega)) | ((with_reducible refine region_draws ?_); go_quiet (fail)))
    refine bodyPost_ret (v := Value.tuple #[.agg #[.int .i64 ((1, wrap64 (x * y), 0)).1, .int .i64 ((1, wrap64 (x * y), 0)).2.1, .string ⟨#[]⟩], .int .i64 ((1, wrap64 (x * y), 0)).2.2]) (by simp [results, Try.results25, go_sem, *]) rfl ⟨by rw [Hr.out, Hw.out], ?_⟩
    repeat (first | exact Below.refl _ _ | assumption | refine Below.drew ?_ | refine below_drewN ?_ _ | refine Below.setCell ?_ (by first | exact Nat.le_refl _ | omega | (simp; done) | (simp; omega)) _ | refine Below.alloc ?_ (by first | exact Nat.le_refl _ | omega | (simp; done) | (simp; omega)) _ | refine Below.trans ?_ (Below.mono (by assumption) (by first | exact Nat.le_refl _ | omega | (simp; done) | (simp; omega))))

theorem tdiv_m1 (n : Int) : n.tdiv (-1) = -n := by rw [Int.tdiv_neg]; simp
theorem tmod_m1 (n : Int) : n.tmod (-1) = 0 := by rw [Int.tmod_neg]; simp

set_option maxHeartbeats 1000000 in
theorem vdivide_quo (x y : Int) (hx : -9223372036854775808 ≤ x ∧ x ≤ 9223372036854775807) (hy : -9223372036854775808 ≤ y ∧ y ≤ 9223372036854775807) (w : World) :
    Calls Try.prog 41 #[.string ⟨#[47]⟩, .int .i64 x, .int .i64 y] w (Ret (Value.tuple #[.agg #[.int .i64 (opR 47 x y).1, .int .i64 (opR 47 x y).2.1, .string ⟨#[]⟩], .int .i64 (opR 47 x y).2.2]) w) := by
  by_cases y0 : y = 0
  · subst y0
    have hr : opR 47 x 0 = (0, 0, 0) := by simp [opR]
    have Hr := Lib.hid hr
    clear hr
    go_enter Try.func41, Try.ntmps41
    go_wp2_with (first | (go_at_call 16; refine (vNum _ _).mono ?_; rintro e w1 ⟨rfl, hb1⟩; obtain ⟨hc1, hf1⟩ := bcell hb1; have hz1 := hb1.size; (try simp at hz1); obtain ⟨hl1, hm1⟩ := bsz hb1; (try have hl1_0 : w.heap.size < w1.heap.size := by omega); (try have hm1_0 : w.heap.size ≤ w1.heap.size := by omega); (try have hl1_1 : w.heap.size + 1 < w1.heap.size := by omega); (try have hm1_1 : w.heap.size + 1 ≤ w1.heap.size := by omega); (try have hl1_2 : w.heap.size + 1 + 1 < w1.heap.size := by omega); (try have hm1_2 : w.heap.size + 1 + 1 ≤ w1.heap.size := by omega); (try have hl1_3 : w.heap.size + 1 + 1 + 1 < w1.heap.size := by omega); (try have hm1_3 : w.heap.size + 1 + 1 + 1 ≤ w1.heap.size := by omega)) | ((with_reducible refine region_draws ?_); go_quiet (fail)))
    refine bodyPost_ret (v := Value.tuple #[.agg #[.int .i64 ((0, 0, 0)).1, .int .i64 ((0, 0, 0)).2.1, .string ⟨#[]⟩], .int .i64 ((0, 0, 0)).2.2]) (by simp [results, Try.results41, go_sem, *]) rfl ⟨by rw [Hr.out], ?_⟩
    repeat (first | exact Below.refl _ _ | assumption | refine Below.drew ?_ | refine below_drewN ?_ _ | refine Below.setCell ?_ (by first | exact Nat.le_refl _ | omega | (simp; done) | (simp; omega)) _ | refine Below.alloc ?_ (by first | exact Nat.le_refl _ | omega | (simp; done) | (simp; omega)) _ | refine Below.trans ?_ (Below.mono (by assumption) (by first | exact Nat.le_refl _ | omega | (simp; done) | (simp; omega))))
  have t0 : (y == 0) = false := by simpa using y0
  by_cases y1 : y = -1
  · subst y1
    by_cases xm : x = -9223372036854775808
    · subst xm
      have hr : opR 47 (-9223372036854775808) (-1) = (0, 0, 9) := by simp [opR, ofFit, fit64]
      have Hr := Lib.hid hr
      clear hr
      go_enter Try.func41, Try.ntmps41
      go_wp2_with (first | (go_at_call 16; refine (vNum _ _).mono ?_; rintro e w1 ⟨rfl, hb1⟩; obtain ⟨hc1, hf1⟩ := bcell hb1; have hz1 := hb1.size; (try simp at hz1); obtain ⟨hl1, hm1⟩ := bsz hb1; (try have hl1_0 : w.heap.size < w1.heap.size := by omega); (try have hm1_0 : w.heap.size ≤ w1.heap.size := by omega); (try have hl1_1 : w.heap.size + 1 < w1.heap.size := by omega); (try have hm1_1 : w.heap.size + 1 ≤ w1.heap.size := by omega); (try have hl1_2 : w.heap.size + 1 + 1 < w1.heap.size := by omega); (try have hm1_2 : w.heap.size + 1 + 1 ≤ w1.heap.size := by omega); (try have hl1_3 : w.heap.size + 1 + 1 + 1 < w1.heap.size := by omega); (try have hm1_3 : w.heap.size + 1 + 1 + 1 ≤ w1.heap.size := by omega)) | (go_at_call 39; refine (vfits _ _ _).mono ?_; rintro e w1 ⟨rfl, hb1⟩; obtain ⟨hc1, hf1⟩ := bcell hb1; have hz1 := hb1.size; (try simp at hz1); obtain ⟨hl1, hm1⟩ := bsz hb1; (try have hl1_0 : w.heap.size < w1.heap.size := by omega); (try have hm1_0 : w.heap.size ≤ w1.heap.size := by omega); (try have hl1_1 : w.heap.size + 1 < w1.heap.size := by omega); (try have hm1_1 : w.heap.size + 1 ≤ w1.heap.size := by omega); (try have hl1_2 : w.heap.size + 1 + 1 < w1.heap.size := by omega); (try have hm1_2 : w.heap.size + 1 + 1 ≤ w1.heap.size := by omega); (try have hl1_3 : w.heap.size + 1 + 1 + 1 < w1.heap.size := by omega); (try have hm1_3 : w.heap.size + 1 + 1 + 1 ≤ w1.heap.size := by omega)) | ((with_reducible refine region_draws ?_); go_quiet (fail)))
      refine bodyPost_ret (v := Value.tuple #[.agg #[.int .i64 ((0, 0, 9)).1, .int .i64 ((0, 0, 9)).2.1, .string ⟨#[]⟩], .int .i64 ((0, 0, 9)).2.2]) (by simp [results, Try.results41, go_sem, *]) rfl ⟨by rw [Hr.out], ?_⟩
      repeat (first | exact Below.refl _ _ | assumption | refine Below.drew ?_ | refine below_drewN ?_ _ | refine Below.setCell ?_ (by first | exact Nat.le_refl _ | omega | (simp; done) | (simp; omega)) _ | refine Below.alloc ?_ (by first | exact Nat.le_refl _ | omega | (simp; done) | (simp; omega)) _ | refine Below.trans ?_ (Below.mono (by assumption) (by first | exact Nat.le_refl _ | omega | (simp; done) | (simp; omega))))
    have tm : (x != -9223372036854775808) = true := by simpa using xm
    have hf : fit64 (-x) = true := by rw [fit64_iff]; omega
    have hr : opR 47 x (-1) = (1, -x, 0) := by simp [opR, ofFit, hf]
    have Hr := Lib.hid hr
    clear hr hf
    go_enter Try.func41, Try.ntmps41
    go_wp2_with (first | (go_at_call 16; refine (vNum _ _).mono ?_; rintro e w1 ⟨rfl, hb1⟩; obtain ⟨hc1, hf1⟩ := bcell hb1; have hz1 := hb1.size; (try simp at hz1); obtain ⟨hl1, hm1⟩ := bsz hb1; (try have hl1_0 : w.heap.size < w1.heap.size := by omega); (try have hm1_0 : w.heap.size ≤ w1.heap.size := by omega); (try have hl1_1 : w.heap.size + 1 < w1.heap.size := by omega); (try have hm1_1 : w.heap.size + 1 ≤ w1.heap.size := by omega); (try have hl1_2 : w.heap.size + 1 + 1 < w1.heap.size := by omega); (try have hm1_2 : w.heap.size + 1 + 1 ≤ w1.heap.size := by omega); (try have hl1_3 : w.heap.size + 1 + 1 + 1 < w1.heap.size := by omega); (try have hm1_3 : w.heap.size + 1 + 1 + 1 ≤ w1.heap.size := by omega)) | (go_at_call 39; refine (vfits _ _ _).mono ?_; rintro e w1 ⟨rfl, hb1⟩; obtain ⟨hc1, hf1⟩ := bcell hb1; have hz1 := hb1.size; (try simp at hz1); obtain ⟨hl1, hm1⟩ := bsz hb1; (try have hl1_0 : w.heap.size < w1.heap.size := by omega); (try have hm1_0 : w.heap.size ≤ w1.heap.size := by omega); (try have hl1_1 : w.heap.size + 1 < w1.heap.size := by omega); (try have hm1_1 : w.heap.size + 1 ≤ w1.heap.size := by omega); (try have hl1_2 : w.heap.size + 1 + 1 < w1.heap.size := by omega); (try have hm1_2 : w.heap.size + 1 + 1 ≤ w1.heap.size := by omega); (try have hl1_3 : w.heap.size + 1 + 1 + 1 < w1.heap.size := by omega); (try have hm1_3 : w.heap.size + 1 + 1 + 1 ≤ w1.heap.size := by omega)) | ((with_reducible refine region_draws ?_); go_quiet (fail)))
    refine bodyPost_ret (v := Value.tuple #[.agg #[.int .i64 ((1, -x, 0)).1, .int .i64 ((1, -x, 0)).2.1, .string ⟨#[]⟩], .int .i64 ((1, -x, 0)).2.2]) (by simp [results, Try.results41, go_sem, *]) rfl ⟨by rw [Hr.out], ?_⟩
    repeat (first | exact Below.refl _ _ | assumption | refine Below.drew ?_ | refine below_drewN ?_ _ | refine Below.setCell ?_ (by first | exact Nat.le_refl _ | omega | (simp; done) | (simp; omega)) _ | refine Below.alloc ?_ (by first | exact Nat.le_refl _ | omega | (simp; done) | (simp; omega)) _ | refine Below.trans ?_ (Below.mono (by assumption) (by first | exact Nat.le_refl _ | omega | (simp; done) | (simp; omega))))
  have t1 : (y != -1) = true := by simpa using y1
  have ht := tdiv_small x y hx y1
  have hf : fit64 (x.tdiv y) = true := (fit64_iff _).2 ht
  have hr : opR 47 x y = (1, x.tdiv y, 0) := by simp [opR, ofFit, hf, y0]
  have Hr := Lib.hid hr
  have Hw := Lib.hid (wrap64_fit _ ht)
  clear hr hf ht
  go_enter Try.func41, Try.ntmps41
  go_wp2_with (first | (go_at_call 16; refine (vNum _ _).mono ?_; rintro e w1 ⟨rfl, hb1⟩; obtain ⟨hc1, hf1⟩ := bcell hb1; have hz1 := hb1.size; (try simp at hz1); obtain ⟨hl1, hm1⟩ := bsz hb1; (try have hl1_0 : w.heap.size < w1.heap.size := by omega); (try have hm1_0 : w.heap.size ≤ w1.heap.size := by omega); (try have hl1_1 : w.heap.size + 1 < w1.heap.size := by omega); (try have hm1_1 : w.heap.size + 1 ≤ w1.heap.size := by omega); (try have hl1_2 : w.heap.size + 1 + 1 < w1.heap.size := by omega); (try have hm1_2 : w.heap.size + 1 + 1 ≤ w1.heap.size := by omega); (try have hl1_3 : w.heap.size + 1 + 1 + 1 < w1.heap.size := by omega); (try have hm1_3 : w.heap.size + 1 + 1 + 1 ≤ w1.heap.size := by omega)) | (go_at_call 39; refine (vfits _ _ _).mono ?_; rintro e w1 ⟨rfl, hb1⟩; obtain ⟨hc1, hf1⟩ := bcell hb1; have hz1 := hb1.size; (try simp at hz1); obtain ⟨hl1, hm1⟩ := bsz hb1; (try have hl1_0 : w.heap.size < w1.heap.size := by omega); (try have hm1_0 : w.heap.size ≤ w1.heap.size := by omega); (try have hl1_1 : w.heap.size + 1 < w1.heap.size := by omega); (try have hm1_1 : w.heap.size + 1 ≤ w1.heap.size := by omega); (try have hl1_2 : w.heap.size + 1 + 1 < w1.heap.size := by omega); (try have hm1_2 : w.heap.size + 1 + 1 ≤ w1.heap.size := by omega); (try have hl1_3 : w.heap.size + 1 + 1 + 1 < w1.heap.size := by omega); (try have hm1_3 : w.heap.size + 1 + 1 + 1 ≤ w1.heap.size := by omega)) | ((with_reducible refine region_draws ?_); go_quiet (fail)))
  all_goals
    refine bodyPost_ret (v := Value.tuple #[.agg #[.int .i64 ((1, wrap64 (x.tdiv y), 0)).1, .int .i64 ((1, wrap64 (x.tdiv y), 0)).2.1, .string ⟨#[]⟩], .int .i64 ((1, wrap64 (x.tdiv y), 0)).2.2]) (by simp [results, Try.results41, go_sem, *]) rfl ⟨by rw [Hr.out, Hw.out], ?_⟩
    repeat (first | exact Below.refl _ _ | assumption | refine Below.drew ?_ | refine below_drewN ?_ _ | refine Below.setCell ?_ (by first | exact Nat.le_refl _ | omega | (simp; done) | (simp; omega)) _ | refine Below.alloc ?_ (by first | exact Nat.le_refl _ | omega | (simp; done) | (simp; omega)) _ | refine Below.trans ?_ (Below.mono (by assumption) (by first | exact Nat.le_refl _ | omega | (simp; done) | (simp; omega))))

set_option maxHeartbeats 1000000 in
theorem vdivide_rem (x y : Int) (_hx : -9223372036854775808 ≤ x ∧ x ≤ 9223372036854775807) (hy : -9223372036854775808 ≤ y ∧ y ≤ 9223372036854775807) (w : World) :
    Calls Try.prog 41 #[.string ⟨#[37]⟩, .int .i64 x, .int .i64 y] w (Ret (Value.tuple #[.agg #[.int .i64 (opR 37 x y).1, .int .i64 (opR 37 x y).2.1, .string ⟨#[]⟩], .int .i64 (opR 37 x y).2.2]) w) := by
  by_cases y0 : y = 0
  · subst y0
    have hr : opR 37 x 0 = (0, 0, 0) := by simp [opR]
    have Hr := Lib.hid hr
    clear hr
    go_enter Try.func41, Try.ntmps41
    go_wp2_with (first | (go_at_call 16; refine (vNum _ _).mono ?_; rintro e w1 ⟨rfl, hb1⟩; obtain ⟨hc1, hf1⟩ := bcell hb1; have hz1 := hb1.size; (try simp at hz1); obtain ⟨hl1, hm1⟩ := bsz hb1; (try have hl1_0 : w.heap.size < w1.heap.size := by omega); (try have hm1_0 : w.heap.size ≤ w1.heap.size := by omega); (try have hl1_1 : w.heap.size + 1 < w1.heap.size := by omega); (try have hm1_1 : w.heap.size + 1 ≤ w1.heap.size := by omega); (try have hl1_2 : w.heap.size + 1 + 1 < w1.heap.size := by omega); (try have hm1_2 : w.heap.size + 1 + 1 ≤ w1.heap.size := by omega); (try have hl1_3 : w.heap.size + 1 + 1 + 1 < w1.heap.size := by omega); (try have hm1_3 : w.heap.size + 1 + 1 + 1 ≤ w1.heap.size := by omega)) | ((with_reducible refine region_draws ?_); go_quiet (fail)))
    refine bodyPost_ret (v := Value.tuple #[.agg #[.int .i64 ((0, 0, 0)).1, .int .i64 ((0, 0, 0)).2.1, .string ⟨#[]⟩], .int .i64 ((0, 0, 0)).2.2]) (by simp [results, Try.results41, go_sem, *]) rfl ⟨by rw [Hr.out], ?_⟩
    repeat (first | exact Below.refl _ _ | assumption | refine Below.drew ?_ | refine below_drewN ?_ _ | refine Below.setCell ?_ (by first | exact Nat.le_refl _ | omega | (simp; done) | (simp; omega)) _ | refine Below.alloc ?_ (by first | exact Nat.le_refl _ | omega | (simp; done) | (simp; omega)) _ | refine Below.trans ?_ (Below.mono (by assumption) (by first | exact Nat.le_refl _ | omega | (simp; done) | (simp; omega))))
  have t0 : (y == 0) = false := by simpa using y0
  by_cases y1 : y = -1
  · subst y1
    have hr : opR 37 x (-1) = (1, 0, 0) := by simp [opR]
    have Hr := Lib.hid hr
    clear hr
    go_enter Try.func41, Try.ntmps41
    go_wp2_with (first | (go_at_call 16; refine (vNum _ _).mono ?_; rintro e w1 ⟨rfl, hb1⟩; obtain ⟨hc1, hf1⟩ := bcell hb1; have hz1 := hb1.size; (try simp at hz1); obtain ⟨hl1, hm1⟩ := bsz hb1; (try have hl1_0 : w.heap.size < w1.heap.size := by omega); (try have hm1_0 : w.heap.size ≤ w1.heap.size := by omega); (try have hl1_1 : w.heap.size + 1 < w1.heap.size := by omega); (try have hm1_1 : w.heap.size + 1 ≤ w1.heap.size := by omega); (try have hl1_2 : w.heap.size + 1 + 1 < w1.heap.size := by omega); (try have hm1_2 : w.heap.size + 1 + 1 ≤ w1.heap.size := by omega); (try have hl1_3 : w.heap.size + 1 + 1 + 1 < w1.heap.size := by omega); (try have hm1_3 : w.heap.size + 1 + 1 + 1 ≤ w1.heap.size := by omega)) | ((with_reducible refine region_draws ?_); go_quiet (fail)))
    refine bodyPost_ret (v := Value.tuple #[.agg #[.int .i64 ((1, 0, 0)).1, .int .i64 ((1, 0, 0)).2.1, .string ⟨#[]⟩], .int .i64 ((1, 0, 0)).2.2]) (by simp [results, Try.results41, go_sem, *]) rfl ⟨by rw [Hr.out], ?_⟩
    repeat (first | exact Below.refl _ _ | assumption | refine Below.drew ?_ | refine below_drewN ?_ _ | refine Below.setCell ?_ (by first | exact Nat.le_refl _ | omega | (simp; done) | (simp; omega)) _ | refine Below.alloc ?_ (by first | exact Nat.le_refl _ | omega | (simp; done) | (simp; omega)) _ | refine Below.trans ?_ (Below.mono (by assumption) (by first | exact Nat.le_refl _ | omega | (simp; done) | (simp; omega))))
  have t1 : (y == -1) = false := by simpa using y1
  have hr : opR 37 x y = (1, x.tmod y, 0) := by simp [opR, y0]
  have Hr := Lib.hid hr
  clear hr
  go_enter Try.func41, Try.ntmps41
  go_wp2_with (first | (go_at_call 16; refine (vNum _ _).mono ?_; rintro e w1 ⟨rfl, hb1⟩; obtain ⟨hc1, hf1⟩ := bcell hb1; have hz1 := hb1.size; (try simp at hz1); obtain ⟨hl1, hm1⟩ := bsz hb1; (try have hl1_0 : w.heap.size < w1.heap.size := by omega); (try have hm1_0 : w.heap.size ≤ w1.heap.size := by omega); (try have hl1_1 : w.heap.size + 1 < w1.heap.size := by omega); (try have hm1_1 : w.heap.size + 1 ≤ w1.heap.size := by omega); (try have hl1_2 : w.heap.size + 1 + 1 < w1.heap.size := by omega); (try have hm1_2 : w.heap.size + 1 + 1 ≤ w1.heap.size := by omega); (try have hl1_3 : w.heap.size + 1 + 1 + 1 < w1.heap.size := by omega); (try have hm1_3 : w.heap.size + 1 + 1 + 1 ≤ w1.heap.size := by omega)) | ((with_reducible refine region_draws ?_); go_quiet (fail)))
  refine bodyPost_ret (v := Value.tuple #[.agg #[.int .i64 ((1, x.tmod y, 0)).1, .int .i64 ((1, x.tmod y, 0)).2.1, .string ⟨#[]⟩], .int .i64 ((1, x.tmod y, 0)).2.2]) (by simp [results, Try.results41, go_sem, *]) rfl ⟨by rw [Hr.out], ?_⟩
  repeat (first | exact Below.refl _ _ | assumption | refine Below.drew ?_ | refine below_drewN ?_ _ | refine Below.setCell ?_ (by first | exact Nat.le_refl _ | omega | (simp; done) | (simp; omega)) _ | refine Below.alloc ?_ (by first | exact Nat.le_refl _ | omega | (simp; done) | (simp; omega)) _ | refine Below.trans ?_ (Below.mono (by assumption) (by first | exact Nat.le_refl _ | omega | (simp; done) | (simp; omega))))
end Go.Proofs.Ytbgndledcnfceaa
