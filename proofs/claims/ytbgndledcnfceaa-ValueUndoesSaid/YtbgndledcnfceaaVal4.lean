/- What value.Arith and the document's Arith compute, third part: the quotient, the remainder, the errors; all together. No condition. -/
import Derived.Test.YtbgndledcnfceaaVal3
namespace Go.Proofs.Ytbgndledcnfceaa
open Go.ChangeShapes Go.WideShapes Go.ChangeAt Go.RowKit

theorem vArith_quo (x y : Int) (sx sy : ByteArray) (hx : -9223372036854775808 ≤ x ∧ x ≤ 9223372036854775807) (hy : -9223372036854775808 ≤ y ∧ y ≤ 9223372036854775807) (w : World) :
    Calls Try.prog 24 #[.string ⟨#[47]⟩, Value.agg #[.int .i64 (1), .int .i64 (x), .string (sx)], Value.agg #[.int .i64 (1), .int .i64 (y), .string (sy)]] w (Ret (Value.tuple #[.agg #[.int .i64 (opR 47 x y).1, .int .i64 (opR 47 x y).2.1, .string ⟨#[]⟩], .int .i64 (opR 47 x y).2.2]) w) := by
  go_enter Try.func24, Try.ntmps24
  go_wp2_with (first | (go_at_call 38; refine (Try.strings_Contains_one _ _ _).mono ?_; rintro e w' ⟨rfl, rfl⟩) | (go_at_call 41; refine (vdivide_quo _ _ hx hy _).mono ?_; rintro e w1 ⟨rfl, hb1⟩; obtain ⟨hc1, hf1⟩ := bcell hb1; have hz1 := hb1.size; (try simp at hz1); obtain ⟨hl1, hm1⟩ := bsz hb1; (try have hl1_0 : w.heap.size < w1.heap.size := by omega); (try have hm1_0 : w.heap.size ≤ w1.heap.size := by omega); (try have hl1_1 : w.heap.size + 1 < w1.heap.size := by omega); (try have hm1_1 : w.heap.size + 1 ≤ w1.heap.size := by omega); (try have hl1_2 : w.heap.size + 1 + 1 < w1.heap.size := by omega); (try have hm1_2 : w.heap.size + 1 + 1 ≤ w1.heap.size := by omega); (try have hl1_3 : w.heap.size + 1 + 1 + 1 < w1.heap.size := by omega); (try have hm1_3 : w.heap.size + 1 + 1 + 1 ≤ w1.heap.size := by omega)) | ((with_reducible refine region_draws ?_); go_quiet (fail)))
  refine bodyPost_ret (v := Value.tuple #[.agg #[.int .i64 (opR 47 x y).1, .int .i64 (opR 47 x y).2.1, .string ⟨#[]⟩], .int .i64 (opR 47 x y).2.2]) (by simp [results, Try.results24, go_sem, *]) rfl ⟨rfl, ?_⟩
  repeat (first | exact Below.refl _ _ | assumption | refine Below.drew ?_ | refine below_drewN ?_ _ | refine Below.setCell ?_ (by first | exact Nat.le_refl _ | omega | (simp; done) | (simp; omega)) _ | refine Below.alloc ?_ (by first | exact Nat.le_refl _ | omega | (simp; done) | (simp; omega)) _ | refine Below.trans ?_ (Below.mono (by assumption) (by first | exact Nat.le_refl _ | omega | (simp; done) | (simp; omega))))

theorem vArith_rem (x y : Int) (sx sy : ByteArray) (hx : -9223372036854775808 ≤ x ∧ x ≤ 9223372036854775807) (hy : -9223372036854775808 ≤ y ∧ y ≤ 9223372036854775807) (w : World) :
    Calls Try.prog 24 #[.string ⟨#[37]⟩, Value.agg #[.int .i64 (1), .int .i64 (x), .string (sx)], Value.agg #[.int .i64 (1), .int .i64 (y), .string (sy)]] w (Ret (Value.tuple #[.agg #[.int .i64 (opR 37 x y).1, .int .i64 (opR 37 x y).2.1, .string ⟨#[]⟩], .int .i64 (opR 37 x y).2.2]) w) := by
  go_enter Try.func24, Try.ntmps24
  go_wp2_with (first | (go_at_call 38; refine (Try.strings_Contains_one _ _ _).mono ?_; rintro e w' ⟨rfl, rfl⟩) | (go_at_call 41; refine (vdivide_rem _ _ hx hy _).mono ?_; rintro e w1 ⟨rfl, hb1⟩; obtain ⟨hc1, hf1⟩ := bcell hb1; have hz1 := hb1.size; (try simp at hz1); obtain ⟨hl1, hm1⟩ := bsz hb1; (try have hl1_0 : w.heap.size < w1.heap.size := by omega); (try have hm1_0 : w.heap.size ≤ w1.heap.size := by omega); (try have hl1_1 : w.heap.size + 1 < w1.heap.size := by omega); (try have hm1_1 : w.heap.size + 1 ≤ w1.heap.size := by omega); (try have hl1_2 : w.heap.size + 1 + 1 < w1.heap.size := by omega); (try have hm1_2 : w.heap.size + 1 + 1 ≤ w1.heap.size := by omega); (try have hl1_3 : w.heap.size + 1 + 1 + 1 < w1.heap.size := by omega); (try have hm1_3 : w.heap.size + 1 + 1 + 1 ≤ w1.heap.size := by omega)) | ((with_reducible refine region_draws ?_); go_quiet (fail)))
  refine bodyPost_ret (v := Value.tuple #[.agg #[.int .i64 (opR 37 x y).1, .int .i64 (opR 37 x y).2.1, .string ⟨#[]⟩], .int .i64 (opR 37 x y).2.2]) (by simp [results, Try.results24, go_sem, *]) rfl ⟨rfl, ?_⟩
  repeat (first | exact Below.refl _ _ | assumption | refine Below.drew ?_ | refine below_drewN ?_ _ | refine Below.setCell ?_ (by first | exact Nat.le_refl _ | omega | (simp; done) | (simp; omega)) _ | refine Below.alloc ?_ (by first | exact Nat.le_refl _ | omega | (simp; done) | (simp; omega)) _ | refine Below.trans ?_ (Below.mono (by assumption) (by first | exact Nat.le_refl _ | omega | (simp; done) | (simp; omega))))

set_option maxHeartbeats 1000000 in
theorem rArith_quo (x y : Int) (sx sy : ByteArray) (hx : -9223372036854775808 ≤ x ∧ x ≤ 9223372036854775807) (hy : -9223372036854775808 ≤ y ∧ y ≤ 9223372036854775807) (w : World) :
    Calls Try.prog 25 #[.string ⟨#[47]⟩, Value.agg #[.int .i64 (1), .int .i64 (x), .string (sx)], Value.agg #[.int .i64 (1), .int .i64 (y), .string (sy)]] w (Ret (Value.tuple #[.agg #[.int .i64 (opR 47 x y).1, .int .i64 (opR 47 x y).2.1, .string ⟨#[]⟩], .int .i64 (opR 47 x y).2.2]) w) := by
  by_cases y0 : y = 0
  · subst y0
    have hr : opR 47 x 0 = (0, 0, 0) := by simp [opR]
    have Hr := Lib.hid hr
    clear hr
    go_enter Try.func25, Try.ntmps25
    go_wp2_with (first | (go_at_call 17; refine (rNum _ _).mono ?_; rintro e w1 ⟨rfl, hb1⟩; obtain ⟨hc1, hf1⟩ := bcell hb1; have hz1 := hb1.size; (try simp at hz1); obtain ⟨hl1, hm1⟩ := bsz hb1; (try have hl1_0 : w.heap.size < w1.heap.size := by omega); (try have hm1_0 : w.heap.size ≤ w1.heap.size := by omega); (try have hl1_1 : w.heap.size + 1 < w1.heap.size := by omega); (try have hm1_1 : w.heap.size + 1 ≤ w1.heap.size := by omega); (try have hl1_2 : w.heap.size + 1 + 1 < w1.heap.size := by omega); (try have hm1_2 : w.heap.size + 1 + 1 ≤ w1.heap.size := by omega); (try have hl1_3 : w.heap.size + 1 + 1 + 1 < w1.heap.size := by omega); (try have hm1_3 : w.heap.size + 1 + 1 + 1 ≤ w1.heap.size := by omega)) | ((with_reducible refine region_draws ?_); go_quiet (fail)))
    refine bodyPost_ret (v := Value.tuple #[.agg #[.int .i64 ((0, 0, 0)).1, .int .i64 ((0, 0, 0)).2.1, .string ⟨#[]⟩], .int .i64 ((0, 0, 0)).2.2]) (by simp [results, Try.results25, go_sem, *]) rfl ⟨by rw [Hr.out], ?_⟩
    repeat (first | exact Below.refl _ _ | assumption | refine Below.drew ?_ | refine below_drewN ?_ _ | refine Below.setCell ?_ (by first | exact Nat.le_refl _ | omega | (simp; done) | (simp; omega)) _ | refine Below.alloc ?_ (by first | exact Nat.le_refl _ | omega | (simp; done) | (simp; omega)) _ | refine Below.trans ?_ (Below.mono (by assumption) (by first | exact Nat.le_refl _ | omega | (simp; done) | (simp; omega))))
  have t0 : (y == 0) = false := by simpa using y0
  by_cases y1 : y = -1
  · subst y1
    by_cases xm : x = -9223372036854775808
    · subst xm
      have hr : opR 47 (-9223372036854775808) (-1) = (0, 0, 9) := by simp [opR, ofFit, fit64]
      have Hr := Lib.hid hr
      clear hr
      go_enter Try.func25, Try.ntmps25
      go_wp2_with (first | (go_at_call 17; refine (rNum _ _).mono ?_; rintro e w1 ⟨rfl, hb1⟩; obtain ⟨hc1, hf1⟩ := bcell hb1; have hz1 := hb1.size; (try simp at hz1); obtain ⟨hl1, hm1⟩ := bsz hb1; (try have hl1_0 : w.heap.size < w1.heap.size := by omega); (try have hm1_0 : w.heap.size ≤ w1.heap.size := by omega); (try have hl1_1 : w.heap.size + 1 < w1.heap.size := by omega); (try have hm1_1 : w.heap.size + 1 ≤ w1.heap.size := by omega); (try have hl1_2 : w.heap.size + 1 + 1 < w1.heap.size := by omega); (try have hm1_2 : w.heap.size + 1 + 1 ≤ w1.heap.size := by omega); (try have hl1_3 : w.heap.size + 1 + 1 + 1 < w1.heap.size := by omega); (try have hm1_3 : w.heap.size + 1 + 1 + 1 ≤ w1.heap.size := by omega)) | ((with_reducible refine region_draws ?_); go_quiet (fail)))
      refine bodyPost_ret (v := Value.tuple #[.agg #[.int .i64 ((0, 0, 9)).1, .int .i64 ((0, 0, 9)).2.1, .string ⟨#[]⟩], .int .i64 ((0, 0, 9)).2.2]) (by simp [results, Try.results25, go_sem, *]) rfl ⟨by rw [Hr.out], ?_⟩
      repeat (first | exact Below.refl _ _ | assumption | refine Below.drew ?_ | refine below_drewN ?_ _ | refine Below.setCell ?_ (by first | exact Nat.le_refl _ | omega | (simp; done) | (simp; omega)) _ | refine Below.alloc ?_ (by first | exact Nat.le_refl _ | omega | (simp; done) | (simp; omega)) _ | refine Below.trans ?_ (Below.mono (by assumption) (by first | exact Nat.le_refl _ | omega | (simp; done) | (simp; omega))))
    have tm : (x != -9223372036854775808) = true := by simpa using xm
    have hf : fit64 (-x) = true := by rw [fit64_iff]; omega
    have hr : opR 47 x (-1) = (1, -x, 0) := by simp [opR, ofFit, hf]
    have Hr := Lib.hid hr
    clear hr hf
    go_enter Try.func25, Try.ntmps25
    go_wp2_with (first | (go_at_call 17; refine (rNum _ _).mono ?_; rintro e w1 ⟨rfl, hb1⟩; obtain ⟨hc1, hf1⟩ := bcell hb1; have hz1 := hb1.size; (try simp at hz1); obtain ⟨hl1, hm1⟩ := bsz hb1; (try have hl1_0 : w.heap.size < w1.heap.size := by omega); (try have hm1_0 : w.heap.size ≤ w1.heap.size := by omega); (try have hl1_1 : w.heap.size + 1 < w1.heap.size := by omega); (try have hm1_1 : w.heap.size + 1 ≤ w1.heap.size := by omega); (try have hl1_2 : w.heap.size + 1 + 1 < w1.heap.size := by omega); (try have hm1_2 : w.heap.size + 1 + 1 ≤ w1.heap.size := by omega); (try have hl1_3 : w.heap.size + 1 + 1 + 1 < w1.heap.size := by omega); (try have hm1_3 : w.heap.size + 1 + 1 + 1 ≤ w1.heap.size := by omega)) | ((with_reducible refine region_draws ?_); go_quiet (fail)))
    refine bodyPost_ret (v := Value.tuple #[.agg #[.int .i64 ((1, -x, 0)).1, .int .i64 ((1, -x, 0)).2.1, .string ⟨#[]⟩], .int .i64 ((1, -x, 0)).2.2]) (by simp [results, Try.results25, go_sem, *]) rfl ⟨by rw [Hr.out], ?_⟩
    repeat (first | exact Below.refl _ _ | assumption | refine Below.drew ?_ | refine below_drewN ?_ _ | refine Below.setCell ?_ (by first | exact Nat.le_refl _ | omega | (simp; done) | (simp; omega)) _ | refine Below.alloc ?_ (by first | exact Nat.le_refl _ | omega | (simp; done) | (simp; omega)) _ | refine Below.trans ?_ (Below.mono (by assumption) (by first | exact Nat.le_refl _ | omega | (simp; done) | (simp; omega))))
  have t1 : (y != -1) = true := by simpa using y1
  have ht := tdiv_small x y hx y1
  have hf : fit64 (x.tdiv y) = true := (fit64_iff _).2 ht
  have hr : opR 47 x y = (1, x.tdiv y, 0) := by simp [opR, ofFit, hf, y0]
  have Hr := Lib.hid hr
  have Hw := Lib.hid (wrap64_fit _ ht)
  clear hr hf ht
  go_enter Try.func25, Try.ntmps25
  go_wp2_with (first | (go_at_call 17; refine (rNum _ _).mono ?_; rintro e w1 ⟨rfl, hb1⟩; obtain ⟨hc1, hf1⟩ := bcell hb1; have hz1 := hb1.size; (try simp at hz1); obtain ⟨hl1, hm1⟩ := bsz hb1; (try have hl1_0 : w.heap.size < w1.heap.size := by omega); (try have hm1_0 : w.heap.size ≤ w1.heap.size := by omega); (try have hl1_1 : w.heap.size + 1 < w1.heap.size := by omega); (try have hm1_1 : w.heap.size + 1 ≤ w1.heap.size := by omega); (try have hl1_2 : w.heap.size + 1 + 1 < w1.heap.size := by omega); (try have hm1_2 : w.heap.size + 1 + 1 ≤ w1.heap.size := by omega); (try have hl1_3 : w.heap.size + 1 + 1 + 1 < w1.heap.size := by omega); (try have hm1_3 : w.heap.size + 1 + 1 + 1 ≤ w1.heap.size := by omega)) | ((with_reducible refine region_draws ?_); go_quiet (fail)))
  all_goals
    refine bodyPost_ret (v := Value.tuple #[.agg #[.int .i64 ((1, wrap64 (x.tdiv y), 0)).1, .int .i64 ((1, wrap64 (x.tdiv y), 0)).2.1, .string ⟨#[]⟩], .int .i64 ((1, wrap64 (x.tdiv y), 0)).2.2]) (by simp [results, Try.results25, go_sem, *]) rfl ⟨by rw [Hr.out, Hw.out], ?_⟩
    repeat (first | exact Below.refl _ _ | assumption | refine Below.drew ?_ | refine below_drewN ?_ _ | refine Below.setCell ?_ (by first | exact Nat.le_refl _ | omega | (simp; done) | (simp; omega)) _ | refine Below.alloc ?_ (by first | exact Nat.le_refl _ | omega | (simp; done) | (simp; omega)) _ | refine Below.trans ?_ (Below.mono (by assumption) (by first | exact Nat.le_refl _ | omega | (simp; done) | (simp; omega))))

set_option maxHeartbeats 1000000 in
theorem rArith_rem (x y : Int) (sx sy : ByteArray) (hy : -9223372036854775808 ≤ y ∧ y ≤ 9223372036854775807) (w : World) :
    Calls Try.prog 25 #[.string ⟨#[37]⟩, Value.agg #[.int .i64 (1), .int .i64 (x), .string (sx)], Value.agg #[.int .i64 (1), .int .i64 (y), .string (sy)]] w (Ret (Value.tuple #[.agg #[.int .i64 (opR 37 x y).1, .int .i64 (opR 37 x y).2.1, .string ⟨#[]⟩], .int .i64 (opR 37 x y).2.2]) w) := by
  by_cases y0 : y = 0
  · subst y0
    have hr : opR 37 x 0 = (0, 0, 0) := by simp [opR]
    have Hr := Lib.hid hr
    clear hr
    go_enter Try.func25, Try.ntmps25
    go_wp2_with (first | (go_at_call 17; refine (rNum _ _).mono ?_; rintro e w1 ⟨rfl, hb1⟩; obtain ⟨hc1, hf1⟩ := bcell hb1; have hz1 := hb1.size; (try simp at hz1); obtain ⟨hl1, hm1⟩ := bsz hb1; (try have hl1_0 : w.heap.size < w1.heap.size := by omega); (try have hm1_0 : w.heap.size ≤ w1.heap.size := by omega); (try have hl1_1 : w.heap.size + 1 < w1.heap.size := by omega); (try have hm1_1 : w.heap.size + 1 ≤ w1.heap.size := by omega); (try have hl1_2 : w.heap.size + 1 + 1 < w1.heap.size := by omega); (try have hm1_2 : w.heap.size + 1 + 1 ≤ w1.heap.size := by omega); (try have hl1_3 : w.heap.size + 1 + 1 + 1 < w1.heap.size := by omega); (try have hm1_3 : w.heap.size + 1 + 1 + 1 ≤ w1.heap.size := by omega)) | ((with_reducible refine region_draws ?_); go_quiet (fail)))
    refine bodyPost_ret (v := Value.tuple #[.agg #[.int .i64 ((0, 0, 0)).1, .int .i64 ((0, 0, 0)).2.1, .string ⟨#[]⟩], .int .i64 ((0, 0, 0)).2.2]) (by simp [results, Try.results25, go_sem, *]) rfl ⟨by rw [Hr.out], ?_⟩
    repeat (first | exact Below.refl _ _ | assumption | refine Below.drew ?_ | refine below_drewN ?_ _ | refine Below.setCell ?_ (by first | exact Nat.le_refl _ | omega | (simp; done) | (simp; omega)) _ | refine Below.alloc ?_ (by first | exact Nat.le_refl _ | omega | (simp; done) | (simp; omega)) _ | refine Below.trans ?_ (Below.mono (by assumption) (by first | exact Nat.le_refl _ | omega | (simp; done) | (simp; omega))))
  have t0 : (y == 0) = false := by simpa using y0
  by_cases y1 : y = -1
  · subst y1
    have hr : opR 37 x (-1) = (1, 0, 0) := by simp [opR]
    have Hr := Lib.hid hr
    clear hr
    go_enter Try.func25, Try.ntmps25
    go_wp2_with (first | (go_at_call 17; refine (rNum _ _).mono ?_; rintro e w1 ⟨rfl, hb1⟩; obtain ⟨hc1, hf1⟩ := bcell hb1; have hz1 := hb1.size; (try simp at hz1); obtain ⟨hl1, hm1⟩ := bsz hb1; (try have hl1_0 : w.heap.size < w1.heap.size := by omega); (try have hm1_0 : w.heap.size ≤ w1.heap.size := by omega); (try have hl1_1 : w.heap.size + 1 < w1.heap.size := by omega); (try have hm1_1 : w.heap.size + 1 ≤ w1.heap.size := by omega); (try have hl1_2 : w.heap.size + 1 + 1 < w1.heap.size := by omega); (try have hm1_2 : w.heap.size + 1 + 1 ≤ w1.heap.size := by omega); (try have hl1_3 : w.heap.size + 1 + 1 + 1 < w1.heap.size := by omega); (try have hm1_3 : w.heap.size + 1 + 1 + 1 ≤ w1.heap.size := by omega)) | ((with_reducible refine region_draws ?_); go_quiet (fail)))
    refine bodyPost_ret (v := Value.tuple #[.agg #[.int .i64 ((1, 0, 0)).1, .int .i64 ((1, 0, 0)).2.1, .string ⟨#[]⟩], .int .i64 ((1, 0, 0)).2.2]) (by simp [results, Try.results25, go_sem, *]) rfl ⟨by rw [Hr.out], ?_⟩
    repeat (first | exact Below.refl _ _ | assumption | refine Below.drew ?_ | refine below_drewN ?_ _ | refine Below.setCell ?_ (by first | exact Nat.le_refl _ | omega | (simp; done) | (simp; omega)) _ | refine Below.alloc ?_ (by first | exact Nat.le_refl _ | omega | (simp; done) | (simp; omega)) _ | refine Below.trans ?_ (Below.mono (by assumption) (by first | exact Nat.le_refl _ | omega | (simp; done) | (simp; omega))))
  have t1 : (y == -1) = false := by simpa using y1
  have hr : opR 37 x y = (1, x.tmod y, 0) := by simp [opR, y0]
  have Hr := Lib.hid hr
  clear hr
  go_enter Try.func25, Try.ntmps25
  go_wp2_with (first | (go_at_call 17; refine (rNum _ _).mono ?_; rintro e w1 ⟨rfl, hb1⟩; obtain ⟨hc1, hf1⟩ := bcell hb1; have hz1 := hb1.size; (try simp at hz1); obtain ⟨hl1, hm1⟩ := bsz hb1; (try have hl1_0 : w.heap.size < w1.heap.size := by omega); (try have hm1_0 : w.heap.size ≤ w1.heap.size := by omega); (try have hl1_1 : w.heap.size + 1 < w1.heap.size := by omega); (try have hm1_1 : w.heap.size + 1 ≤ w1.heap.size := by omega); (try have hl1_2 : w.heap.size + 1 + 1 < w1.heap.size := by omega); (try have hm1_2 : w.heap.size + 1 + 1 ≤ w1.heap.size := by omega); (try have hl1_3 : w.heap.size + 1 + 1 + 1 < w1.heap.size := by omega); (try have hm1_3 : w.heap.size + 1 + 1 + 1 ≤ w1.heap.size := by omega)) | ((with_reducible refine region_draws ?_); go_quiet (fail)))
  refine bodyPost_ret (v := Value.tuple #[.agg #[.int .i64 ((1, x.tmod y, 0)).1, .int .i64 ((1, x.tmod y, 0)).2.1, .string ⟨#[]⟩], .int .i64 ((1, x.tmod y, 0)).2.2]) (by simp [results, Try.results25, go_sem, *]) rfl ⟨by rw [Hr.out], ?_⟩
  repeat (first | exact Below.refl _ _ | assumption | refine Below.drew ?_ | refine below_drewN ?_ _ | refine Below.setCell ?_ (by first | exact Nat.le_refl _ | omega | (simp; done) | (simp; omega)) _ | refine Below.alloc ?_ (by first | exact Nat.le_refl _ | omega | (simp; done) | (simp; omega)) _ | refine Below.trans ?_ (Below.mono (by assumption) (by first | exact Nat.le_refl _ | omega | (simp; done) | (simp; omega))))

/-- the operators -/
def opOk (op : ByteArray) : Bool := op.data.toList == [43] || op.data.toList == [45] || op.data.toList == [42] || op.data.toList == [47] || op.data.toList == [37]
def arithR (op : ByteArray) (ka x kb y : Int) : Int × Int × Int :=
  if opOk op = false then (0, 0, 1) else if ka = 0 ∨ kb = 0 then (0, 0, 0) else if ka ≠ 1 ∨ kb ≠ 1 then (0, 0, 11) else opR (op.data.getD 0 0).toNat x y
end Go.Proofs.Ytbgndledcnfceaa
