/- What value.Arith and the document's Arith compute: one contract for each operator. No condition. -/
import Derived.Test.YtbgndledcnfceaaVal1
import Derived.Test.YtbgndledcnfceaaShelf
namespace Go.Proofs.Ytbgndledcnfceaa
open Go.ChangeShapes Go.WideShapes Go.ChangeAt Go.RowKit

def ofFit (s : Int) : Int × Int × Int := if fit64 s then (1, s, 0) else (0, 0, 9)
def opR (c : Nat) (x y : Int) : Int × Int × Int :=
  if c = 43 then ofFit (x + y) else if c = 45 then ofFit (x - y) else if c = 42 then ofFit (x * y)
  else if y = 0 then (0, 0, 0) else if c = 47 then ofFit (x.tdiv y) else (1, x.tmod y, 0)

theorem ge_up (x y : Int) (hx : -9223372036854775808 ≤ x ∧ x ≤ 9223372036854775807) (hy : -9223372036854775808 ≤ y ∧ y ≤ 9223372036854775807) :
    (decide (0 ≤ y) == decide (x ≤ wrap64 (x + y))) = fit64 (x + y) := by
  apply bool_eq
  simp only [beq_iff_eq, fit64_iff, decide_eq_decide]
  unfold wrap64
  omega
theorem le_up (x y : Int) (hx : -9223372036854775808 ≤ x ∧ x ≤ 9223372036854775807) (hy : -9223372036854775808 ≤ y ∧ y ≤ 9223372036854775807) :
    (decide (0 ≤ y) == decide (wrap64 (x - y) ≤ x)) = fit64 (x - y) := by
  apply bool_eq
  simp only [beq_iff_eq, fit64_iff, decide_eq_decide]
  unfold wrap64
  omega

theorem vArith_add (x y : Int) (sx sy : ByteArray) (hx : -9223372036854775808 ≤ x ∧ x ≤ 9223372036854775807) (hy : -9223372036854775808 ≤ y ∧ y ≤ 9223372036854775807) (w : World) :
    Calls Try.prog 24 #[.string ⟨#[43]⟩, Value.agg #[.int .i64 (1), .int .i64 (x), .string (sx)], Value.agg #[.int .i64 (1), .int .i64 (y), .string (sy)]] w (Ret (Value.tuple #[.agg #[.int .i64 (opR 43 x y).1, .int .i64 (opR 43 x y).2.1, .string ⟨#[]⟩], .int .i64 (opR 43 x y).2.2]) w) := by
  have t := add_up x y hx hy
  cases hf : fit64 (x + y)
  all_goals rw [hf] at t
  · have hr : opR 43 x y = (0, 0, 9) := by simp [opR, ofFit, hf]
    have Hr := Lib.hid hr
    clear hr hf
    go_enter Try.func24, Try.ntmps24
    go_wp2_with (first | (go_at_call 38; refine (Try.strings_Contains_one _ _ _).mono ?_; rintro e w' ⟨rfl, rfl⟩) | (go_at_call 39; refine (vfits _ _ _).mono ?_; rintro e w1 ⟨rfl, hb1⟩; obtain ⟨hc1, hf1⟩ := bcell hb1; have hz1 := hb1.size; (try simp at hz1); obtain ⟨hl1, hm1⟩ := bsz hb1; (try have hl1_0 : w.heap.size < w1.heap.size := by omega); (try have hm1_0 : w.heap.size ≤ w1.heap.size := by omega); (try have hl1_1 : w.heap.size + 1 < w1.heap.size := by omega); (try have hm1_1 : w.heap.size + 1 ≤ w1.heap.size := by omega); (try have hl1_2 : w.heap.size + 1 + 1 < w1.heap.size := by omega); (try have hm1_2 : w.heap.size + 1 + 1 ≤ w1.heap.size := by omega); (try have hl1_3 : w.heap.size + 1 + 1 + 1 < w1.heap.size := by omega); (try have hm1_3 : w.heap.size + 1 + 1 + 1 ≤ w1.heap.size := by omega)) | ((with_reducible refine region_draws ?_); go_quiet (fail)))
    refine bodyPost_ret (v := Value.tuple #[.agg #[.int .i64 ((0, 0, 9)).1, .int .i64 ((0, 0, 9)).2.1, .string ⟨#[]⟩], .int .i64 ((0, 0, 9)).2.2]) (by simp [results, Try.results24, go_sem, *]) rfl ⟨by rw [Hr.out], ?_⟩
    repeat (first | exact Below.refl _ _ | assumption | refine Below.drew ?_ | refine below_drewN ?_ _ | refine Below.setCell ?_ (by first | exact Nat.le_refl _ | omega | (simp; done) | (simp; omega)) _ | refine Below.alloc ?_ (by first | exact Nat.le_refl _ | omega | (simp; done) | (simp; omega)) _ | refine Below.trans ?_ (Below.mono (by assumption) (by first | exact Nat.le_refl _ | omega | (simp; done) | (simp; omega))))
  · have hr : opR 43 x y = (1, x + y, 0) := by simp [opR, ofFit, hf]
    have Hr := Lib.hid hr
    have Hw := Lib.hid (wrap64_fit _ ((fit64_iff _).1 hf))
    clear hr hf
    go_enter Try.func24, Try.ntmps24
    go_wp2_with (first | (go_at_call 38; refine (Try.strings_Contains_one _ _ _).mono ?_; rintro e w' ⟨rfl, rfl⟩) | (go_at_call 39; refine (vfits _ _ _).mono ?_; rintro e w1 ⟨rfl, hb1⟩; obtain ⟨hc1, hf1⟩ := bcell hb1; have hz1 := hb1.size; (try simp at hz1); obtain ⟨hl1, hm1⟩ := bsz hb1; (try have hl1_0 : w.heap.size < w1.heap.size := by omega); (try have hm1_0 : w.heap.size ≤ w1.heap.size := by omega); (try have hl1_1 : w.heap.size + 1 < w1.heap.size := by omega); (try have hm1_1 : w.heap.size + 1 ≤ w1.heap.size := by omega); (try have hl1_2 : w.heap.size + 1 + 1 < w1.heap.size := by omega); (try have hm1_2 : w.heap.size + 1 + 1 ≤ w1.heap.size := by omega); (try have hl1_3 : w.heap.size + 1 + 1 + 1 < w1.heap.size := by omega); (try have hm1_3 : w.heap.size + 1 + 1 + 1 ≤ w1.heap.size := by omega)) | ((with_reducible refine region_draws ?_); go_quiet (fail)))
    refine bodyPost_ret (v := Value.tuple #[.agg #[.int .i64 ((1, wrap64 (x + y), 0)).1, .int .i64 ((1, wrap64 (x + y), 0)).2.1, .string ⟨#[]⟩], .int .i64 ((1, wrap64 (x + y), 0)).2.2]) (by simp [results, Try.results24, go_sem, *]) rfl ⟨by rw [Hr.out, Hw.out], ?_⟩
    repeat (first | exact Below.refl _ _ | assumption | refine Below.drew ?_ | refine below_drewN ?_ _ | refine Below.setCell ?_ (by first | exact Nat.le_refl _ | omega | (simp; done) | (simp; omega)) _ | refine Below.alloc ?_ (by first | exact Nat.le_refl _ | omega | (simp; done) | (simp; omega)) _ | refine Below.trans ?_ (Below.mono (by assumption) (by first | exact Nat.le_refl _ | omega | (simp; done) | (simp; omega))))

theorem vArith_sub (x y : Int) (sx sy : ByteArray) (hx : -9223372036854775808 ≤ x ∧ x ≤ 9223372036854775807) (hy : -9223372036854775808 ≤ y ∧ y ≤ 9223372036854775807) (w : World) :
    Calls Try.prog 24 #[.string ⟨#[45]⟩, Value.agg #[.int .i64 (1), .int .i64 (x), .string (sx)], Value.agg #[.int .i64 (1), .int .i64 (y), .string (sy)]] w (Ret (Value.tuple #[.agg #[.int .i64 (opR 45 x y).1, .int .i64 (opR 45 x y).2.1, .string ⟨#[]⟩], .int .i64 (opR 45 x y).2.2]) w) := by
  have t := sub_up x y hx hy
  cases hf : fit64 (x - y)
  all_goals rw [hf] at t
  · have hr : opR 45 x y = (0, 0, 9) := by simp [opR, ofFit, hf]
    have Hr := Lib.hid hr
    clear hr hf
    go_enter Try.func24, Try.ntmps24
    go_wp2_with (first | (go_at_call 38; refine (Try.strings_Contains_one _ _ _).mono ?_; rintro e w' ⟨rfl, rfl⟩) | (go_at_call 39; refine (vfits _ _ _).mono ?_; rintro e w1 ⟨rfl, hb1⟩; obtain ⟨hc1, hf1⟩ := bcell hb1; have hz1 := hb1.size; (try simp at hz1); obtain ⟨hl1, hm1⟩ := bsz hb1; (try have hl1_0 : w.heap.size < w1.heap.size := by omega); (try have hm1_0 : w.heap.size ≤ w1.heap.size := by omega); (try have hl1_1 : w.heap.size + 1 < w1.heap.size := by omega); (try have hm1_1 : w.heap.size + 1 ≤ w1.heap.size := by omega); (try have hl1_2 : w.heap.size + 1 + 1 < w1.heap.size := by omega); (try have hm1_2 : w.heap.size + 1 + 1 ≤ w1.heap.size := by omega); (try have hl1_3 : w.heap.size + 1 + 1 + 1 < w1.heap.size := by omega); (try have hm1_3 : w.heap.size + 1 + 1 + 1 ≤ w1.heap.size := by omega)) | ((with_reducible refine region_draws ?_); go_quiet (fail)))
    refine bodyPost_ret (v := Value.tuple #[.agg #[.int .i64 ((0, 0, 9)).1, .int .i64 ((0, 0, 9)).2.1, .string ⟨#[]⟩], .int .i64 ((0, 0, 9)).2.2]) (by simp [results, Try.results24, go_sem, *]) rfl ⟨by rw [Hr.out], ?_⟩
    repeat (first | exact Below.refl _ _ | assumption | refine Below.drew ?_ | refine below_drewN ?_ _ | refine Below.setCell ?_ (by first | exact Nat.le_refl _ | omega | (simp; done) | (simp; omega)) _ | refine Below.alloc ?_ (by first | exact Nat.le_refl _ | omega | (simp; done) | (simp; omega)) _ | refine Below.trans ?_ (Below.mono (by assumption) (by first | exact Nat.le_refl _ | omega | (simp; done) | (simp; omega))))
  · have hr : opR 45 x y = (1, x - y, 0) := by simp [opR, ofFit, hf]
    have Hr := Lib.hid hr
    have Hw := Lib.hid (wrap64_fit _ ((fit64_iff _).1 hf))
    clear hr hf
    go_enter Try.func24, Try.ntmps24
    go_wp2_with (first | (go_at_call 38; refine (Try.strings_Contains_one _ _ _).mono ?_; rintro e w' ⟨rfl, rfl⟩) | (go_at_call 39; refine (vfits _ _ _).mono ?_; rintro e w1 ⟨rfl, hb1⟩; obtain ⟨hc1, hf1⟩ := bcell hb1; have hz1 := hb1.size; (try simp at hz1); obtain ⟨hl1, hm1⟩ := bsz hb1; (try have hl1_0 : w.heap.size < w1.heap.size := by omega); (try have hm1_0 : w.heap.size ≤ w1.heap.size := by omega); (try have hl1_1 : w.heap.size + 1 < w1.heap.size := by omega); (try have hm1_1 : w.heap.size + 1 ≤ w1.heap.size := by omega); (try have hl1_2 : w.heap.size + 1 + 1 < w1.heap.size := by omega); (try have hm1_2 : w.heap.size + 1 + 1 ≤ w1.heap.size := by omega); (try have hl1_3 : w.heap.size + 1 + 1 + 1 < w1.heap.size := by omega); (try have hm1_3 : w.heap.size + 1 + 1 + 1 ≤ w1.heap.size := by omega)) | ((with_reducible refine region_draws ?_); go_quiet (fail)))
    refine bodyPost_ret (v := Value.tuple #[.agg #[.int .i64 ((1, wrap64 (x - y), 0)).1, .int .i64 ((1, wrap64 (x - y), 0)).2.1, .string ⟨#[]⟩], .int .i64 ((1, wrap64 (x - y), 0)).2.2]) (by simp [results, Try.results24, go_sem, *]) rfl ⟨by rw [Hr.out, Hw.out], ?_⟩
    repeat (first | exact Below.refl _ _ | assumption | refine Below.drew ?_ | refine below_drewN ?_ _ | refine Below.setCell ?_ (by first | exact Nat.le_refl _ | omega | (simp; done) | (simp; omega)) _ | refine Below.alloc ?_ (by first | exact Nat.le_refl _ | omega | (simp; done) | (simp; omega)) _ | refine Below.trans ?_ (Below.mono (by assumption) (by first | exact Nat.le_refl _ | omega | (simp; done) | (simp; omega))))

theorem rArith_add (x y : Int) (sx sy : ByteArray) (hx : -9223372036854775808 ≤ x ∧ x ≤ 9223372036854775807) (hy : -9223372036854775808 ≤ y ∧ y ≤ 9223372036854775807) (w : World) :
    Calls Try.prog 25 #[.string ⟨#[43]⟩, Value.agg #[.int .i64 (1), .int .i64 (x), .string (sx)], Value.agg #[.int .i64 (1), .int .i64 (y), .string (sy)]] w (Ret (Value.tuple #[.agg #[.int .i64 (opR 43 x y).1, .int .i64 (opR 43 x y).2.1, .string ⟨#[]⟩], .int .i64 (opR 43 x y).2.2]) w) := by
  have t := ge_up x y hx hy
  cases hf : fit64 (x + y)
  all_goals rw [hf] at t
  · have hr : opR 43 x y = (0, 0, 9) := by simp [opR, ofFit, hf]
    have Hr := Lib.hid hr
    clear hr hf
    go_enter Try.func25, Try.ntmps25
    go_wp2_with (first | (go_at_call 17; refine (rNum _ _).mono ?_; rintro e w1 ⟨rfl, hb1⟩; obtain ⟨hc1, hf1⟩ := bcell hb1; have hz1 := hb1.size; (try simp at hz1); obtain ⟨hl1, hm1⟩ := bsz hb1; (try have hl1_0 : w.heap.size < w1.heap.size := by omega); (try have hm1_0 : w.heap.size ≤ w1.heap.size := by omega); (try have hl1_1 : w.heap.size + 1 < w1.heap.size := by omega); (try have hm1_1 : w.heap.size + 1 ≤ w1.heap.size := by omega); (try have hl1_2 : w.heap.size + 1 + 1 < w1.heap.size := by omega); (try have hm1_2 : w.heap.size + 1 + 1 ≤ w1.heap.size := by omega); (try have hl1_3 : w.heap.size + 1 + 1 + 1 < w1.heap.size := by omega); (try have hm1_3 : w.heap.size + 1 + 1 + 1 ≤ w1.heap.size := by omega)) | ((with_reducible refine region_draws ?_); go_quiet (fail)))
    refine bodyPost_ret (v := Value.tuple #[.agg #[.int .i64 ((0, 0, 9)).1, .int .i64 ((0, 0, 9)).2.1, .string ⟨#[]⟩], .int .i64 ((0, 0, 9)).2.2]) (by simp [results, Try.results25, go_sem, *]) rfl ⟨by rw [Hr.out], ?_⟩
    repeat (first | exact Below.refl _ _ | assumption | refine Below.drew ?_ | refine below_drewN ?_ _ | refine Below.setCell ?_ (by first | exact Nat.le_refl _ | omega | (simp; done) | (simp; omega)) _ | refine Below.alloc ?_ (by first | exact Nat.le_refl _ | omega | (simp; done) | (simp; omega)) _ | refine Below.trans ?_ (Below.mono (by assumption) (by first | exact Nat.le_refl _ | omega | (simp; done) | (simp; omega))))
  · have hr : opR 43 x y = (1, x + y, 0) := by simp [opR, ofFit, hf]
    have Hr := Lib.hid hr
    have Hw := Lib.hid (wrap64_fit _ ((fit64_iff _).1 hf))
    clear hr hf
    go_enter Try.func25, Try.ntmps25
    go_wp2_with (first | (go_at_call 17; refine (rNum _ _).mono ?_; rintro e w1 ⟨rfl, hb1⟩; obtain ⟨hc1, hf1⟩ := bcell hb1; have hz1 := hb1.size; (try simp at hz1); obtain ⟨hl1, hm1⟩ := bsz hb1; (try have hl1_0 : w.heap.size < w1.heap.size := by omega); (try have hm1_0 : w.heap.size ≤ w1.heap.size := by omega); (try have hl1_1 : w.heap.size + 1 < w1.heap.size := by omega); (try have hm1_1 : w.heap.size + 1 ≤ w1.heap.size := by omega); (try have hl1_2 : w.heap.size + 1 + 1 < w1.heap.size := by omega); (try have hm1_2 : w.heap.size + 1 + 1 ≤ w1.heap.size := by omega); (try have hl1_3 : w.heap.size + 1 + 1 + 1 < w1.heap.size := by omega); (try have hm1_3 : w.heap.size + 1 + 1 + 1 ≤ w1.heap.size := by omega)) | ((with_reducible refine region_draws ?_); go_quiet (fail)))
    refine bodyPost_ret (v := Value.tuple #[.agg #[.int .i64 ((1, wrap64 (x + y), 0)).1, .int .i64 ((1, wrap64 (x + y), 0)).2.1, .string ⟨#[]⟩], .int .i64 ((1, wrap64 (x + y), 0)).2.2]) (by simp [results, Try.results25, go_sem, *]) rfl ⟨by rw [Hr.out, Hw.out], ?_⟩
    repeat (first | exact Below.refl _ _ | assumption | refine Below.drew ?_ | refine below_drewN ?_ _ | refine Below.setCell ?_ (by first | exact Nat.le_refl _ | omega | (simp; done) | (simp; omega)) _ | refine Below.alloc ?_ (by first | exact Nat.le_refl _ | omega | (simp; done) | (simp; omega)) _ | refine Below.trans ?_ (Below.mono (by assumption) (by first | exact Nat.le_refl _ | omega | (simp; done) | (simp; omega))))

theorem rArith_sub (x y : Int) (sx sy : ByteArray) (hx : -9223372036854775808 ≤ x ∧ x ≤ 9223372036854775807) (hy : -9223372036854775808 ≤ y ∧ y ≤ 9223372036854775807) (w : World) :
    Calls Try.prog 25 #[.string ⟨#[45]⟩, Value.agg #[.int .i64 (1), .int .i64 (x), .string (sx)], Value.agg #[.int .i64 (1), .int .i64 (y), .string (sy)]] w (Ret (Value.tuple #[.agg #[.int .i64 (opR 45 x y).1, .int .i64 (opR 45 x y).2.1, .string ⟨#[]⟩], .int .i64 (opR 45 x y).2.2]) w) := by
  have t := le_up x y hx hy
  cases hf : fit64 (x - y)
  all_goals rw [hf] at t
  · have hr : opR 45 x y = (0, 0, 9) := by simp [opR, ofFit, hf]
    have Hr := Lib.hid hr
    clear hr hf
    go_enter Try.func25, Try.ntmps25
    go_wp2_with (first | (go_at_call 17; refine (rNum _ _).mono ?_; rintro e w1 ⟨rfl, hb1⟩; obtain ⟨hc1, hf1⟩ := bcell hb1; have hz1 := hb1.size; (try simp at hz1); obtain ⟨hl1, hm1⟩ := bsz hb1; (try have hl1_0 : w.heap.size < w1.heap.size := by omega); (try have hm1_0 : w.heap.size ≤ w1.heap.size := by omega); (try have hl1_1 : w.heap.size + 1 < w1.heap.size := by omega); (try have hm1_1 : w.heap.size + 1 ≤ w1.heap.size := by omega); (try have hl1_2 : w.heap.size + 1 + 1 < w1.heap.size := by omega); (try have hm1_2 : w.heap.size + 1 + 1 ≤ w1.heap.size := by omega); (try have hl1_3 : w.heap.size + 1 + 1 + 1 < w1.heap.size := by omega); (try have hm1_3 : w.heap.size + 1 + 1 + 1 ≤ w1.heap.size := by omega)) | ((with_reducible refine region_draws ?_); go_quiet (fail)))
    refine bodyPost_ret (v := Value.tuple #[.agg #[.int .i64 ((0, 0, 9)).1, .int .i64 ((0, 0, 9)).2.1, .string ⟨#[]⟩], .int .i64 ((0, 0, 9)).2.2]) (by simp [results, Try.results25, go_sem, *]) rfl ⟨by rw [Hr.out], ?_⟩
    repeat (first | exact Below.refl _ _ | assumption | refine Below.drew ?_ | refine below_drewN ?_ _ | refine Below.setCell ?_ (by first | exact Nat.le_refl _ | omega | (simp; done) | (simp; omega)) _ | refine Below.alloc ?_ (by first | exact Nat.le_refl _ | omega | (simp; done) | (simp; omega)) _ | refine Below.trans ?_ (Below.mono (by assumption) (by first | exact Nat.le_refl _ | omega | (simp; done) | (simp; omega))))
  · have hr : opR 45 x y = (1, x - y, 0) := by simp [opR, ofFit, hf]
    have Hr := Lib.hid hr
    have Hw := Lib.hid (wrap64_fit _ ((fit64_iff _).1 hf))
    clear hr hf
    go_enter Try.func25, Try.ntmps25
    go_wp2_with (first | (go_at_call 17; refine (rNum _ _).mono ?_; rintro e w1 ⟨rfl, hb1⟩; obtain ⟨hc1, hf1⟩ := bcell hb1; have hz1 := hb1.size; (try simp at hz1); obtain ⟨hl1, hm1⟩ := bsz hb1; (try have hl1_0 : w.heap.size < w1.heap.size := by omega); (try have hm1_0 : w.heap.size ≤ w1.heap.size := by omega); (try have hl1_1 : w.heap.size + 1 < w1.heap.size := by omega); (try have hm1_1 : w.heap.size + 1 ≤ w1.heap.size := by omega); (try have hl1_2 : w.heap.size + 1 + 1 < w1.heap.size := by omega); (try have hm1_2 : w.heap.size + 1 + 1 ≤ w1.heap.size := by omega); (try have hl1_3 : w.heap.size + 1 + 1 + 1 < w1.heap.size := by omega); (try have hm1_3 : w.heap.size + 1 + 1 + 1 ≤ w1.heap.size := by omega)) | ((with_reducible refine region_draws ?_); go_quiet (fail)))
    refine bodyPost_ret (v := Value.tuple #[.agg #[.int .i64 ((1, wrap64 (x - y), 0)).1, .int .i64 ((1, wrap64 (x - y), 0)).2.1, .string ⟨#[]⟩], .int .i64 ((1, wrap64 (x - y), 0)).2.2]) (by simp [results, Try.results25, go_sem, *]) rfl ⟨by rw [Hr.out, Hw.out], ?_⟩
    repeat (first | exact Below.refl _ _ | assumption | refine Below.drew ?_ | refine below_drewN ?_ _ | refine Below.setCell ?_ (by first | exact Nat.le_refl _ | omega | (simp; done) | (simp; omega)) _ | refine Below.alloc ?_ (by first | exact Nat.le_refl _ | omega | (simp; done) | (simp; omega)) _ | refine Below.trans ?_ (Below.mono (by assumption) (by first | exact Nat.le_refl _ | omega | (simp; done) | (simp; omega))))
end Go.Proofs.Ytbgndledcnfceaa
