/- What Arith computes for whatever operator and operands, in package value and in the document. No condition but that the numbers are of 64 bits. -/
import Derived.Test.YtbgndledcnfceaaVal4
import Derived.Lib.Strings
namespace Go.Proofs.Ytbgndledcnfceaa
open Go.ChangeShapes Go.WideShapes Go.ChangeAt Go.RowKit

theorem ba_ext (a b : ByteArray) (h : a.toList = b.toList) : a = b := by
  rw [Lib.toList_data, Lib.toList_data] at h
  cases a with
  | mk d => cases d with
    | mk l => cases b with
      | mk d2 => cases d2 with
        | mk l2 => simp at h; subst h; rfl
theorem ba_one (op : ByteArray) (h : op.size = 1) : ∃ c, op = ⟨#[c]⟩ := by
  cases op with
  | mk d => cases d with
    | mk l =>
      have : l.length = 1 := h
      match l, this with
      | [c], _ => exact ⟨c, rfl⟩
theorem opOk_one (c : UInt8) : opOk ⟨#[c]⟩ = decide (0 ≤ Lib.indexByte [43, 45, 42, 47, 37] c) := by
  have h : ∀ n : Fin 256, opOk ⟨#[UInt8.ofNat n.val]⟩ = decide (0 ≤ Lib.indexByte [43, 45, 42, 47, 37] (UInt8.ofNat n.val)) := by decide +kernel
  have := h ⟨c.toNat, c.toNat_lt⟩
  simpa using this
theorem opOk_size (op : ByteArray) (h : op.size ≠ 1) : opOk op = false := by
  have e : ∀ c : UInt8, ¬ op.data.toList = [c] := fun c e => h (by
    have : op.data.toList.length = 1 := by rw [e]; rfl
    simpa using this)
  unfold opOk
  simp only [beq_eq_false_iff_ne.2 (e _), Bool.or_false]
theorem opOk_cases (op : ByteArray) (h : opOk op = true) : op = ⟨#[43]⟩ ∨ op = ⟨#[45]⟩ ∨ op = ⟨#[42]⟩ ∨ op = ⟨#[47]⟩ ∨ op = ⟨#[37]⟩ := by
  unfold opOk at h
  simp only [Bool.or_eq_true, beq_iff_eq] at h
  have e : ∀ c : UInt8, op.data.toList = [c] → op = ⟨#[c]⟩ := fun c e => ba_ext _ _ (by rw [Lib.toList_data, e]; rw [Lib.toList_data])
  rcases h with (((h | h) | h) | h) | h
  · exact .inl (e _ h)
  · exact .inr (.inl (e _ h))
  · exact .inr (.inr (.inl (e _ h)))
  · exact .inr (.inr (.inr (.inl (e _ h))))
  · exact .inr (.inr (.inr (.inr (e _ h))))

set_option maxHeartbeats 800000 in
theorem vArith_len (op : ByteArray) (ka x : Int) (sx : ByteArray) (kb y : Int) (sy : ByteArray) (h : op.size ≠ 1) (w : World) :
    Calls Try.prog 24 #[.string op, Value.agg #[.int .i64 (ka), .int .i64 (x), .string (sx)], Value.agg #[.int .i64 (kb), .int .i64 (y), .string (sy)]] w (Ret (Value.tuple #[.agg #[.int .i64 (arithR (op) ka x kb y).1, .int .i64 (arithR (op) ka x kb y).2.1, .string ⟨#[]⟩], .int .i64 (arithR (op) ka x kb y).2.2]) w) := by
  have t0 : ((op.size : Int) != 1) = true := by simp; omega
  have hr : arithR (op) ka x kb y = (0, 0, 1) := by unfold arithR; rw [if_pos (opOk_size op h)]
  have Hr := Lib.hid hr
  clear hr
  go_enter Try.func24, Try.ntmps24
  go_wp2_with (first | (go_at_call 38; refine (Try.strings_Contains_one _ _ _).mono ?_; rintro e w' ⟨rfl, rfl⟩) | ((with_reducible refine region_draws ?_); go_quiet (fail)))
  all_goals refine bodyPost_ret (v := Value.tuple #[.agg #[.int .i64 ((0, 0, 1)).1, .int .i64 ((0, 0, 1)).2.1, .string ⟨#[]⟩], .int .i64 ((0, 0, 1)).2.2]) (by simp [results, Try.results24, go_sem, *]) rfl ⟨by rw [Hr.out], ?_⟩
  all_goals repeat (first | exact Below.refl _ _ | assumption | refine Below.drew ?_ | refine below_drewN ?_ _ | refine Below.setCell ?_ (by first | exact Nat.le_refl _ | omega | (simp; done) | (simp; omega)) _ | refine Below.alloc ?_ (by first | exact Nat.le_refl _ | omega | (simp; done) | (simp; omega)) _ | refine Below.trans ?_ (Below.mono (by assumption) (by first | exact Nat.le_refl _ | omega | (simp; done) | (simp; omega))))

set_option maxHeartbeats 800000 in
theorem vArith_bad (c : UInt8) (ka x : Int) (sx : ByteArray) (kb y : Int) (sy : ByteArray) (h : opOk ⟨#[c]⟩ = false) (w : World) :
    Calls Try.prog 24 #[.string ⟨#[c]⟩, Value.agg #[.int .i64 (ka), .int .i64 (x), .string (sx)], Value.agg #[.int .i64 (kb), .int .i64 (y), .string (sy)]] w (Ret (Value.tuple #[.agg #[.int .i64 (arithR (⟨#[c]⟩) ka x kb y).1, .int .i64 (arithR (⟨#[c]⟩) ka x kb y).2.1, .string ⟨#[]⟩], .int .i64 (arithR (⟨#[c]⟩) ka x kb y).2.2]) w) := by
  have t0 : decide (0 ≤ Lib.indexByte [43, 45, 42, 47, 37] c) = false := by rw [← opOk_one]; exact h
  have hr : arithR (⟨#[c]⟩) ka x kb y = (0, 0, 1) := by unfold arithR; rw [if_pos h]
  have Hr := Lib.hid hr
  clear hr
  go_enter Try.func24, Try.ntmps24
  go_wp2_with (first | (go_at_call 38; refine (Try.strings_Contains_one _ _ _).mono ?_; rintro e w' ⟨rfl, rfl⟩) | ((with_reducible refine region_draws ?_); go_quiet (fail)))
  all_goals refine bodyPost_ret (v := Value.tuple #[.agg #[.int .i64 ((0, 0, 1)).1, .int .i64 ((0, 0, 1)).2.1, .string ⟨#[]⟩], .int .i64 ((0, 0, 1)).2.2]) (by simp [results, Try.results24, go_sem, *]) rfl ⟨by rw [Hr.out], ?_⟩
  all_goals repeat (first | exact Below.refl _ _ | assumption | refine Below.drew ?_ | refine below_drewN ?_ _ | refine Below.setCell ?_ (by first | exact Nat.le_refl _ | omega | (simp; done) | (simp; omega)) _ | refine Below.alloc ?_ (by first | exact Nat.le_refl _ | omega | (simp; done) | (simp; omega)) _ | refine Below.trans ?_ (Below.mono (by assumption) (by first | exact Nat.le_refl _ | omega | (simp; done) | (simp; omega))))

set_option maxHeartbeats 800000 in
theorem vArith_null (c : UInt8) (ka x : Int) (sx : ByteArray) (kb y : Int) (sy : ByteArray) (h : opOk ⟨#[c]⟩ = true) (h0 : ka = 0 ∨ kb = 0) (w : World) :
    Calls Try.prog 24 #[.string ⟨#[c]⟩, Value.agg #[.int .i64 (ka), .int .i64 (x), .string (sx)], Value.agg #[.int .i64 (kb), .int .i64 (y), .string (sy)]] w (Ret (Value.tuple #[.agg #[.int .i64 (arithR (⟨#[c]⟩) ka x kb y).1, .int .i64 (arithR (⟨#[c]⟩) ka x kb y).2.1, .string ⟨#[]⟩], .int .i64 (arithR (⟨#[c]⟩) ka x kb y).2.2]) w) := by
  have t0 : decide (0 ≤ Lib.indexByte [43, 45, 42, 47, 37] c) = true := by rw [← opOk_one]; exact h
  have hr : arithR (⟨#[c]⟩) ka x kb y = (0, 0, 0) := by unfold arithR; rw [if_neg (by rw [h]; simp), if_pos h0]
  have Hr := Lib.hid hr
  clear hr
  go_enter Try.func24, Try.ntmps24
  by_cases k0 : ka = 0
  · subst k0
    go_wp2_with (first | (go_at_call 38; refine (Try.strings_Contains_one _ _ _).mono ?_; rintro e w' ⟨rfl, rfl⟩) | ((with_reducible refine region_draws ?_); go_quiet (fail)))
    refine bodyPost_ret (v := Value.tuple #[.agg #[.int .i64 ((0, 0, 0)).1, .int .i64 ((0, 0, 0)).2.1, .string ⟨#[]⟩], .int .i64 ((0, 0, 0)).2.2]) (by simp [results, Try.results24, go_sem, *]) rfl ⟨by rw [Hr.out], ?_⟩
    repeat (first | exact Below.refl _ _ | assumption | refine Below.drew ?_ | refine below_drewN ?_ _ | refine Below.setCell ?_ (by first | exact Nat.le_refl _ | omega | (simp; done) | (simp; omega)) _ | refine Below.alloc ?_ (by first | exact Nat.le_refl _ | omega | (simp; done) | (simp; omega)) _ | refine Below.trans ?_ (Below.mono (by assumption) (by first | exact Nat.le_refl _ | omega | (simp; done) | (simp; omega))))
  have k1 : kb = 0 := by omega
  subst k1
  have t1 : (ka == 0) = false := by simpa using k0
  go_wp2_with (first | (go_at_call 38; refine (Try.strings_Contains_one _ _ _).mono ?_; rintro e w' ⟨rfl, rfl⟩) | ((with_reducible refine region_draws ?_); go_quiet (fail)))
  all_goals refine bodyPost_ret (v := Value.tuple #[.agg #[.int .i64 ((0, 0, 0)).1, .int .i64 ((0, 0, 0)).2.1, .string ⟨#[]⟩], .int .i64 ((0, 0, 0)).2.2]) (by simp [results, Try.results24, go_sem, *]) rfl ⟨by rw [Hr.out], ?_⟩
  all_goals repeat (first | exact Below.refl _ _ | assumption | refine Below.drew ?_ | refine below_drewN ?_ _ | refine Below.setCell ?_ (by first | exact Nat.le_refl _ | omega | (simp; done) | (simp; omega)) _ | refine Below.alloc ?_ (by first | exact Nat.le_refl _ | omega | (simp; done) | (simp; omega)) _ | refine Below.trans ?_ (Below.mono (by assumption) (by first | exact Nat.le_refl _ | omega | (simp; done) | (simp; omega))))

set_option maxHeartbeats 800000 in
theorem vArith_type (c : UInt8) (ka x : Int) (sx : ByteArray) (kb y : Int) (sy : ByteArray) (h : opOk ⟨#[c]⟩ = true) (h0 : ka ≠ 0) (h1 : kb ≠ 0) (h2 : ka ≠ 1 ∨ kb ≠ 1) (w : World) :
    Calls Try.prog 24 #[.string ⟨#[c]⟩, Value.agg #[.int .i64 (ka), .int .i64 (x), .string (sx)], Value.agg #[.int .i64 (kb), .int .i64 (y), .string (sy)]] w (Ret (Value.tuple #[.agg #[.int .i64 (arithR (⟨#[c]⟩) ka x kb y).1, .int .i64 (arithR (⟨#[c]⟩) ka x kb y).2.1, .string ⟨#[]⟩], .int .i64 (arithR (⟨#[c]⟩) ka x kb y).2.2]) w) := by
  have t0 : decide (0 ≤ Lib.indexByte [43, 45, 42, 47, 37] c) = true := by rw [← opOk_one]; exact h
  have t1 : (ka == 0) = false := by simpa using h0
  have t2 : (kb == 0) = false := by simpa using h1
  have hr : arithR (⟨#[c]⟩) ka x kb y = (0, 0, 11) := by unfold arithR; rw [if_neg (by rw [h]; simp), if_neg (by omega), if_pos h2]
  have Hr := Lib.hid hr
  clear hr
  go_enter Try.func24, Try.ntmps24
  by_cases k0 : ka = 1
  · subst k0
    have t3 : (kb != 1) = true := by simp; omega
    go_wp2_with (first | (go_at_call 38; refine (Try.strings_Contains_one _ _ _).mono ?_; rintro e w' ⟨rfl, rfl⟩) | ((with_reducible refine region_draws ?_); go_quiet (fail)))
    refine bodyPost_ret (v := Value.tuple #[.agg #[.int .i64 ((0, 0, 11)).1, .int .i64 ((0, 0, 11)).2.1, .string ⟨#[]⟩], .int .i64 ((0, 0, 11)).2.2]) (by simp [results, Try.results24, go_sem, *]) rfl ⟨by rw [Hr.out], ?_⟩
    repeat (first | exact Below.refl _ _ | assumption | refine Below.drew ?_ | refine below_drewN ?_ _ | refine Below.setCell ?_ (by first | exact Nat.le_refl _ | omega | (simp; done) | (simp; omega)) _ | refine Below.alloc ?_ (by first | exact Nat.le_refl _ | omega | (simp; done) | (simp; omega)) _ | refine Below.trans ?_ (Below.mono (by assumption) (by first | exact Nat.le_refl _ | omega | (simp; done) | (simp; omega))))
  have t3 : (ka != 1) = true := by simpa using k0
  go_wp2_with (first | (go_at_call 38; refine (Try.strings_Contains_one _ _ _).mono ?_; rintro e w' ⟨rfl, rfl⟩) | ((with_reducible refine region_draws ?_); go_quiet (fail)))
  all_goals refine bodyPost_ret (v := Value.tuple #[.agg #[.int .i64 ((0, 0, 11)).1, .int .i64 ((0, 0, 11)).2.1, .string ⟨#[]⟩], .int .i64 ((0, 0, 11)).2.2]) (by simp [results, Try.results24, go_sem, *]) rfl ⟨by rw [Hr.out], ?_⟩
  all_goals repeat (first | exact Below.refl _ _ | assumption | refine Below.drew ?_ | refine below_drewN ?_ _ | refine Below.setCell ?_ (by first | exact Nat.le_refl _ | omega | (simp; done) | (simp; omega)) _ | refine Below.alloc ?_ (by first | exact Nat.le_refl _ | omega | (simp; done) | (simp; omega)) _ | refine Below.trans ?_ (Below.mono (by assumption) (by first | exact Nat.le_refl _ | omega | (simp; done) | (simp; omega))))

set_option maxHeartbeats 800000 in
theorem rArith_bad (op : ByteArray) (ka x : Int) (sx : ByteArray) (kb y : Int) (sy : ByteArray) (h : opOk op = false) (w : World) :
    Calls Try.prog 25 #[.string op, Value.agg #[.int .i64 (ka), .int .i64 (x), .string (sx)], Value.agg #[.int .i64 (kb), .int .i64 (y), .string (sy)]] w (Ret (Value.tuple #[.agg #[.int .i64 (arithR (op) ka x kb y).1, .int .i64 (arithR (op) ka x kb y).2.1, .string ⟨#[]⟩], .int .i64 (arithR (op) ka x kb y).2.2]) w) := by
  have e43 : ¬ op.toList = [43] := fun e => by rw [Lib.toList_data] at e; unfold opOk at h; rw [e] at h; revert h; decide
  have e45 : ¬ op.toList = [45] := fun e => by rw [Lib.toList_data] at e; unfold opOk at h; rw [e] at h; revert h; decide
  have e42 : ¬ op.toList = [42] := fun e => by rw [Lib.toList_data] at e; unfold opOk at h; rw [e] at h; revert h; decide
  have e47 : ¬ op.toList = [47] := fun e => by rw [Lib.toList_data] at e; unfold opOk at h; rw [e] at h; revert h; decide
  have e37 : ¬ op.toList = [37] := fun e => by rw [Lib.toList_data] at e; unfold opOk at h; rw [e] at h; revert h; decide
  have b43 : (op.toList == [43]) = false := by simpa using e43
  have b45 : (op.toList == [45]) = false := by simpa using e45
  have b42 : (op.toList == [42]) = false := by simpa using e42
  have b47 : (op.toList == [47]) = false := by simpa using e47
  have b37 : (op.toList == [37]) = false := by simpa using e37
  have hr : arithR (op) ka x kb y = (0, 0, 1) := by unfold arithR; rw [if_pos h]
  have Hr := Lib.hid hr
  clear hr
  go_enter Try.func25, Try.ntmps25
  go_wp2_with (first | (go_at_call 17; refine (rNum _ _).mono ?_; rintro e w1 ⟨rfl, hb1⟩; obtain ⟨hc1, hf1⟩ := bcell hb1; have hz1 := hb1.size; (try simp at hz1); obtain ⟨hl1, hm1⟩ := bsz hb1; (try have hl1_0 : w.heap.size < w1.heap.size := by omega); (try have hm1_0 : w.heap.size ≤ w1.heap.size := by omega); (try have hl1_1 : w.heap.size + 1 < w1.heap.size := by omega); (try have hm1_1 : w.heap.size + 1 ≤ w1.heap.size := by omega); (try have hl1_2 : w.heap.size + 1 + 1 < w1.heap.size := by omega); (try have hm1_2 : w.heap.size + 1 + 1 ≤ w1.heap.size := by omega); (try have hl1_3 : w.heap.size + 1 + 1 + 1 < w1.heap.size := by omega); (try have hm1_3 : w.heap.size + 1 + 1 + 1 ≤ w1.heap.size := by omega)) | ((with_reducible refine region_draws ?_); go_quiet (fail)))
  all_goals refine bodyPost_ret (v := Value.tuple #[.agg #[.int .i64 ((0, 0, 1)).1, .int .i64 ((0, 0, 1)).2.1, .string ⟨#[]⟩], .int .i64 ((0, 0, 1)).2.2]) (by simp [results, Try.results25, go_sem, *]) rfl ⟨by rw [Hr.out], ?_⟩
  all_goals repeat (first | exact Below.refl _ _ | assumption | refine Below.drew ?_ | refine below_drewN ?_ _ | refine Below.setCell ?_ (by first | exact Nat.le_refl _ | omega | (simp; done) | (simp; omega)) _ | refine Below.alloc ?_ (by first | exact Nat.le_refl _ | omega | (simp; done) | (simp; omega)) _ | refine Below.trans ?_ (Below.mono (by assumption) (by first | exact Nat.le_refl _ | omega | (simp; done) | (simp; omega))))

set_option maxHeartbeats 800000 in
theorem rArith_null43 (ka x : Int) (sx : ByteArray) (kb y : Int) (sy : ByteArray) (h0 : ka = 0 ∨ kb = 0) (w : World) :
    Calls Try.prog 25 #[.string ⟨#[43]⟩, Value.agg #[.int .i64 (ka), .int .i64 (x), .string (sx)], Value.agg #[.int .i64 (kb), .int .i64 (y), .string (sy)]] w (Ret (Value.tuple #[.agg #[.int .i64 (arithR (⟨#[43]⟩) ka x kb y).1, .int .i64 (arithR (⟨#[43]⟩) ka x kb y).2.1, .string ⟨#[]⟩], .int .i64 (arithR (⟨#[43]⟩) ka x kb y).2.2]) w) := by
  have hr : arithR (⟨#[43]⟩) ka x kb y = (0, 0, 0) := by unfold arithR; rw [if_neg (by decide), if_pos h0]
  have Hr := Lib.hid hr
  clear hr
  go_enter Try.func25, Try.ntmps25
  by_cases k0 : ka = 0
  · subst k0
    go_wp2_with (first | (go_at_call 17; refine (rNum _ _).mono ?_; rintro e w1 ⟨rfl, hb1⟩; obtain ⟨hc1, hf1⟩ := bcell hb1; have hz1 := hb1.size; (try simp at hz1); obtain ⟨hl1, hm1⟩ := bsz hb1; (try have hl1_0 : w.heap.size < w1.heap.size := by omega); (try have hm1_0 : w.heap.size ≤ w1.heap.size := by omega); (try have hl1_1 : w.heap.size + 1 < w1.heap.size := by omega); (try have hm1_1 : w.heap.size + 1 ≤ w1.heap.size := by omega); (try have hl1_2 : w.heap.size + 1 + 1 < w1.heap.size := by omega); (try have hm1_2 : w.heap.size + 1 + 1 ≤ w1.heap.size := by omega); (try have hl1_3 : w.heap.size + 1 + 1 + 1 < w1.heap.size := by omega); (try have hm1_3 : w.heap.size + 1 + 1 + 1 ≤ w1.heap.size := by omega)) | ((with_reducible refine region_draws ?_); go_quiet (fail)))
    refine bodyPost_ret (v := Value.tuple #[.agg #[.int .i64 ((0, 0, 0)).1, .int .i64 ((0, 0, 0)).2.1, .string ⟨#[]⟩], .int .i64 ((0, 0, 0)).2.2]) (by simp [results, Try.results25, go_sem, *]) rfl ⟨by rw [Hr.out], ?_⟩
    repeat (first | exact Below.refl _ _ | assumption | refine Below.drew ?_ | refine below_drewN ?_ _ | refine Below.setCell ?_ (by first | exact Nat.le_refl _ | omega | (simp; done) | (simp; omega)) _ | refine Below.alloc ?_ (by first | exact Nat.le_refl _ | omega | (simp; done) | (simp; omega)) _ | refine Below.trans ?_ (Below.mono (by assumption) (by first | exact Nat.le_refl _ | omega | (simp; done) | (simp; omega))))
  have k1 : kb = 0 := by omega
  subst k1
  have t1 : (ka == 0) = false := by simpa using k0
  go_wp2_with (first | (go_at_call 17; refine (rNum _ _).mono ?_; rintro e w1 ⟨rfl, hb1⟩; obtain ⟨hc1, hf1⟩ := bcell hb1; have hz1 := hb1.size; (try simp at hz1); obtain ⟨hl1, hm1⟩ := bsz hb1; (try have hl1_0 : w.heap.size < w1.heap.size := by omega); (try have hm1_0 : w.heap.size ≤ w1.heap.size := by omega); (try have hl1_1 : w.heap.size + 1 < w1.heap.size := by omega); (try have hm1_1 : w.heap.size + 1 ≤ w1.heap.size := by omega); (try have hl1_2 : w.heap.size + 1 + 1 < w1.heap.size := by omega); (try have hm1_2 : w.heap.size + 1 + 1 ≤ w1.heap.size := by omega); (try have hl1_3 : w.heap.size + 1 + 1 + 1 < w1.heap.size := by omega); (try have hm1_3 : w.heap.size + 1 + 1 + 1 ≤ w1.heap.size := by omega)) | ((with_reducible refine region_draws ?_); go_quiet (fail)))
  all_goals refine bodyPost_ret (v := Value.tuple #[.agg #[.int .i64 ((0, 0, 0)).1, .int .i64 ((0, 0, 0)).2.1, .string ⟨#[]⟩], .int .i64 ((0, 0, 0)).2.2]) (by simp [results, Try.results25, go_sem, *]) rfl ⟨by rw [Hr.out], ?_⟩
  all_goals repeat (first | exact Below.refl _ _ | assumption | refine Below.drew ?_ | refine below_drewN ?_ _ | refine Below.setCell ?_ (by first | exact Nat.le_refl _ | omega | (simp; done) | (simp; omega)) _ | refine Below.alloc ?_ (by first | exact Nat.le_refl _ | omega | (simp; done) | (simp; omega)) _ | refine Below.trans ?_ (Below.mono (by assumption) (by first | exact Nat.le_refl _ | omega | (simp; done) | (simp; omega))))

set_option maxHeartbeats 800000 in
theorem rArith_type43 (ka x : Int) (sx : ByteArray) (kb y : Int) (sy : ByteArray) (h0 : ka ≠ 0) (h1 : kb ≠ 0) (h2 : ka ≠ 1 ∨ kb ≠ 1) (w : World) :
    Calls Try.prog 25 #[.string ⟨#[43]⟩, Value.agg #[.int .i64 (ka), .int .i64 (x), .string (sx)], Value.agg #[.int .i64 (kb), .int .i64 (y), .string (sy)]] w (Ret (Value.tuple #[.agg #[.int .i64 (arithR (⟨#[43]⟩) ka x kb y).1, .int .i64 (arithR (⟨#[43]⟩) ka x kb y).2.1, .string ⟨#[]⟩], .int .i64 (arithR (⟨#[43]⟩) ka x kb y).2.2]) w) := by
  have t1 : (ka == 0) = false := by simpa using h0
  have t2 : (kb == 0) = false := by simpa using h1
  have hr : arithR (⟨#[43]⟩) ka x kb y = (0, 0, 11) := by unfold arithR; rw [if_neg (by decide), if_neg (by omega), if_pos h2]
  have Hr := Lib.hid hr
  clear hr
  go_enter Try.func25, Try.ntmps25
  by_cases k0 : ka = 1
  · subst k0
    have t3 : (kb != 1) = true := by simp; omega
    go_wp2_with (first | (go_at_call 17; refine (rNum _ _).mono ?_; rintro e w1 ⟨rfl, hb1⟩; obtain ⟨hc1, hf1⟩ := bcell hb1; have hz1 := hb1.size; (try simp at hz1); obtain ⟨hl1, hm1⟩ := bsz hb1; (try have hl1_0 : w.heap.size < w1.heap.size := by omega); (try have hm1_0 : w.heap.size ≤ w1.heap.size := by omega); (try have hl1_1 : w.heap.size + 1 < w1.heap.size := by omega); (try have hm1_1 : w.heap.size + 1 ≤ w1.heap.size := by omega); (try have hl1_2 : w.heap.size + 1 + 1 < w1.heap.size := by omega); (try have hm1_2 : w.heap.size + 1 + 1 ≤ w1.heap.size := by omega); (try have hl1_3 : w.heap.size + 1 + 1 + 1 < w1.heap.size := by omega); (try have hm1_3 : w.heap.size + 1 + 1 + 1 ≤ w1.heap.size := by omega)) | ((with_reducible refine region_draws ?_); go_quiet (fail)))
    refine bodyPost_ret (v := Value.tuple #[.agg #[.int .i64 ((0, 0, 11)).1, .int .i64 ((0, 0, 11)).2.1, .string ⟨#[]⟩], .int .i64 ((0, 0, 11)).2.2]) (by simp [results, Try.results25, go_sem, *]) rfl ⟨by rw [Hr.out], ?_⟩
    repeat (first | exact Below.refl _ _ | assumption | refine Below.drew ?_ | refine below_drewN ?_ _ | refine Below.setCell ?_ (by first | exact Nat.le_refl _ | omega | (simp; done) | (simp; omega)) _ | refine Below.alloc ?_ (by first | exact Nat.le_refl _ | omega | (simp; done) | (simp; omega)) _ | refine Below.trans ?_ (Below.mono (by assumption) (by first | exact Nat.le_refl _ | omega | (simp; done) | (simp; omega))))
  have t3 : (ka != 1) = true := by simpa using k0
  go_wp2_with (first | (go_at_call 17; refine (rNum _ _).mono ?_; rintro e w1 ⟨rfl, hb1⟩; obtain ⟨hc1, hf1⟩ := bcell hb1; have hz1 := hb1.size; (try simp at hz1); obtain ⟨hl1, hm1⟩ := bsz hb1; (try have hl1_0 : w.heap.size < w1.heap.size := by omega); (try have hm1_0 : w.heap.size ≤ w1.heap.size := by omega); (try have hl1_1 : w.heap.size + 1 < w1.heap.size := by omega); (try have hm1_1 : w.heap.size + 1 ≤ w1.heap.size := by omega); (try have hl1_2 : w.heap.size + 1 + 1 < w1.heap.size := by omega); (try have hm1_2 : w.heap.size + 1 + 1 ≤ w1.heap.size := by omega); (try have hl1_3 : w.heap.size + 1 + 1 + 1 < w1.heap.size := by omega); (try have hm1_3 : w.heap.size + 1 + 1 + 1 ≤ w1.heap.size := by omega)) | ((with_reducible refine region_draws ?_); go_quiet (fail)))
  all_goals refine bodyPost_ret (v := Value.tuple #[.agg #[.int .i64 ((0, 0, 11)).1, .int .i64 ((0, 0, 11)).2.1, .string ⟨#[]⟩], .int .i64 ((0, 0, 11)).2.2]) (by simp [results, Try.results25, go_sem, *]) rfl ⟨by rw [Hr.out], ?_⟩
  all_goals repeat (first | exact Below.refl _ _ | assumption | refine Below.drew ?_ | refine below_drewN ?_ _ | refine Below.setCell ?_ (by first | exact Nat.le_refl _ | omega | (simp; done) | (simp; omega)) _ | refine Below.alloc ?_ (by first | exact Nat.le_refl _ | omega | (simp; done) | (simp; omega)) _ | refine Below.trans ?_ (Below.mono (by assumption) (by first | exact Nat.le_refl _ | omega | (simp; done) | (simp; omega))))

set_option maxHeartbeats 800000 in
theorem rArith_null45 (ka x : Int) (sx : ByteArray) (kb y : Int) (sy : ByteArray) (h0 : ka = 0 ∨ kb = 0) (w : World) :
    Calls Try.prog 25 #[.string ⟨#[45]⟩, Value.agg #[.int .i64 (ka), .int .i64 (x), .string (sx)], Value.agg #[.int .i64 (kb), .int .i64 (y), .string (sy)]] w (Ret (Value.tuple #[.agg #[.int .i64 (arithR (⟨#[45]⟩) ka x kb y).1, .int .i64 (arithR (⟨#[45]⟩) ka x kb y).2.1, .string ⟨#[]⟩], .int .i64 (arithR (⟨#[45]⟩) ka x kb y).2.2]) w) := by
  have hr : arithR (⟨#[45]⟩) ka x kb y = (0, 0, 0) := by unfold arithR; rw [if_neg (by decide), if_pos h0]
  have Hr := Lib.hid hr
  clear hr
  go_enter Try.func25, Try.ntmps25
  by_cases k0 : ka = 0
  · subst k0
    go_wp2_with (first | (go_at_call 17; refine (rNum _ _).mono ?_; rintro e w1 ⟨rfl, hb1⟩; obtain ⟨hc1, hf1⟩ := bcell hb1; have hz1 := hb1.size; (try simp at hz1); obtain ⟨hl1, hm1⟩ := bsz hb1; (try have hl1_0 : w.heap.size < w1.heap.size := by omega); (try have hm1_0 : w.heap.size ≤ w1.heap.size := by omega); (try have hl1_1 : w.heap.size + 1 < w1.heap.size := by omega); (try have hm1_1 : w.heap.size + 1 ≤ w1.heap.size := by omega); (try have hl1_2 : w.heap.size + 1 + 1 < w1.heap.size := by omega); (try have hm1_2 : w.heap.size + 1 + 1 ≤ w1.heap.size := by omega); (try have hl1_3 : w.heap.size + 1 + 1 + 1 < w1.heap.size := by omega); (try have hm1_3 : w.heap.size + 1 + 1 + 1 ≤ w1.heap.size := by omega)) | ((with_reducible refine region_draws ?_); go_quiet (fail)))
    refine bodyPost_ret (v := Value.tuple #[.agg #[.int .i64 ((0, 0, 0)).1, .int .i64 ((0, 0, 0)).2.1, .string ⟨#[]⟩], .int .i64 ((0, 0, 0)).2.2]) (by simp [results, Try.results25, go_sem, *]) rfl ⟨by rw [Hr.out], ?_⟩
    repeat (first | exact Below.refl _ _ | assumption | refine Below.drew ?_ | refine below_drewN ?_ _ | refine Below.setCell ?_ (by first | exact Nat.le_refl _ | omega | (simp; done) | (simp; omega)) _ | refine Below.alloc ?_ (by first | exact Nat.le_refl _ | omega | (simp; done) | (simp; omega)) _ | refine Below.trans ?_ (Below.mono (by assumption) (by first | exact Nat.le_refl _ | omega | (simp; done) | (simp; omega))))
  have k1 : kb = 0 := by omega
  subst k1
  have t1 : (ka == 0) = false := by simpa using k0
  go_wp2_with (first | (go_at_call 17; refine (rNum _ _).mono ?_; rintro e w1 ⟨rfl, hb1⟩; obtain ⟨hc1, hf1⟩ := bcell hb1; have hz1 := hb1.size; (try simp at hz1); obtain ⟨hl1, hm1⟩ := bsz hb1; (try have hl1_0 : w.heap.size < w1.heap.size := by omega); (try have hm1_0 : w.heap.size ≤ w1.heap.size := by omega); (try have hl1_1 : w.heap.size + 1 < w1.heap.size := by omega); (try have hm1_1 : w.heap.size + 1 ≤ w1.heap.size := by omega); (try have hl1_2 : w.heap.size + 1 + 1 < w1.heap.size := by omega); (try have hm1_2 : w.heap.size + 1 + 1 ≤ w1.heap.size := by omega); (try have hl1_3 : w.heap.size + 1 + 1 + 1 < w1.heap.size := by omega); (try have hm1_3 : w.heap.size + 1 + 1 + 1 ≤ w1.heap.size := by omega)) | ((with_reducible refine region_draws ?_); go_quiet (fail)))
  all_goals refine bodyPost_ret (v := Value.tuple #[.agg #[.int .i64 ((0, 0, 0)).1, .int .i64 ((0, 0, 0)).2.1, .string ⟨#[]⟩], .int .i64 ((0, 0, 0)).2.2]) (by simp [results, Try.results25, go_sem, *]) rfl ⟨by rw [Hr.out], ?_⟩
  all_goals repeat (first | exact Below.refl _ _ | assumption | refine Below.drew ?_ | refine below_drewN ?_ _ | refine Below.setCell ?_ (by first | exact Nat.le_refl _ | omega | (simp; done) | (simp; omega)) _ | refine Below.alloc ?_ (by first | exact Nat.le_refl _ | omega | (simp; done) | (simp; omega)) _ | refine Below.trans ?_ (Below.mono (by assumption) (by first | exact Nat.le_refl _ | omega | (simp; done) | (simp; omega))))

set_option maxHeartbeats 800000 in
theorem rArith_type45 (ka x : Int) (sx : ByteArray) (kb y : Int) (sy : ByteArray) (h0 : ka ≠ 0) (h1 : kb ≠ 0) (h2 : ka ≠ 1 ∨ kb ≠ 1) (w : World) :
    Calls Try.prog 25 #[.string ⟨#[45]⟩, Value.agg #[.int .i64 (ka), .int .i64 (x), .string (sx)], Value.agg #[.int .i64 (kb), .int .i64 (y), .string (sy)]] w (Ret (Value.tuple #[.agg #[.int .i64 (arithR (⟨#[45]⟩) ka x kb y).1, .int .i64 (arithR (⟨#[45]⟩) ka x kb y).2.1, .string ⟨#[]⟩], .int .i64 (arithR (⟨#[45]⟩) ka x kb y).2.2]) w) := by
  have t1 : (ka == 0) = false := by simpa using h0
  have t2 : (kb == 0) = false := by simpa using h1
  have hr : arithR (⟨#[45]⟩) ka x kb y = (0, 0, 11) := by unfold arithR; rw [if_neg (by decide), if_neg (by omega), if_pos h2]
  have Hr := Lib.hid hr
  clear hr
  go_enter Try.func25, Try.ntmps25
  by_cases k0 : ka = 1
  · subst k0
    have t3 : (kb != 1) = true := by simp; omega
    go_wp2_with (first | (go_at_call 17; refine (rNum _ _).mono ?_; rintro e w1 ⟨rfl, hb1⟩; obtain ⟨hc1, hf1⟩ := bcell hb1; have hz1 := hb1.size; (try simp at hz1); obtain ⟨hl1, hm1⟩ := bsz hb1; (try have hl1_0 : w.heap.size < w1.heap.size := by omega); (try have hm1_0 : w.heap.size ≤ w1.heap.size := by omega); (try have hl1_1 : w.heap.size + 1 < w1.heap.size := by omega); (try have hm1_1 : w.heap.size + 1 ≤ w1.heap.size := by omega); (try have hl1_2 : w.heap.size + 1 + 1 < w1.heap.size := by omega); (try have hm1_2 : w.heap.size + 1 + 1 ≤ w1.heap.size := by omega); (try have hl1_3 : w.heap.size + 1 + 1 + 1 < w1.heap.size := by omega); (try have hm1_3 : w.heap.size + 1 + 1 + 1 ≤ w1.heap.size := by omega)) | ((with_reducible refine region_draws ?_); go_quiet (fail)))
    refine bodyPost_ret (v := Value.tuple #[.agg #[.int .i64 ((0, 0, 11)).1, .int .i64 ((0, 0, 11)).2.1, .string ⟨#[]⟩], .int .i64 ((0, 0, 11)).2.2]) (by simp [results, Try.results25, go_sem, *]) rfl ⟨by rw [Hr.out], ?_⟩
    repeat (first | exact Below.refl _ _ | assumption | refine Below.drew ?_ | refine below_drewN ?_ _ | refine Below.setCell ?_ (by first | exact Nat.le_refl _ | omega | (simp; done) | (simp; omega)) _ | refine Below.alloc ?_ (by first | exact Nat.le_refl _ | omega | (simp; done) | (simp; omega)) _ | refine Below.trans ?_ (Below.mono (by assumption) (by first | exact Nat.le_refl _ | omega | (simp; done) | (simp; omega))))
  have t3 : (ka != 1) = true := by simpa using k0
  go_wp2_with (first | (go_at_call 17; refine (rNum _ _).mono ?_; rintro e w1 ⟨rfl, hb1⟩; obtain ⟨hc1, hf1⟩ := bcell hb1; have hz1 := hb1.size; (try simp at hz1); obtain ⟨hl1, hm1⟩ := bsz hb1; (try have hl1_0 : w.heap.size < w1.heap.size := by omega); (try have hm1_0 : w.heap.size ≤ w1.heap.size := by omega); (try have hl1_1 : w.heap.size + 1 < w1.heap.size := by omega); (try have hm1_1 : w.heap.size + 1 ≤ w1.heap.size := by omega); (try have hl1_2 : w.heap.size + 1 + 1 < w1.heap.size := by omega); (try have hm1_2 : w.heap.size + 1 + 1 ≤ w1.heap.size := by omega); (try have hl1_3 : w.heap.size + 1 + 1 + 1 < w1.heap.size := by omega); (try have hm1_3 : w.heap.size + 1 + 1 + 1 ≤ w1.heap.size := by omega)) | ((with_reducible refine region_draws ?_); go_quiet (fail)))
  all_goals refine bodyPost_ret (v := Value.tuple #[.agg #[.int .i64 ((0, 0, 11)).1, .int .i64 ((0, 0, 11)).2.1, .string ⟨#[]⟩], .int .i64 ((0, 0, 11)).2.2]) (by simp [results, Try.results25, go_sem, *]) rfl ⟨by rw [Hr.out], ?_⟩
  all_goals repeat (first | exact Below.refl _ _ | assumption | refine Below.drew ?_ | refine below_drewN ?_ _ | refine Below.setCell ?_ (by first | exact Nat.le_refl _ | omega | (simp; done) | (simp; omega)) _ | refine Below.alloc ?_ (by first | exact Nat.le_refl _ | omega | (simp; done) | (simp; omega)) _ | refine Below.trans ?_ (Below.mono (by assumption) (by first | exact Nat.le_refl _ | omega | (simp; done) | (simp; omega))))

set_option maxHeartbeats 800000 in
theorem rArith_null42 (ka x : Int) (sx : ByteArray) (kb y : Int) (sy : ByteArray) (h0 : ka = 0 ∨ kb = 0) (w : World) :
    Calls Try.prog 25 #[.string ⟨#[42]⟩, Value.agg #[.int .i64 (ka), .int .i64 (x), .string (sx)], Value.agg #[.int .i64 (kb), .int .i64 (y), .string (sy)]] w (Ret (Value.tuple #[.agg #[.int .i64 (arithR (⟨#[42]⟩) ka x kb y).1, .int .i64 (arithR (⟨#[42]⟩) ka x kb y).2.1, .string ⟨#[]⟩], .int .i64 (arithR (⟨#[42]⟩) ka x kb y).2.2]) w) := by
  have hr : arithR (⟨#[42]⟩) ka x kb y = (0, 0, 0) := by unfold arithR; rw [if_neg (by decide), if_pos h0]
  have Hr := Lib.hid hr
  clear hr
  go_enter Try.func25, Try.ntmps25
  by_cases k0 : ka = 0
  · subst k0
    go_wp2_with (first | (go_at_call 17; refine (rNum _ _).mono ?_; rintro e w1 ⟨rfl, hb1⟩; obtain ⟨hc1, hf1⟩ := bcell hb1; have hz1 := hb1.size; (try simp at hz1); obtain ⟨hl1, hm1⟩ := bsz hb1; (try have hl1_0 : w.heap.size < w1.heap.size := by omega); (try have hm1_0 : w.heap.size ≤ w1.heap.size := by omega); (try have hl1_1 : w.heap.size + 1 < w1.heap.size := by omega); (try have hm1_1 : w.heap.size + 1 ≤ w1.heap.size := by omega); (try have hl1_2 : w.heap.size + 1 + 1 < w1.heap.size := by omega); (try have hm1_2 : w.heap.size + 1 + 1 ≤ w1.heap.size := by omega); (try have hl1_3 : w.heap.size + 1 + 1 + 1 < w1.heap.size := by omega); (try have hm1_3 : w.heap.size + 1 + 1 + 1 ≤ w1.heap.size := by omega)) | ((with_reducible refine region_draws ?_); go_quiet (fail)))
    refine bodyPost_ret (v := Value.tuple #[.agg #[.int .i64 ((0, 0, 0)).1, .int .i64 ((0, 0, 0)).2.1, .string ⟨#[]⟩], .int .i64 ((0, 0, 0)).2.2]) (by simp [results, Try.results25, go_sem, *]) rfl ⟨by rw [Hr.out], ?_⟩
    repeat (first | exact Below.refl _ _ | assumption | refine Below.drew ?_ | refine below_drewN ?_ _ | refine Below.setCell ?_ (by first | exact Nat.le_refl _ | omega | (simp; done) | (simp; omega)) _ | refine Below.alloc ?_ (by first | exact Nat.le_refl _ | omega | (simp; done) | (simp; omega)) _ | refine Below.trans ?_ (Below.mono (by assumption) (by first | exact Nat.le_refl _ | omega | (simp; done) | (simp; omega))))
  have k1 : kb = 0 := by omega
  subst k1
  have t1 : (ka == 0) = false := by simpa using k0
  go_wp2_with (first | (go_at_call 17; refine (rNum _ _).mono ?_; rintro e w1 ⟨rfl, hb1⟩; obtain ⟨hc1, hf1⟩ := bcell hb1; have hz1 := hb1.size; (try simp at hz1); obtain ⟨hl1, hm1⟩ := bsz hb1; (try have hl1_0 : w.heap.size < w1.heap.size := by omega); (try have hm1_0 : w.heap.size ≤ w1.heap.size := by omega); (try have hl1_1 : w.heap.size + 1 < w1.heap.size := by omega); (try have hm1_1 : w.heap.size + 1 ≤ w1.heap.size := by omega); (try have hl1_2 : w.heap.size + 1 + 1 < w1.heap.size := by omega); (try have hm1_2 : w.heap.size + 1 + 1 ≤ w1.heap.size := by omega); (try have hl1_3 : w.heap.size + 1 + 1 + 1 < w1.heap.size := by omega); (try have hm1_3 : w.heap.size + 1 + 1 + 1 ≤ w1.heap.size := by omega)) | ((with_reducible refine region_draws ?_); go_quiet (fail)))
  all_goals refine bodyPost_ret (v := Value.tuple #[.agg #[.int .i64 ((0, 0, 0)).1, .int .i64 ((0, 0, 0)).2.1, .string ⟨#[]⟩], .int .i64 ((0, 0, 0)).2.2]) (by simp [results, Try.results25, go_sem, *]) rfl ⟨by rw [Hr.out], ?_⟩
  all_goals repeat (first | exact Below.refl _ _ | assumption | refine Below.drew ?_ | refine below_drewN ?_ _ | refine Below.setCell ?_ (by first | exact Nat.le_refl _ | omega | (simp; done) | (simp; omega)) _ | refine Below.alloc ?_ (by first | exact Nat.le_refl _ | omega | (simp; done) | (simp; omega)) _ | refine Below.trans ?_ (Below.mono (by assumption) (by first | exact Nat.le_refl _ | omega | (simp; done) | (simp; omega))))

set_option maxHeartbeats 800000 in
theorem rArith_type42 (ka x : Int) (sx : ByteArray) (kb y : Int) (sy : ByteArray) (h0 : ka ≠ 0) (h1 : kb ≠ 0) (h2 : ka ≠ 1 ∨ kb ≠ 1) (w : World) :
    Calls Try.prog 25 #[.string ⟨#[42]⟩, Value.agg #[.int .i64 (ka), .int .i64 (x), .string (sx)], Value.agg #[.int .i64 (kb), .int .i64 (y), .string (sy)]] w (Ret (Value.tuple #[.agg #[.int .i64 (arithR (⟨#[42]⟩) ka x kb y).1, .int .i64 (arithR (⟨#[42]⟩) ka x kb y).2.1, .string ⟨#[]⟩], .int .i64 (arithR (⟨#[42]⟩) ka x kb y).2.2]) w) := by
  have t1 : (ka == 0) = false := by simpa using h0
  have t2 : (kb == 0) = false := by simpa using h1
  have hr : arithR (⟨#[42]⟩) ka x kb y = (0, 0, 11) := by unfold arithR; rw [if_neg (by decide), if_neg (by omega), if_pos h2]
  have Hr := Lib.hid hr
  clear hr
  go_enter Try.func25, Try.ntmps25
  by_cases k0 : ka = 1
  · subst k0
    have t3 : (kb != 1) = true := by simp; omega
    go_wp2_with (first | (go_at_call 17; refine (rNum _ _).mono ?_; rintro e w1 ⟨rfl, hb1⟩; obtain ⟨hc1, hf1⟩ := bcell hb1; have hz1 := hb1.size; (try simp at hz1); obtain ⟨hl1, hm1⟩ := bsz hb1; (try have hl1_0 : w.heap.size < w1.heap.size := by omega); (try have hm1_0 : w.heap.size ≤ w1.heap.size := by omega); (try have hl1_1 : w.heap.size + 1 < w1.heap.size := by omega); (try have hm1_1 : w.heap.size + 1 ≤ w1.heap.size := by omega); (try have hl1_2 : w.heap.size + 1 + 1 < w1.heap.size := by omega); (try have hm1_2 : w.heap.size + 1 + 1 ≤ w1.heap.size := by omega); (try have hl1_3 : w.heap.size + 1 + 1 + 1 < w1.heap.size := by omega); (try have hm1_3 : w.heap.size + 1 + 1 + 1 ≤ w1.heap.size := by omega)) | ((with_reducible refine region_draws ?_); go_quiet (fail)))
    refine bodyPost_ret (v := Value.tuple #[.agg #[.int .i64 ((0, 0, 11)).1, .int .i64 ((0, 0, 11)).2.1, .string ⟨#[]⟩], .int .i64 ((0, 0, 11)).2.2]) (by simp [results, Try.results25, go_sem, *]) rfl ⟨by rw [Hr.out], ?_⟩
    repeat (first | exact Below.refl _ _ | assumption | refine Below.drew ?_ | refine below_drewN ?_ _ | refine Below.setCell ?_ (by first | exact Nat.le_refl _ | omega | (simp; done) | (simp; omega)) _ | refine Below.alloc ?_ (by first | exact Nat.le_refl _ | omega | (simp; done) | (simp; omega)) _ | refine Below.trans ?_ (Below.mono (by assumption) (by first | exact Nat.le_refl _ | omega | (simp; done) | (simp; omega))))
  have t3 : (ka != 1) = true := by simpa using k0
  go_wp2_with (first | (go_at_call 17; refine (rNum _ _).mono ?_; rintro e w1 ⟨rfl, hb1⟩; obtain ⟨hc1, hf1⟩ := bcell hb1; have hz1 := hb1.size; (try simp at hz1); obtain ⟨hl1, hm1⟩ := bsz hb1; (try have hl1_0 : w.heap.size < w1.heap.size := by omega); (try have hm1_0 : w.heap.size ≤ w1.heap.size := by omega); (try have hl1_1 : w.heap.size + 1 < w1.heap.size := by omega); (try have hm1_1 : w.heap.size + 1 ≤ w1.heap.size := by omega); (try have hl1_2 : w.heap.size + 1 + 1 < w1.heap.size := by omega); (try have hm1_2 : w.heap.size + 1 + 1 ≤ w1.heap.size := by omega); (try have hl1_3 : w.heap.size + 1 + 1 + 1 < w1.heap.size := by omega); (try have hm1_3 : w.heap.size + 1 + 1 + 1 ≤ w1.heap.size := by omega)) | ((with_reducible refine region_draws ?_); go_quiet (fail)))
  all_goals refine bodyPost_ret (v := Value.tuple #[.agg #[.int .i64 ((0, 0, 11)).1, .int .i64 ((0, 0, 11)).2.1, .string ⟨#[]⟩], .int .i64 ((0, 0, 11)).2.2]) (by simp [results, Try.results25, go_sem, *]) rfl ⟨by rw [Hr.out], ?_⟩
  all_goals repeat (first | exact Below.refl _ _ | assumption | refine Below.drew ?_ | refine below_drewN ?_ _ | refine Below.setCell ?_ (by first | exact Nat.le_refl _ | omega | (simp; done) | (simp; omega)) _ | refine Below.alloc ?_ (by first | exact Nat.le_refl _ | omega | (simp; done) | (simp; omega)) _ | refine Below.trans ?_ (Below.mono (by assumption) (by first | exact Nat.le_refl _ | omega | (simp; done) | (simp; omega))))

set_option maxHeartbeats 800000 in
theorem rArith_null47 (ka x : Int) (sx : ByteArray) (kb y : Int) (sy : ByteArray) (h0 : ka = 0 ∨ kb = 0) (w : World) :
    Calls Try.prog 25 #[.string ⟨#[47]⟩, Value.agg #[.int .i64 (ka), .int .i64 (x), .string (sx)], Value.agg #[.int .i64 (kb), .int .i64 (y), .string (sy)]] w (Ret (Value.tuple #[.agg #[.int .i64 (arithR (⟨#[47]⟩) ka x kb y).1, .int .i64 (arithR (⟨#[47]⟩) ka x kb y).2.1, .string ⟨#[]⟩], .int .i64 (arithR (⟨#[47]⟩) ka x kb y).2.2]) w) := by
  have hr : arithR (⟨#[47]⟩) ka x kb y = (0, 0, 0) := by unfold arithR; rw [if_neg (by decide), if_pos h0]
  have Hr := Lib.hid hr
  clear hr
  go_enter Try.func25, Try.ntmps25
  by_cases k0 : ka = 0
  · subst k0
    go_wp2_with (first | (go_at_call 17; refine (rNum _ _).mono ?_; rintro e w1 ⟨rfl, hb1⟩; obtain ⟨hc1, hf1⟩ := bcell hb1; have hz1 := hb1.size; (try simp at hz1); obtain ⟨hl1, hm1⟩ := bsz hb1; (try have hl1_0 : w.heap.size < w1.heap.size := by omega); (try have hm1_0 : w.heap.size ≤ w1.heap.size := by omega); (try have hl1_1 : w.heap.size + 1 < w1.heap.size := by omega); (try have hm1_1 : w.heap.size + 1 ≤ w1.heap.size := by omega); (try have hl1_2 : w.heap.size + 1 + 1 < w1.heap.size := by omega); (try have hm1_2 : w.heap.size + 1 + 1 ≤ w1.heap.size := by omega); (try have hl1_3 : w.heap.size + 1 + 1 + 1 < w1.heap.size := by omega); (try have hm1_3 : w.heap.size + 1 + 1 + 1 ≤ w1.heap.size := by omega)) | ((with_reducible refine region_draws ?_); go_quiet (fail)))
    refine bodyPost_ret (v := Value.tuple #[.agg #[.int .i64 ((0, 0, 0)).1, .int .i64 ((0, 0, 0)).2.1, .string ⟨#[]⟩], .int .i64 ((0, 0, 0)).2.2]) (by simp [results, Try.results25, go_sem, *]) rfl ⟨by rw [Hr.out], ?_⟩
    repeat (first | exact Below.refl _ _ | assumption | refine Below.drew ?_ | refine below_drewN ?_ _ | refine Below.setCell ?_ (by first | exact Nat.le_refl _ | omega | (simp; done) | (simp; omega)) _ | refine Below.alloc ?_ (by first | exact Nat.le_refl _ | omega | (simp; done) | (simp; omega)) _ | refine Below.trans ?_ (Below.mono (by assumption) (by first | exact Nat.le_refl _ | omega | (simp; done) | (simp; omega))))
  have k1 : kb = 0 := by omega
  subst k1
  have t1 : (ka == 0) = false := by simpa using k0
  go_wp2_with (first | (go_at_call 17; refine (rNum _ _).mono ?_; rintro e w1 ⟨rfl, hb1⟩; obtain ⟨hc1, hf1⟩ := bcell hb1; have hz1 := hb1.size; (try simp at hz1); obtain ⟨hl1, hm1⟩ := bsz hb1; (try have hl1_0 : w.heap.size < w1.heap.size := by omega); (try have hm1_0 : w.heap.size ≤ w1.heap.size := by omega); (try have hl1_1 : w.heap.size + 1 < w1.heap.size := by omega); (try have hm1_1 : w.heap.size + 1 ≤ w1.heap.size := by omega); (try have hl1_2 : w.heap.size + 1 + 1 < w1.heap.size := by omega); (try have hm1_2 : w.heap.size + 1 + 1 ≤ w1.heap.size := by omega); (try have hl1_3 : w.heap.size + 1 + 1 + 1 < w1.heap.size := by omega); (try have hm1_3 : w.heap.size + 1 + 1 + 1 ≤ w1.heap.size := by omega)) | ((with_reducible refine region_draws ?_); go_quiet (fail)))
  all_goals refine bodyPost_ret (v := Value.tuple #[.agg #[.int .i64 ((0, 0, 0)).1, .int .i64 ((0, 0, 0)).2.1, .string ⟨#[]⟩], .int .i64 ((0, 0, 0)).2.2]) (by simp [results, Try.results25, go_sem, *]) rfl ⟨by rw [Hr.out], ?_⟩
  all_goals repeat (first | exact Below.refl _ _ | assumption | refine Below.drew ?_ | refine below_drewN ?_ _ | refine Below.setCell ?_ (by first | exact Nat.le_refl _ | omega | (simp; done) | (simp; omega)) _ | refine Below.alloc ?_ (by first | exact Nat.le_refl _ | omega | (simp; done) | (simp; omega)) _ | refine Below.trans ?_ (Below.mono (by assumption) (by first | exact Nat.le_refl _ | omega | (simp; done) | (simp; omega))))

set_option maxHeartbeats 800000 in
theorem rArith_type47 (ka x : Int) (sx : ByteArray) (kb y : Int) (sy : ByteArray) (h0 : ka ≠ 0) (h1 : kb ≠ 0) (h2 : ka ≠ 1 ∨ kb ≠ 1) (w : World) :
    Calls Try.prog 25 #[.string ⟨#[47]⟩, Value.agg #[.int .i64 (ka), .int .i64 (x), .string (sx)], Value.agg #[.int .i64 (kb), .int .i64 (y), .string (sy)]] w (Ret (Value.tuple #[.agg #[.int .i64 (arithR (⟨#[47]⟩) ka x kb y).1, .int .i64 (arithR (⟨#[47]⟩) ka x kb y).2.1, .string ⟨#[]⟩], .int .i64 (arithR (⟨#[47]⟩) ka x kb y).2.2]) w) := by
  have t1 : (ka == 0) = false := by simpa using h0
  have t2 : (kb == 0) = false := by simpa using h1
  have hr : arithR (⟨#[47]⟩) ka x kb y = (0, 0, 11) := by unfold arithR; rw [if_neg (by decide), if_neg (by omega), if_pos h2]
  have Hr := Lib.hid hr
  clear hr
  go_enter Try.func25, Try.ntmps25
  by_cases k0 : ka = 1
  · subst k0
    have t3 : (kb != 1) = true := by simp; omega
    go_wp2_with (first | (go_at_call 17; refine (rNum _ _).mono ?_; rintro e w1 ⟨rfl, hb1⟩; obtain ⟨hc1, hf1⟩ := bcell hb1; have hz1 := hb1.size; (try simp at hz1); obtain ⟨hl1, hm1⟩ := bsz hb1; (try have hl1_0 : w.heap.size < w1.heap.size := by omega); (try have hm1_0 : w.heap.size ≤ w1.heap.size := by omega); (try have hl1_1 : w.heap.size + 1 < w1.heap.size := by omega); (try have hm1_1 : w.heap.size + 1 ≤ w1.heap.size := by omega); (try have hl1_2 : w.heap.size + 1 + 1 < w1.heap.size := by omega); (try have hm1_2 : w.heap.size + 1 + 1 ≤ w1.heap.size := by omega); (try have hl1_3 : w.heap.size + 1 + 1 + 1 < w1.heap.size := by omega); (try have hm1_3 : w.heap.size + 1 + 1 + 1 ≤ w1.heap.size := by omega)) | ((with_reducible refine region_draws ?_); go_quiet (fail)))
    refine bodyPost_ret (v := Value.tuple #[.agg #[.int .i64 ((0, 0, 11)).1, .int .i64 ((0, 0, 11)).2.1, .string ⟨#[]⟩], .int .i64 ((0, 0, 11)).2.2]) (by simp [results, Try.results25, go_sem, *]) rfl ⟨by rw [Hr.out], ?_⟩
    repeat (first | exact Below.refl _ _ | assumption | refine Below.drew ?_ | refine below_drewN ?_ _ | refine Below.setCell ?_ (by first | exact Nat.le_refl _ | omega | (simp; done) | (simp; omega)) _ | refine Below.alloc ?_ (by first | exact Nat.le_refl _ | omega | (simp; done) | (simp; omega)) _ | refine Below.trans ?_ (Below.mono (by assumption) (by first | exact Nat.le_refl _ | omega | (simp; done) | (simp; omega))))
  have t3 : (ka != 1) = true := by simpa using k0
  go_wp2_with (first | (go_at_call 17; refine (rNum _ _).mono ?_; rintro e w1 ⟨rfl, hb1⟩; obtain ⟨hc1, hf1⟩ := bcell hb1; have hz1 := hb1.size; (try simp at hz1); obtain ⟨hl1, hm1⟩ := bsz hb1; (try have hl1_0 : w.heap.size < w1.heap.size := by omega); (try have hm1_0 : w.heap.size ≤ w1.heap.size := by omega); (try have hl1_1 : w.heap.size + 1 < w1.heap.size := by omega); (try have hm1_1 : w.heap.size + 1 ≤ w1.heap.size := by omega); (try have hl1_2 : w.heap.size + 1 + 1 < w1.heap.size := by omega); (try have hm1_2 : w.heap.size + 1 + 1 ≤ w1.heap.size := by omega); (try have hl1_3 : w.heap.size + 1 + 1 + 1 < w1.heap.size := by omega); (try have hm1_3 : w.heap.size + 1 + 1 + 1 ≤ w1.heap.size := by omega)) | ((with_reducible refine region_draws ?_); go_quiet (fail)))
  all_goals refine bodyPost_ret (v := Value.tuple #[.agg #[.int .i64 ((0, 0, 11)).1, .int .i64 ((0, 0, 11)).2.1, .string ⟨#[]⟩], .int .i64 ((0, 0, 11)).2.2]) (by simp [results, Try.results25, go_sem, *]) rfl ⟨by rw [Hr.out], ?_⟩
  all_goals repeat (first | exact Below.refl _ _ | assumption | refine Below.drew ?_ | refine below_drewN ?_ _ | refine Below.setCell ?_ (by first | exact Nat.le_refl _ | omega | (simp; done) | (simp; omega)) _ | refine Below.alloc ?_ (by first | exact Nat.le_refl _ | omega | (simp; done) | (simp; omega)) _ | refine Below.trans ?_ (Below.mono (by assumption) (by first | exact Nat.le_refl _ | omega | (simp; done) | (simp; omega))))

set_option maxHeartbeats 800000 in
theorem rArith_null37 (ka x : Int) (sx : ByteArray) (kb y : Int) (sy : ByteArray) (h0 : ka = 0 ∨ kb = 0) (w : World) :
    Calls Try.prog 25 #[.string ⟨#[37]⟩, Value.agg #[.int .i64 (ka), .int .i64 (x), .string (sx)], Value.agg #[.int .i64 (kb), .int .i64 (y), .string (sy)]] w (Ret (Value.tuple #[.agg #[.int .i64 (arithR (⟨#[37]⟩) ka x kb y).1, .int .i64 (arithR (⟨#[37]⟩) ka x kb y).2.1, .string ⟨#[]⟩], .int .i64 (arithR (⟨#[37]⟩) ka x kb y).2.2]) w) := by
  have hr : arithR (⟨#[37]⟩) ka x kb y = (0, 0, 0) := by unfold arithR; rw [if_neg (by decide), if_pos h0]
  have Hr := Lib.hid hr
  clear hr
  go_enter Try.func25, Try.ntmps25
  by_cases k0 : ka = 0
  · subst k0
    go_wp2_with (first | (go_at_call 17; refine (rNum _ _).mono ?_; rintro e w1 ⟨rfl, hb1⟩; obtain ⟨hc1, hf1⟩ := bcell hb1; have hz1 := hb1.size; (try simp at hz1); obtain ⟨hl1, hm1⟩ := bsz hb1; (try have hl1_0 : w.heap.size < w1.heap.size := by omega); (try have hm1_0 : w.heap.size ≤ w1.heap.size := by omega); (try have hl1_1 : w.heap.size + 1 < w1.heap.size := by omega); (try have hm1_1 : w.heap.size + 1 ≤ w1.heap.size := by omega); (try have hl1_2 : w.heap.size + 1 + 1 < w1.heap.size := by omega); (try have hm1_2 : w.heap.size + 1 + 1 ≤ w1.heap.size := by omega); (try have hl1_3 : w.heap.size + 1 + 1 + 1 < w1.heap.size := by omega); (try have hm1_3 : w.heap.size + 1 + 1 + 1 ≤ w1.heap.size := by omega)) | ((with_reducible refine region_draws ?_); go_quiet (fail)))
    refine bodyPost_ret (v := Value.tuple #[.agg #[.int .i64 ((0, 0, 0)).1, .int .i64 ((0, 0, 0)).2.1, .string ⟨#[]⟩], .int .i64 ((0, 0, 0)).2.2]) (by simp [results, Try.results25, go_sem, *]) rfl ⟨by rw [Hr.out], ?_⟩
    repeat (first | exact Below.refl _ _ | assumption | refine Below.drew ?_ | refine below_drewN ?_ _ | refine Below.setCell ?_ (by first | exact Nat.le_refl _ | omega | (simp; done) | (simp; omega)) _ | refine Below.alloc ?_ (by first | exact Nat.le_refl _ | omega | (simp; done) | (simp; omega)) _ | refine Below.trans ?_ (Below.mono (by assumption) (by first | exact Nat.le_refl _ | omega | (simp; done) | (simp; omega))))
  have k1 : kb = 0 := by omega
  subst k1
  have t1 : (ka == 0) = false := by simpa using k0
  go_wp2_with (first | (go_at_call 17; refine (rNum _ _).mono ?_; rintro e w1 ⟨rfl, hb1⟩; obtain ⟨hc1, hf1⟩ := bcell hb1; have hz1 := hb1.size; (try simp at hz1); obtain ⟨hl1, hm1⟩ := bsz hb1; (try have hl1_0 : w.heap.size < w1.heap.size := by omega); (try have hm1_0 : w.heap.size ≤ w1.heap.size := by omega); (try have hl1_1 : w.heap.size + 1 < w1.heap.size := by omega); (try have hm1_1 : w.heap.size + 1 ≤ w1.heap.size := by omega); (try have hl1_2 : w.heap.size + 1 + 1 < w1.heap.size := by omega); (try have hm1_2 : w.heap.size + 1 + 1 ≤ w1.heap.size := by omega); (try have hl1_3 : w.heap.size + 1 + 1 + 1 < w1.heap.size := by omega); (try have hm1_3 : w.heap.size + 1 + 1 + 1 ≤ w1.heap.size := by omega)) | ((with_reducible refine region_draws ?_); go_quiet (fail)))
  all_goals refine bodyPost_ret (v := Value.tuple #[.agg #[.int .i64 ((0, 0, 0)).1, .int .i64 ((0, 0, 0)).2.1, .string ⟨#[]⟩], .int .i64 ((0, 0, 0)).2.2]) (by simp [results, Try.results25, go_sem, *]) rfl ⟨by rw [Hr.out], ?_⟩
  all_goals repeat (first | exact Below.refl _ _ | assumption | refine Below.drew ?_ | refine below_drewN ?_ _ | refine Below.setCell ?_ (by first | exact Nat.le_refl _ | omega | (simp; done) | (simp; omega)) _ | refine Below.alloc ?_ (by first | exact Nat.le_refl _ | omega | (simp; done) | (simp; omega)) _ | refine Below.trans ?_ (Below.mono (by assumption) (by first | exact Nat.le_refl _ | omega | (simp; done) | (simp; omega))))

set_option maxHeartbeats 800000 in
theorem rArith_type37 (ka x : Int) (sx : ByteArray) (kb y : Int) (sy : ByteArray) (h0 : ka ≠ 0) (h1 : kb ≠ 0) (h2 : ka ≠ 1 ∨ kb ≠ 1) (w : World) :
    Calls Try.prog 25 #[.string ⟨#[37]⟩, Value.agg #[.int .i64 (ka), .int .i64 (x), .string (sx)], Value.agg #[.int .i64 (kb), .int .i64 (y), .string (sy)]] w (Ret (Value.tuple #[.agg #[.int .i64 (arithR (⟨#[37]⟩) ka x kb y).1, .int .i64 (arithR (⟨#[37]⟩) ka x kb y).2.1, .string ⟨#[]⟩], .int .i64 (arithR (⟨#[37]⟩) ka x kb y).2.2]) w) := by
  have t1 : (ka == 0) = false := by simpa using h0
  have t2 : (kb == 0) = false := by simpa using h1
  have hr : arithR (⟨#[37]⟩) ka x kb y = (0, 0, 11) := by unfold arithR; rw [if_neg (by decide), if_neg (by omega), if_pos h2]
  have Hr := Lib.hid hr
  clear hr
  go_enter Try.func25, Try.ntmps25
  by_cases k0 : ka = 1
  · subst k0
    have t3 : (kb != 1) = true := by simp; omega
    go_wp2_with (first | (go_at_call 17; refine (rNum _ _).mono ?_; rintro e w1 ⟨rfl, hb1⟩; obtain ⟨hc1, hf1⟩ := bcell hb1; have hz1 := hb1.size; (try simp at hz1); obtain ⟨hl1, hm1⟩ := bsz hb1; (try have hl1_0 : w.heap.size < w1.heap.size := by omega); (try have hm1_0 : w.heap.size ≤ w1.heap.size := by omega); (try have hl1_1 : w.heap.size + 1 < w1.heap.size := by omega); (try have hm1_1 : w.heap.size + 1 ≤ w1.heap.size := by omega); (try have hl1_2 : w.heap.size + 1 + 1 < w1.heap.size := by omega); (try have hm1_2 : w.heap.size + 1 + 1 ≤ w1.heap.size := by omega); (try have hl1_3 : w.heap.size + 1 + 1 + 1 < w1.heap.size := by omega); (try have hm1_3 : w.heap.size + 1 + 1 + 1 ≤ w1.heap.size := by omega)) | ((with_reducible refine region_draws ?_); go_quiet (fail)))
    refine bodyPost_ret (v := Value.tuple #[.agg #[.int .i64 ((0, 0, 11)).1, .int .i64 ((0, 0, 11)).2.1, .string ⟨#[]⟩], .int .i64 ((0, 0, 11)).2.2]) (by simp [results, Try.results25, go_sem, *]) rfl ⟨by rw [Hr.out], ?_⟩
    repeat (first | exact Below.refl _ _ | assumption | refine Below.drew ?_ | refine below_drewN ?_ _ | refine Below.setCell ?_ (by first | exact Nat.le_refl _ | omega | (simp; done) | (simp; omega)) _ | refine Below.alloc ?_ (by first | exact Nat.le_refl _ | omega | (simp; done) | (simp; omega)) _ | refine Below.trans ?_ (Below.mono (by assumption) (by first | exact Nat.le_refl _ | omega | (simp; done) | (simp; omega))))
  have t3 : (ka != 1) = true := by simpa using k0
  go_wp2_with (first | (go_at_call 17; refine (rNum _ _).mono ?_; rintro e w1 ⟨rfl, hb1⟩; obtain ⟨hc1, hf1⟩ := bcell hb1; have hz1 := hb1.size; (try simp at hz1); obtain ⟨hl1, hm1⟩ := bsz hb1; (try have hl1_0 : w.heap.size < w1.heap.size := by omega); (try have hm1_0 : w.heap.size ≤ w1.heap.size := by omega); (try have hl1_1 : w.heap.size + 1 < w1.heap.size := by omega); (try have hm1_1 : w.heap.size + 1 ≤ w1.heap.size := by omega); (try have hl1_2 : w.heap.size + 1 + 1 < w1.heap.size := by omega); (try have hm1_2 : w.heap.size + 1 + 1 ≤ w1.heap.size := by omega); (try have hl1_3 : w.heap.size + 1 + 1 + 1 < w1.heap.size := by omega); (try have hm1_3 : w.heap.size + 1 + 1 + 1 ≤ w1.heap.size := by omega)) | ((with_reducible refine region_draws ?_); go_quiet (fail)))
  all_goals refine bodyPost_ret (v := Value.tuple #[.agg #[.int .i64 ((0, 0, 11)).1, .int .i64 ((0, 0, 11)).2.1, .string ⟨#[]⟩], .int .i64 ((0, 0, 11)).2.2]) (by simp [results, Try.results25, go_sem, *]) rfl ⟨by rw [Hr.out], ?_⟩
  all_goals repeat (first | exact Below.refl _ _ | assumption | refine Below.drew ?_ | refine below_drewN ?_ _ | refine Below.setCell ?_ (by first | exact Nat.le_refl _ | omega | (simp; done) | (simp; omega)) _ | refine Below.alloc ?_ (by first | exact Nat.le_refl _ | omega | (simp; done) | (simp; omega)) _ | refine Below.trans ?_ (Below.mono (by assumption) (by first | exact Nat.le_refl _ | omega | (simp; done) | (simp; omega))))

theorem vArith (op : ByteArray) (ka x : Int) (sx : ByteArray) (kb y : Int) (sy : ByteArray) (hx : -9223372036854775808 ≤ x ∧ x ≤ 9223372036854775807) (hy : -9223372036854775808 ≤ y ∧ y ≤ 9223372036854775807) (w : World) :
    Calls Try.prog 24 #[.string op, Value.agg #[.int .i64 (ka), .int .i64 (x), .string (sx)], Value.agg #[.int .i64 (kb), .int .i64 (y), .string (sy)]] w (Ret (Value.tuple #[.agg #[.int .i64 (arithR op ka x kb y).1, .int .i64 (arithR op ka x kb y).2.1, .string ⟨#[]⟩], .int .i64 (arithR op ka x kb y).2.2]) w) := by
  cases ho : opOk op
  · by_cases hs : op.size = 1
    · obtain ⟨c, rfl⟩ := ba_one op hs
      exact vArith_bad _ _ _ _ _ _ _ ho _
    · exact vArith_len _ _ _ _ _ _ _ hs _
  by_cases h0 : ka = 0 ∨ kb = 0
  · rcases opOk_cases op ho with rfl | rfl | rfl | rfl | rfl
    · exact vArith_null _ _ _ _ _ _ _ ho h0 _
    · exact vArith_null _ _ _ _ _ _ _ ho h0 _
    · exact vArith_null _ _ _ _ _ _ _ ho h0 _
    · exact vArith_null _ _ _ _ _ _ _ ho h0 _
    · exact vArith_null _ _ _ _ _ _ _ ho h0 _
  by_cases h1 : ka ≠ 1 ∨ kb ≠ 1
  · rcases opOk_cases op ho with rfl | rfl | rfl | rfl | rfl
    · exact vArith_type _ _ _ _ _ _ _ ho (by omega) (by omega) h1 _
    · exact vArith_type _ _ _ _ _ _ _ ho (by omega) (by omega) h1 _
    · exact vArith_type _ _ _ _ _ _ _ ho (by omega) (by omega) h1 _
    · exact vArith_type _ _ _ _ _ _ _ ho (by omega) (by omega) h1 _
    · exact vArith_type _ _ _ _ _ _ _ ho (by omega) (by omega) h1 _
  obtain rfl : ka = 1 := by omega
  obtain rfl : kb = 1 := by omega
  rcases opOk_cases op ho with rfl | rfl | rfl | rfl | rfl
  · exact vArith_add x y sx sy hx hy w
  · exact vArith_sub x y sx sy hx hy w
  · exact vArith_mul x y sx sy hx hy w
  · exact vArith_quo x y sx sy hx hy w
  · exact vArith_rem x y sx sy hx hy w

theorem rArith (op : ByteArray) (ka x : Int) (sx : ByteArray) (kb y : Int) (sy : ByteArray) (hx : -9223372036854775808 ≤ x ∧ x ≤ 9223372036854775807) (hy : -9223372036854775808 ≤ y ∧ y ≤ 9223372036854775807) (w : World) :
    Calls Try.prog 25 #[.string op, Value.agg #[.int .i64 (ka), .int .i64 (x), .string (sx)], Value.agg #[.int .i64 (kb), .int .i64 (y), .string (sy)]] w (Ret (Value.tuple #[.agg #[.int .i64 (arithR op ka x kb y).1, .int .i64 (arithR op ka x kb y).2.1, .string ⟨#[]⟩], .int .i64 (arithR op ka x kb y).2.2]) w) := by
  cases ho : opOk op
  · exact rArith_bad _ _ _ _ _ _ _ ho _
  by_cases h0 : ka = 0 ∨ kb = 0
  · rcases opOk_cases op ho with rfl | rfl | rfl | rfl | rfl
    · exact rArith_null43 _ _ _ _ _ _ h0 _
    · exact rArith_null45 _ _ _ _ _ _ h0 _
    · exact rArith_null42 _ _ _ _ _ _ h0 _
    · exact rArith_null47 _ _ _ _ _ _ h0 _
    · exact rArith_null37 _ _ _ _ _ _ h0 _
  by_cases h1 : ka ≠ 1 ∨ kb ≠ 1
  · rcases opOk_cases op ho with rfl | rfl | rfl | rfl | rfl
    · exact rArith_type43 _ _ _ _ _ _ (by omega) (by omega) h1 _
    · exact rArith_type45 _ _ _ _ _ _ (by omega) (by omega) h1 _
    · exact rArith_type42 _ _ _ _ _ _ (by omega) (by omega) h1 _
    · exact rArith_type47 _ _ _ _ _ _ (by omega) (by omega) h1 _
    · exact rArith_type37 _ _ _ _ _ _ (by omega) (by omega) h1 _
  obtain rfl : ka = 1 := by omega
  obtain rfl : kb = 1 := by omega
  rcases opOk_cases op ho with rfl | rfl | rfl | rfl | rfl
  · exact rArith_add x y sx sy hx hy w
  · exact rArith_sub x y sx sy hx hy w
  · exact rArith_mul x y sx sy hx hy w
  · exact rArith_quo x y sx sy hx hy w
  · exact rArith_rem x y sx sy hy w
end Go.Proofs.Ytbgndledcnfceaa
