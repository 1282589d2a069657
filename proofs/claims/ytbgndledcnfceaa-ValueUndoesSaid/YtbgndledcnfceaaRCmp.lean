/- What the document's Compare computes. No condition but that a text has less than 2^47 bytes. -/
import Derived.Test.YtbgndledcnfceaaCmp
namespace Go.Proofs.Ytbgndledcnfceaa
open Go.ChangeShapes Go.WideShapes Go.ChangeAt Go.RowKit

theorem cmp_bytes : ∀ (x y : List UInt8), Lib.compareBytes x y = if Op.bytesLess x y = true then -1 else if (x == y) = true then 0 else 1
  | [], [] => by simp [Lib.compareBytes, Op.bytesLess]
  | [], b :: y => by simp [Lib.compareBytes, Op.bytesLess]
  | a :: x, [] => by simp [Lib.compareBytes, Op.bytesLess]
  | a :: x, b :: y => by
    have ih := cmp_bytes x y
    simp only [Lib.compareBytes, Op.bytesLess]
    by_cases h1 : a < b
    · simp [h1]
    · by_cases h2 : b < a
      · have h3 : a ≠ b := fun e => by subst e; exact h1 h2
        simp [h1, h2, h3]
      · have h3 : a = b := UInt8.le_antisymm (UInt8.not_lt.1 h2) (UInt8.not_lt.1 h1)
        subst h3
        simp only [h1, if_false]
        rw [ih]
        simp
theorem cmp_lt (x y : ByteArray) (h : Op.bytesLess x.toList y.toList = true) : Lib.compareBytes x.data.toList y.data.toList = -1 := by
  rw [Lib.toList_data, Lib.toList_data] at h
  rw [cmp_bytes, if_pos h]
theorem cmp_eq (x y : ByteArray) (h0 : Op.bytesLess x.toList y.toList = false) (h : (x.toList == y.toList) = true) : Lib.compareBytes x.data.toList y.data.toList = 0 := by
  rw [Lib.toList_data, Lib.toList_data] at h h0
  rw [cmp_bytes, if_neg (by rw [h0]; simp), if_pos h]
theorem cmp_gt (x y : ByteArray) (h0 : Op.bytesLess x.toList y.toList = false) (h : (x.toList == y.toList) = false) : Lib.compareBytes x.data.toList y.data.toList = 1 := by
  rw [Lib.toList_data, Lib.toList_data] at h h0
  rw [cmp_bytes, if_neg (by rw [h0]; simp), if_neg (by rw [h]; simp)]
theorem int_lt (x y : Int) (h : x < y) : Lib.compareInt x y = -1 := by unfold Lib.compareInt; rw [if_pos h]
theorem int_gt (x y : Int) (h : y < x) : Lib.compareInt x y = 1 := by unfold Lib.compareInt; rw [if_neg (by omega), if_pos h]
theorem int_eq0 (x : Int) : Lib.compareInt x x = 0 := by unfold Lib.compareInt; simp

set_option maxHeartbeats 800000 in
theorem rCompare_lta (ka na : Int) (sa : ByteArray) (kb nb : Int) (sb : ByteArray) (coll : Int) (h : ka < kb) (h2 : ka ≠ 2) (w : World) :
    Calls Try.prog 13 #[Value.agg #[.int .i64 (ka), .int .i64 (na), .string (sa)], Value.agg #[.int .i64 (kb), .int .i64 (nb), .string (sb)], .int .i64 coll] w (Ret (.int .i64 (cmpR ka na sa kb nb sb coll)) w) := by
  have t2 : (ka == 2) = false := by simpa using h2
  have hr : cmpR ka na sa kb nb sb coll = -1 := by unfold cmpR; rw [if_pos (by omega), int_lt _ _ h]
  have Hr := Lib.hid hr
  clear hr
  have t3 : (ka == kb) = false := by simp; omega
  go_enter Try.func13, Try.ntmps13
  go_wp2_with (first | (go_at_call 36; refine (r4fold _ _ (by assumption)).mono ?_; rintro e w1 ⟨rfl, hb1⟩; obtain ⟨hc1, hf1⟩ := bcell hb1; have hz1 := hb1.size; (try simp at hz1); obtain ⟨hl1, hm1⟩ := bsz hb1; (try have hl1_0 : w.heap.size < w1.heap.size := by omega); (try have hm1_0 : w.heap.size ≤ w1.heap.size := by omega); (try have hl1_1 : w.heap.size + 1 < w1.heap.size := by omega); (try have hm1_1 : w.heap.size + 1 ≤ w1.heap.size := by omega); (try have hl1_2 : w.heap.size + 1 + 1 < w1.heap.size := by omega); (try have hm1_2 : w.heap.size + 1 + 1 ≤ w1.heap.size := by omega); (try have hl1_3 : w.heap.size + 1 + 1 + 1 < w1.heap.size := by omega); (try have hm1_3 : w.heap.size + 1 + 1 + 1 ≤ w1.heap.size := by omega)) | ((with_reducible refine region_draws ?_); go_quiet (fail)))
  go_ret
  refine ⟨ret_int (by rw [Hr.out]), ?_⟩
  repeat (first | exact Below.refl _ _ | assumption | refine Below.drew ?_ | refine below_drewN ?_ _ | refine Below.setCell ?_ (by first | exact Nat.le_refl _ | omega | (simp; done) | (simp; omega)) _ | refine Below.alloc ?_ (by first | exact Nat.le_refl _ | omega | (simp; done) | (simp; omega)) _ | refine Below.trans ?_ (Below.mono (by assumption) (by first | exact Nat.le_refl _ | omega | (simp; done) | (simp; omega))))

set_option maxHeartbeats 800000 in
theorem rCompare_ltb (ka na : Int) (sa : ByteArray) (kb nb : Int) (sb : ByteArray) (coll : Int) (h : ka < kb) (h2 : ka = 2) (w : World) :
    Calls Try.prog 13 #[Value.agg #[.int .i64 (ka), .int .i64 (na), .string (sa)], Value.agg #[.int .i64 (kb), .int .i64 (nb), .string (sb)], .int .i64 coll] w (Ret (.int .i64 (cmpR ka na sa kb nb sb coll)) w) := by
  subst h2
  have t2 : (kb == 2) = false := by simp; omega
  have hr : cmpR 2 na sa kb nb sb coll = -1 := by unfold cmpR; rw [if_pos (by omega), int_lt _ _ h]
  have Hr := Lib.hid hr
  clear hr
  have t3 : (2 == kb) = false := by simp; omega
  go_enter Try.func13, Try.ntmps13
  go_wp2_with (first | (go_at_call 36; refine (r4fold _ _ (by assumption)).mono ?_; rintro e w1 ⟨rfl, hb1⟩; obtain ⟨hc1, hf1⟩ := bcell hb1; have hz1 := hb1.size; (try simp at hz1); obtain ⟨hl1, hm1⟩ := bsz hb1; (try have hl1_0 : w.heap.size < w1.heap.size := by omega); (try have hm1_0 : w.heap.size ≤ w1.heap.size := by omega); (try have hl1_1 : w.heap.size + 1 < w1.heap.size := by omega); (try have hm1_1 : w.heap.size + 1 ≤ w1.heap.size := by omega); (try have hl1_2 : w.heap.size + 1 + 1 < w1.heap.size := by omega); (try have hm1_2 : w.heap.size + 1 + 1 ≤ w1.heap.size := by omega); (try have hl1_3 : w.heap.size + 1 + 1 + 1 < w1.heap.size := by omega); (try have hm1_3 : w.heap.size + 1 + 1 + 1 ≤ w1.heap.size := by omega)) | ((with_reducible refine region_draws ?_); go_quiet (fail)))
  go_ret
  refine ⟨ret_int (by rw [Hr.out]), ?_⟩
  repeat (first | exact Below.refl _ _ | assumption | refine Below.drew ?_ | refine below_drewN ?_ _ | refine Below.setCell ?_ (by first | exact Nat.le_refl _ | omega | (simp; done) | (simp; omega)) _ | refine Below.alloc ?_ (by first | exact Nat.le_refl _ | omega | (simp; done) | (simp; omega)) _ | refine Below.trans ?_ (Below.mono (by assumption) (by first | exact Nat.le_refl _ | omega | (simp; done) | (simp; omega))))

set_option maxHeartbeats 800000 in
theorem rCompare_gta (ka na : Int) (sa : ByteArray) (kb nb : Int) (sb : ByteArray) (coll : Int) (h : kb < ka) (h2 : ka ≠ 2) (w : World) :
    Calls Try.prog 13 #[Value.agg #[.int .i64 (ka), .int .i64 (na), .string (sa)], Value.agg #[.int .i64 (kb), .int .i64 (nb), .string (sb)], .int .i64 coll] w (Ret (.int .i64 (cmpR ka na sa kb nb sb coll)) w) := by
  have t2 : (ka == 2) = false := by simpa using h2
  have hr : cmpR ka na sa kb nb sb coll = 1 := by unfold cmpR; rw [if_pos (by omega), int_gt _ _ h]
  have Hr := Lib.hid hr
  clear hr
  have t3 : (ka == kb) = false := by simp; omega
  go_enter Try.func13, Try.ntmps13
  go_wp2_with (first | (go_at_call 36; refine (r4fold _ _ (by assumption)).mono ?_; rintro e w1 ⟨rfl, hb1⟩; obtain ⟨hc1, hf1⟩ := bcell hb1; have hz1 := hb1.size; (try simp at hz1); obtain ⟨hl1, hm1⟩ := bsz hb1; (try have hl1_0 : w.heap.size < w1.heap.size := by omega); (try have hm1_0 : w.heap.size ≤ w1.heap.size := by omega); (try have hl1_1 : w.heap.size + 1 < w1.heap.size := by omega); (try have hm1_1 : w.heap.size + 1 ≤ w1.heap.size := by omega); (try have hl1_2 : w.heap.size + 1 + 1 < w1.heap.size := by omega); (try have hm1_2 : w.heap.size + 1 + 1 ≤ w1.heap.size := by omega); (try have hl1_3 : w.heap.size + 1 + 1 + 1 < w1.heap.size := by omega); (try have hm1_3 : w.heap.size + 1 + 1 + 1 ≤ w1.heap.size := by omega)) | ((with_reducible refine region_draws ?_); go_quiet (fail)))
  go_ret
  refine ⟨ret_int (by rw [Hr.out]), ?_⟩
  repeat (first | exact Below.refl _ _ | assumption | refine Below.drew ?_ | refine below_drewN ?_ _ | refine Below.setCell ?_ (by first | exact Nat.le_refl _ | omega | (simp; done) | (simp; omega)) _ | refine Below.alloc ?_ (by first | exact Nat.le_refl _ | omega | (simp; done) | (simp; omega)) _ | refine Below.trans ?_ (Below.mono (by assumption) (by first | exact Nat.le_refl _ | omega | (simp; done) | (simp; omega))))

set_option maxHeartbeats 800000 in
theorem rCompare_gtb (ka na : Int) (sa : ByteArray) (kb nb : Int) (sb : ByteArray) (coll : Int) (h : kb < ka) (h2 : ka = 2) (w : World) :
    Calls Try.prog 13 #[Value.agg #[.int .i64 (ka), .int .i64 (na), .string (sa)], Value.agg #[.int .i64 (kb), .int .i64 (nb), .string (sb)], .int .i64 coll] w (Ret (.int .i64 (cmpR ka na sa kb nb sb coll)) w) := by
  subst h2
  have t2 : (kb == 2) = false := by simp; omega
  have hr : cmpR 2 na sa kb nb sb coll = 1 := by unfold cmpR; rw [if_pos (by omega), int_gt _ _ h]
  have Hr := Lib.hid hr
  clear hr
  have t3 : (2 == kb) = false := by simp; omega
  go_enter Try.func13, Try.ntmps13
  go_wp2_with (first | (go_at_call 36; refine (r4fold _ _ (by assumption)).mono ?_; rintro e w1 ⟨rfl, hb1⟩; obtain ⟨hc1, hf1⟩ := bcell hb1; have hz1 := hb1.size; (try simp at hz1); obtain ⟨hl1, hm1⟩ := bsz hb1; (try have hl1_0 : w.heap.size < w1.heap.size := by omega); (try have hm1_0 : w.heap.size ≤ w1.heap.size := by omega); (try have hl1_1 : w.heap.size + 1 < w1.heap.size := by omega); (try have hm1_1 : w.heap.size + 1 ≤ w1.heap.size := by omega); (try have hl1_2 : w.heap.size + 1 + 1 < w1.heap.size := by omega); (try have hm1_2 : w.heap.size + 1 + 1 ≤ w1.heap.size := by omega); (try have hl1_3 : w.heap.size + 1 + 1 + 1 < w1.heap.size := by omega); (try have hm1_3 : w.heap.size + 1 + 1 + 1 ≤ w1.heap.size := by omega)) | ((with_reducible refine region_draws ?_); go_quiet (fail)))
  go_ret
  refine ⟨ret_int (by rw [Hr.out]), ?_⟩
  repeat (first | exact Below.refl _ _ | assumption | refine Below.drew ?_ | refine below_drewN ?_ _ | refine Below.setCell ?_ (by first | exact Nat.le_refl _ | omega | (simp; done) | (simp; omega)) _ | refine Below.alloc ?_ (by first | exact Nat.le_refl _ | omega | (simp; done) | (simp; omega)) _ | refine Below.trans ?_ (Below.mono (by assumption) (by first | exact Nat.le_refl _ | omega | (simp; done) | (simp; omega))))

set_option maxHeartbeats 800000 in
theorem rCompare_intlt (na : Int) (sa : ByteArray) (nb : Int) (sb : ByteArray) (coll : Int) (h : na < nb) (w : World) :
    Calls Try.prog 13 #[Value.agg #[.int .i64 (1), .int .i64 (na), .string (sa)], Value.agg #[.int .i64 (1), .int .i64 (nb), .string (sb)], .int .i64 coll] w (Ret (.int .i64 (cmpR 1 na sa 1 nb sb coll)) w) := by
  have hr : cmpR 1 na sa 1 nb sb coll = -1 := by unfold cmpR; rw [if_neg (by simp), if_pos rfl, int_lt _ _ h]
  have Hr := Lib.hid hr
  clear hr
  skip
  go_enter Try.func13, Try.ntmps13
  go_wp2_with (first | (go_at_call 36; refine (r4fold _ _ (by assumption)).mono ?_; rintro e w1 ⟨rfl, hb1⟩; obtain ⟨hc1, hf1⟩ := bcell hb1; have hz1 := hb1.size; (try simp at hz1); obtain ⟨hl1, hm1⟩ := bsz hb1; (try have hl1_0 : w.heap.size < w1.heap.size := by omega); (try have hm1_0 : w.heap.size ≤ w1.heap.size := by omega); (try have hl1_1 : w.heap.size + 1 < w1.heap.size := by omega); (try have hm1_1 : w.heap.size + 1 ≤ w1.heap.size := by omega); (try have hl1_2 : w.heap.size + 1 + 1 < w1.heap.size := by omega); (try have hm1_2 : w.heap.size + 1 + 1 ≤ w1.heap.size := by omega); (try have hl1_3 : w.heap.size + 1 + 1 + 1 < w1.heap.size := by omega); (try have hm1_3 : w.heap.size + 1 + 1 + 1 ≤ w1.heap.size := by omega)) | ((with_reducible refine region_draws ?_); go_quiet (fail)))
  go_ret
  refine ⟨ret_int (by rw [Hr.out]), ?_⟩
  repeat (first | exact Below.refl _ _ | assumption | refine Below.drew ?_ | refine below_drewN ?_ _ | refine Below.setCell ?_ (by first | exact Nat.le_refl _ | omega | (simp; done) | (simp; omega)) _ | refine Below.alloc ?_ (by first | exact Nat.le_refl _ | omega | (simp; done) | (simp; omega)) _ | refine Below.trans ?_ (Below.mono (by assumption) (by first | exact Nat.le_refl _ | omega | (simp; done) | (simp; omega))))

set_option maxHeartbeats 800000 in
theorem rCompare_intgt (na : Int) (sa : ByteArray) (nb : Int) (sb : ByteArray) (coll : Int) (h : nb < na) (w : World) :
    Calls Try.prog 13 #[Value.agg #[.int .i64 (1), .int .i64 (na), .string (sa)], Value.agg #[.int .i64 (1), .int .i64 (nb), .string (sb)], .int .i64 coll] w (Ret (.int .i64 (cmpR 1 na sa 1 nb sb coll)) w) := by
  have hr : cmpR 1 na sa 1 nb sb coll = 1 := by unfold cmpR; rw [if_neg (by simp), if_pos rfl, int_gt _ _ h]
  have Hr := Lib.hid hr
  clear hr
  skip
  go_enter Try.func13, Try.ntmps13
  go_wp2_with (first | (go_at_call 36; refine (r4fold _ _ (by assumption)).mono ?_; rintro e w1 ⟨rfl, hb1⟩; obtain ⟨hc1, hf1⟩ := bcell hb1; have hz1 := hb1.size; (try simp at hz1); obtain ⟨hl1, hm1⟩ := bsz hb1; (try have hl1_0 : w.heap.size < w1.heap.size := by omega); (try have hm1_0 : w.heap.size ≤ w1.heap.size := by omega); (try have hl1_1 : w.heap.size + 1 < w1.heap.size := by omega); (try have hm1_1 : w.heap.size + 1 ≤ w1.heap.size := by omega); (try have hl1_2 : w.heap.size + 1 + 1 < w1.heap.size := by omega); (try have hm1_2 : w.heap.size + 1 + 1 ≤ w1.heap.size := by omega); (try have hl1_3 : w.heap.size + 1 + 1 + 1 < w1.heap.size := by omega); (try have hm1_3 : w.heap.size + 1 + 1 + 1 ≤ w1.heap.size := by omega)) | ((with_reducible refine region_draws ?_); go_quiet (fail)))
  go_ret
  refine ⟨ret_int (by rw [Hr.out]), ?_⟩
  repeat (first | exact Below.refl _ _ | assumption | refine Below.drew ?_ | refine below_drewN ?_ _ | refine Below.setCell ?_ (by first | exact Nat.le_refl _ | omega | (simp; done) | (simp; omega)) _ | refine Below.alloc ?_ (by first | exact Nat.le_refl _ | omega | (simp; done) | (simp; omega)) _ | refine Below.trans ?_ (Below.mono (by assumption) (by first | exact Nat.le_refl _ | omega | (simp; done) | (simp; omega))))

set_option maxHeartbeats 800000 in
theorem rCompare_inteq (na : Int) (sa : ByteArray) (nb : Int) (sb : ByteArray) (coll : Int) (h : na = nb) (w : World) :
    Calls Try.prog 13 #[Value.agg #[.int .i64 (1), .int .i64 (na), .string (sa)], Value.agg #[.int .i64 (1), .int .i64 (nb), .string (sb)], .int .i64 coll] w (Ret (.int .i64 (cmpR 1 na sa 1 nb sb coll)) w) := by
  have hr : cmpR 1 na sa 1 nb sb coll = 0 := by unfold cmpR; rw [if_neg (by simp), if_pos rfl, h, int_eq0]
  have Hr := Lib.hid hr
  clear hr
  subst h
  go_enter Try.func13, Try.ntmps13
  go_wp2_with (first | (go_at_call 36; refine (r4fold _ _ (by assumption)).mono ?_; rintro e w1 ⟨rfl, hb1⟩; obtain ⟨hc1, hf1⟩ := bcell hb1; have hz1 := hb1.size; (try simp at hz1); obtain ⟨hl1, hm1⟩ := bsz hb1; (try have hl1_0 : w.heap.size < w1.heap.size := by omega); (try have hm1_0 : w.heap.size ≤ w1.heap.size := by omega); (try have hl1_1 : w.heap.size + 1 < w1.heap.size := by omega); (try have hm1_1 : w.heap.size + 1 ≤ w1.heap.size := by omega); (try have hl1_2 : w.heap.size + 1 + 1 < w1.heap.size := by omega); (try have hm1_2 : w.heap.size + 1 + 1 ≤ w1.heap.size := by omega); (try have hl1_3 : w.heap.size + 1 + 1 + 1 < w1.heap.size := by omega); (try have hm1_3 : w.heap.size + 1 + 1 + 1 ≤ w1.heap.size := by omega)) | ((with_reducible refine region_draws ?_); go_quiet (fail)))
  go_ret
  refine ⟨ret_int (by rw [Hr.out]), ?_⟩
  repeat (first | exact Below.refl _ _ | assumption | refine Below.drew ?_ | refine below_drewN ?_ _ | refine Below.setCell ?_ (by first | exact Nat.le_refl _ | omega | (simp; done) | (simp; omega)) _ | refine Below.alloc ?_ (by first | exact Nat.le_refl _ | omega | (simp; done) | (simp; omega)) _ | refine Below.trans ?_ (Below.mono (by assumption) (by first | exact Nat.le_refl _ | omega | (simp; done) | (simp; omega))))

set_option maxHeartbeats 1600000 in
theorem rCompare_blob (na : Int) (sa : ByteArray) (nb : Int) (sb : ByteArray) (coll : Int) (w : World) :
    Calls Try.prog 13 #[Value.agg #[.int .i64 (3), .int .i64 (na), .string (sa)], Value.agg #[.int .i64 (3), .int .i64 (nb), .string (sb)], .int .i64 coll] w (Ret (.int .i64 (cmpR 3 na sa 3 nb sb coll)) w) := by
  have hr : cmpR 3 na sa 3 nb sb coll = Lib.compareBytes (sa).data.toList (sb).data.toList := by simp [cmpR]
  have Hr := Lib.hid hr
  clear hr
  cases hb : Op.bytesLess (sa).toList (sb).toList
  · cases he : (sa).toList == (sb).toList
    · have Hq := Lib.hid (cmp_gt _ _ hb he)
      go_enter Try.func13, Try.ntmps13
      go_wp2_with (first | (go_at_call 36; refine (r4fold _ _ (by assumption)).mono ?_; rintro e w1 ⟨rfl, hb1⟩; obtain ⟨hc1, hf1⟩ := bcell hb1; have hz1 := hb1.size; (try simp at hz1); obtain ⟨hl1, hm1⟩ := bsz hb1; (try have hl1_0 : w.heap.size < w1.heap.size := by omega); (try have hm1_0 : w.heap.size ≤ w1.heap.size := by omega); (try have hl1_1 : w.heap.size + 1 < w1.heap.size := by omega); (try have hm1_1 : w.heap.size + 1 ≤ w1.heap.size := by omega); (try have hl1_2 : w.heap.size + 1 + 1 < w1.heap.size := by omega); (try have hm1_2 : w.heap.size + 1 + 1 ≤ w1.heap.size := by omega); (try have hl1_3 : w.heap.size + 1 + 1 + 1 < w1.heap.size := by omega); (try have hm1_3 : w.heap.size + 1 + 1 + 1 ≤ w1.heap.size := by omega)) | ((with_reducible refine region_draws ?_); go_quiet (fail)))
      go_ret
      refine ⟨ret_int (by rw [Hr.out, Hq.out]), ?_⟩
      repeat (first | exact Below.refl _ _ | assumption | refine Below.drew ?_ | refine below_drewN ?_ _ | refine Below.setCell ?_ (by first | exact Nat.le_refl _ | omega | (simp; done) | (simp; omega)) _ | refine Below.alloc ?_ (by first | exact Nat.le_refl _ | omega | (simp; done) | (simp; omega)) _ | refine Below.trans ?_ (Below.mono (by assumption) (by first | exact Nat.le_refl _ | omega | (simp; done) | (simp; omega))))
    · have Hq := Lib.hid (cmp_eq _ _ hb he)
      go_enter Try.func13, Try.ntmps13
      go_wp2_with (first | (go_at_call 36; refine (r4fold _ _ (by assumption)).mono ?_; rintro e w1 ⟨rfl, hb1⟩; obtain ⟨hc1, hf1⟩ := bcell hb1; have hz1 := hb1.size; (try simp at hz1); obtain ⟨hl1, hm1⟩ := bsz hb1; (try have hl1_0 : w.heap.size < w1.heap.size := by omega); (try have hm1_0 : w.heap.size ≤ w1.heap.size := by omega); (try have hl1_1 : w.heap.size + 1 < w1.heap.size := by omega); (try have hm1_1 : w.heap.size + 1 ≤ w1.heap.size := by omega); (try have hl1_2 : w.heap.size + 1 + 1 < w1.heap.size := by omega); (try have hm1_2 : w.heap.size + 1 + 1 ≤ w1.heap.size := by omega); (try have hl1_3 : w.heap.size + 1 + 1 + 1 < w1.heap.size := by omega); (try have hm1_3 : w.heap.size + 1 + 1 + 1 ≤ w1.heap.size := by omega)) | ((with_reducible refine region_draws ?_); go_quiet (fail)))
      go_ret
      refine ⟨ret_int (by rw [Hr.out, Hq.out]), ?_⟩
      repeat (first | exact Below.refl _ _ | assumption | refine Below.drew ?_ | refine below_drewN ?_ _ | refine Below.setCell ?_ (by first | exact Nat.le_refl _ | omega | (simp; done) | (simp; omega)) _ | refine Below.alloc ?_ (by first | exact Nat.le_refl _ | omega | (simp; done) | (simp; omega)) _ | refine Below.trans ?_ (Below.mono (by assumption) (by first | exact Nat.le_refl _ | omega | (simp; done) | (simp; omega))))
  · have Hq := Lib.hid (cmp_lt _ _ hb)
    go_enter Try.func13, Try.ntmps13
    go_wp2_with (first | (go_at_call 36; refine (r4fold _ _ (by assumption)).mono ?_; rintro e w1 ⟨rfl, hb1⟩; obtain ⟨hc1, hf1⟩ := bcell hb1; have hz1 := hb1.size; (try simp at hz1); obtain ⟨hl1, hm1⟩ := bsz hb1; (try have hl1_0 : w.heap.size < w1.heap.size := by omega); (try have hm1_0 : w.heap.size ≤ w1.heap.size := by omega); (try have hl1_1 : w.heap.size + 1 < w1.heap.size := by omega); (try have hm1_1 : w.heap.size + 1 ≤ w1.heap.size := by omega); (try have hl1_2 : w.heap.size + 1 + 1 < w1.heap.size := by omega); (try have hm1_2 : w.heap.size + 1 + 1 ≤ w1.heap.size := by omega); (try have hl1_3 : w.heap.size + 1 + 1 + 1 < w1.heap.size := by omega); (try have hm1_3 : w.heap.size + 1 + 1 + 1 ≤ w1.heap.size := by omega)) | ((with_reducible refine region_draws ?_); go_quiet (fail)))
    go_ret
    refine ⟨ret_int (by rw [Hr.out, Hq.out]), ?_⟩
    repeat (first | exact Below.refl _ _ | assumption | refine Below.drew ?_ | refine below_drewN ?_ _ | refine Below.setCell ?_ (by first | exact Nat.le_refl _ | omega | (simp; done) | (simp; omega)) _ | refine Below.alloc ?_ (by first | exact Nat.le_refl _ | omega | (simp; done) | (simp; omega)) _ | refine Below.trans ?_ (Below.mono (by assumption) (by first | exact Nat.le_refl _ | omega | (simp; done) | (simp; omega))))

set_option maxHeartbeats 1600000 in
theorem rCompare_text0 (na : Int) (sa : ByteArray) (nb : Int) (sb : ByteArray) (coll : Int) (hc : coll ≠ 1) (w : World) :
    Calls Try.prog 13 #[Value.agg #[.int .i64 (2), .int .i64 (na), .string (sa)], Value.agg #[.int .i64 (2), .int .i64 (nb), .string (sb)], .int .i64 coll] w (Ret (.int .i64 (cmpR 2 na sa 2 nb sb coll)) w) := by
  have hr : cmpR 2 na sa 2 nb sb coll = Lib.compareBytes (sa).data.toList (sb).data.toList := by simp [cmpR, hc]
  have Hr := Lib.hid hr
  clear hr
  have t : (coll == 1) = false := by simpa using hc
  cases hb : Op.bytesLess (sa).toList (sb).toList
  · cases he : (sa).toList == (sb).toList
    · have Hq := Lib.hid (cmp_gt _ _ hb he)
      go_enter Try.func13, Try.ntmps13
      go_wp2_with (first | (go_at_call 36; refine (r4fold _ _ (by assumption)).mono ?_; rintro e w1 ⟨rfl, hb1⟩; obtain ⟨hc1, hf1⟩ := bcell hb1; have hz1 := hb1.size; (try simp at hz1); obtain ⟨hl1, hm1⟩ := bsz hb1; (try have hl1_0 : w.heap.size < w1.heap.size := by omega); (try have hm1_0 : w.heap.size ≤ w1.heap.size := by omega); (try have hl1_1 : w.heap.size + 1 < w1.heap.size := by omega); (try have hm1_1 : w.heap.size + 1 ≤ w1.heap.size := by omega); (try have hl1_2 : w.heap.size + 1 + 1 < w1.heap.size := by omega); (try have hm1_2 : w.heap.size + 1 + 1 ≤ w1.heap.size := by omega); (try have hl1_3 : w.heap.size + 1 + 1 + 1 < w1.heap.size := by omega); (try have hm1_3 : w.heap.size + 1 + 1 + 1 ≤ w1.heap.size := by omega)) | ((with_reducible refine region_draws ?_); go_quiet (fail)))
      go_ret
      refine ⟨ret_int (by rw [Hr.out, Hq.out]), ?_⟩
      repeat (first | exact Below.refl _ _ | assumption | refine Below.drew ?_ | refine below_drewN ?_ _ | refine Below.setCell ?_ (by first | exact Nat.le_refl _ | omega | (simp; done) | (simp; omega)) _ | refine Below.alloc ?_ (by first | exact Nat.le_refl _ | omega | (simp; done) | (simp; omega)) _ | refine Below.trans ?_ (Below.mono (by assumption) (by first | exact Nat.le_refl _ | omega | (simp; done) | (simp; omega))))
    · have Hq := Lib.hid (cmp_eq _ _ hb he)
      go_enter Try.func13, Try.ntmps13
      go_wp2_with (first | (go_at_call 36; refine (r4fold _ _ (by assumption)).mono ?_; rintro e w1 ⟨rfl, hb1⟩; obtain ⟨hc1, hf1⟩ := bcell hb1; have hz1 := hb1.size; (try simp at hz1); obtain ⟨hl1, hm1⟩ := bsz hb1; (try have hl1_0 : w.heap.size < w1.heap.size := by omega); (try have hm1_0 : w.heap.size ≤ w1.heap.size := by omega); (try have hl1_1 : w.heap.size + 1 < w1.heap.size := by omega); (try have hm1_1 : w.heap.size + 1 ≤ w1.heap.size := by omega); (try have hl1_2 : w.heap.size + 1 + 1 < w1.heap.size := by omega); (try have hm1_2 : w.heap.size + 1 + 1 ≤ w1.heap.size := by omega); (try have hl1_3 : w.heap.size + 1 + 1 + 1 < w1.heap.size := by omega); (try have hm1_3 : w.heap.size + 1 + 1 + 1 ≤ w1.heap.size := by omega)) | ((with_reducible refine region_draws ?_); go_quiet (fail)))
      go_ret
      refine ⟨ret_int (by rw [Hr.out, Hq.out]), ?_⟩
      repeat (first | exact Below.refl _ _ | assumption | refine Below.drew ?_ | refine below_drewN ?_ _ | refine Below.setCell ?_ (by first | exact Nat.le_refl _ | omega | (simp; done) | (simp; omega)) _ | refine Below.alloc ?_ (by first | exact Nat.le_refl _ | omega | (simp; done) | (simp; omega)) _ | refine Below.trans ?_ (Below.mono (by assumption) (by first | exact Nat.le_refl _ | omega | (simp; done) | (simp; omega))))
  · have Hq := Lib.hid (cmp_lt _ _ hb)
    go_enter Try.func13, Try.ntmps13
    go_wp2_with (first | (go_at_call 36; refine (r4fold _ _ (by assumption)).mono ?_; rintro e w1 ⟨rfl, hb1⟩; obtain ⟨hc1, hf1⟩ := bcell hb1; have hz1 := hb1.size; (try simp at hz1); obtain ⟨hl1, hm1⟩ := bsz hb1; (try have hl1_0 : w.heap.size < w1.heap.size := by omega); (try have hm1_0 : w.heap.size ≤ w1.heap.size := by omega); (try have hl1_1 : w.heap.size + 1 < w1.heap.size := by omega); (try have hm1_1 : w.heap.size + 1 ≤ w1.heap.size := by omega); (try have hl1_2 : w.heap.size + 1 + 1 < w1.heap.size := by omega); (try have hm1_2 : w.heap.size + 1 + 1 ≤ w1.heap.size := by omega); (try have hl1_3 : w.heap.size + 1 + 1 + 1 < w1.heap.size := by omega); (try have hm1_3 : w.heap.size + 1 + 1 + 1 ≤ w1.heap.size := by omega)) | ((with_reducible refine region_draws ?_); go_quiet (fail)))
    go_ret
    refine ⟨ret_int (by rw [Hr.out, Hq.out]), ?_⟩
    repeat (first | exact Below.refl _ _ | assumption | refine Below.drew ?_ | refine below_drewN ?_ _ | refine Below.setCell ?_ (by first | exact Nat.le_refl _ | omega | (simp; done) | (simp; omega)) _ | refine Below.alloc ?_ (by first | exact Nat.le_refl _ | omega | (simp; done) | (simp; omega)) _ | refine Below.trans ?_ (Below.mono (by assumption) (by first | exact Nat.le_refl _ | omega | (simp; done) | (simp; omega))))

set_option maxHeartbeats 1600000 in
theorem rCompare_text1 (na : Int) (sa : ByteArray) (nb : Int) (sb : ByteArray) (hsa : sa.size ≤ 9223372036854775807) (hsb : sb.size ≤ 9223372036854775807) (w : World) :
    Calls Try.prog 13 #[Value.agg #[.int .i64 (2), .int .i64 (na), .string (sa)], Value.agg #[.int .i64 (2), .int .i64 (nb), .string (sb)], .int .i64 1] w (Ret (.int .i64 (cmpR 2 na sa 2 nb sb 1)) w) := by
  have hr : cmpR 2 na sa 2 nb sb 1 = Lib.compareBytes (foldB sa).data.toList (foldB sb).data.toList := by simp [cmpR]
  have Hr := Lib.hid hr
  clear hr
  cases hb : Op.bytesLess (foldB sa).toList (foldB sb).toList
  · cases he : (foldB sa).toList == (foldB sb).toList
    · have Hq := Lib.hid (cmp_gt _ _ hb he)
      go_enter Try.func13, Try.ntmps13
      go_wp2_with (first | (go_at_call 36; refine (r4fold _ _ (by assumption)).mono ?_; rintro e w1 ⟨rfl, hb1⟩; obtain ⟨hc1, hf1⟩ := bcell hb1; have hz1 := hb1.size; (try simp at hz1); obtain ⟨hl1, hm1⟩ := bsz hb1; (try have hl1_0 : w.heap.size < w1.heap.size := by omega); (try have hm1_0 : w.heap.size ≤ w1.heap.size := by omega); (try have hl1_1 : w.heap.size + 1 < w1.heap.size := by omega); (try have hm1_1 : w.heap.size + 1 ≤ w1.heap.size := by omega); (try have hl1_2 : w.heap.size + 1 + 1 < w1.heap.size := by omega); (try have hm1_2 : w.heap.size + 1 + 1 ≤ w1.heap.size := by omega); (try have hl1_3 : w.heap.size + 1 + 1 + 1 < w1.heap.size := by omega); (try have hm1_3 : w.heap.size + 1 + 1 + 1 ≤ w1.heap.size := by omega)) | ((with_reducible refine region_draws ?_); go_quiet (fail)))
      go_ret
      refine ⟨ret_int (by rw [Hr.out, Hq.out]), ?_⟩
      repeat (first | exact Below.refl _ _ | assumption | refine Below.drew ?_ | refine below_drewN ?_ _ | refine Below.setCell ?_ (by first | exact Nat.le_refl _ | omega | (simp; done) | (simp; omega)) _ | refine Below.alloc ?_ (by first | exact Nat.le_refl _ | omega | (simp; done) | (simp; omega)) _ | refine Below.trans ?_ (Below.mono (by assumption) (by first | exact Nat.le_refl _ | omega | (simp; done) | (simp; omega))))
    · have Hq := Lib.hid (cmp_eq _ _ hb he)
      go_enter Try.func13, Try.ntmps13
      go_wp2_with (first | (go_at_call 36; refine (r4fold _ _ (by assumption)).mono ?_; rintro e w1 ⟨rfl, hb1⟩; obtain ⟨hc1, hf1⟩ := bcell hb1; have hz1 := hb1.size; (try simp at hz1); obtain ⟨hl1, hm1⟩ := bsz hb1; (try have hl1_0 : w.heap.size < w1.heap.size := by omega); (try have hm1_0 : w.heap.size ≤ w1.heap.size := by omega); (try have hl1_1 : w.heap.size + 1 < w1.heap.size := by omega); (try have hm1_1 : w.heap.size + 1 ≤ w1.heap.size := by omega); (try have hl1_2 : w.heap.size + 1 + 1 < w1.heap.size := by omega); (try have hm1_2 : w.heap.size + 1 + 1 ≤ w1.heap.size := by omega); (try have hl1_3 : w.heap.size + 1 + 1 + 1 < w1.heap.size := by omega); (try have hm1_3 : w.heap.size + 1 + 1 + 1 ≤ w1.heap.size := by omega)) | ((with_reducible refine region_draws ?_); go_quiet (fail)))
      go_ret
      refine ⟨ret_int (by rw [Hr.out, Hq.out]), ?_⟩
      repeat (first | exact Below.refl _ _ | assumption | refine Below.drew ?_ | refine below_drewN ?_ _ | refine Below.setCell ?_ (by first | exact Nat.le_refl _ | omega | (simp; done) | (simp; omega)) _ | refine Below.alloc ?_ (by first | exact Nat.le_refl _ | omega | (simp; done) | (simp; omega)) _ | refine Below.trans ?_ (Below.mono (by assumption) (by first | exact Nat.le_refl _ | omega | (simp; done) | (simp; omega))))
  · have Hq := Lib.hid (cmp_lt _ _ hb)
    go_enter Try.func13, Try.ntmps13
    go_wp2_with (first | (go_at_call 36; refine (r4fold _ _ (by assumption)).mono ?_; rintro e w1 ⟨rfl, hb1⟩; obtain ⟨hc1, hf1⟩ := bcell hb1; have hz1 := hb1.size; (try simp at hz1); obtain ⟨hl1, hm1⟩ := bsz hb1; (try have hl1_0 : w.heap.size < w1.heap.size := by omega); (try have hm1_0 : w.heap.size ≤ w1.heap.size := by omega); (try have hl1_1 : w.heap.size + 1 < w1.heap.size := by omega); (try have hm1_1 : w.heap.size + 1 ≤ w1.heap.size := by omega); (try have hl1_2 : w.heap.size + 1 + 1 < w1.heap.size := by omega); (try have hm1_2 : w.heap.size + 1 + 1 ≤ w1.heap.size := by omega); (try have hl1_3 : w.heap.size + 1 + 1 + 1 < w1.heap.size := by omega); (try have hm1_3 : w.heap.size + 1 + 1 + 1 ≤ w1.heap.size := by omega)) | ((with_reducible refine region_draws ?_); go_quiet (fail)))
    go_ret
    refine ⟨ret_int (by rw [Hr.out, Hq.out]), ?_⟩
    repeat (first | exact Below.refl _ _ | assumption | refine Below.drew ?_ | refine below_drewN ?_ _ | refine Below.setCell ?_ (by first | exact Nat.le_refl _ | omega | (simp; done) | (simp; omega)) _ | refine Below.alloc ?_ (by first | exact Nat.le_refl _ | omega | (simp; done) | (simp; omega)) _ | refine Below.trans ?_ (Below.mono (by assumption) (by first | exact Nat.le_refl _ | omega | (simp; done) | (simp; omega))))

set_option maxHeartbeats 800000 in
theorem rCompare_else (k na : Int) (sa : ByteArray) (nb : Int) (sb : ByteArray) (coll : Int) (h1 : k ≠ 1) (h2 : k ≠ 2) (h3 : k ≠ 3) (w : World) :
    Calls Try.prog 13 #[Value.agg #[.int .i64 (k), .int .i64 (na), .string (sa)], Value.agg #[.int .i64 (k), .int .i64 (nb), .string (sb)], .int .i64 coll] w (Ret (.int .i64 (cmpR k na sa k nb sb coll)) w) := by
  have hr : cmpR k na sa k nb sb coll = 0 := by simp [cmpR, h1, h2, h3]
  have Hr := Lib.hid hr
  have t1 : (k == 1) = false := by simpa using h1
  have t2 : (k == 2) = false := by simpa using h2
  have t3 : (k == 3) = false := by simpa using h3
  clear hr
  go_enter Try.func13, Try.ntmps13
  go_wp2_with (first | (go_at_call 36; refine (r4fold _ _ (by assumption)).mono ?_; rintro e w1 ⟨rfl, hb1⟩; obtain ⟨hc1, hf1⟩ := bcell hb1; have hz1 := hb1.size; (try simp at hz1); obtain ⟨hl1, hm1⟩ := bsz hb1; (try have hl1_0 : w.heap.size < w1.heap.size := by omega); (try have hm1_0 : w.heap.size ≤ w1.heap.size := by omega); (try have hl1_1 : w.heap.size + 1 < w1.heap.size := by omega); (try have hm1_1 : w.heap.size + 1 ≤ w1.heap.size := by omega); (try have hl1_2 : w.heap.size + 1 + 1 < w1.heap.size := by omega); (try have hm1_2 : w.heap.size + 1 + 1 ≤ w1.heap.size := by omega); (try have hl1_3 : w.heap.size + 1 + 1 + 1 < w1.heap.size := by omega); (try have hm1_3 : w.heap.size + 1 + 1 + 1 ≤ w1.heap.size := by omega)) | ((with_reducible refine region_draws ?_); go_quiet (fail)))
  go_ret
  refine ⟨ret_int (by rw [Hr.out]), ?_⟩
  repeat (first | exact Below.refl _ _ | assumption | refine Below.drew ?_ | refine below_drewN ?_ _ | refine Below.setCell ?_ (by first | exact Nat.le_refl _ | omega | (simp; done) | (simp; omega)) _ | refine Below.alloc ?_ (by first | exact Nat.le_refl _ | omega | (simp; done) | (simp; omega)) _ | refine Below.trans ?_ (Below.mono (by assumption) (by first | exact Nat.le_refl _ | omega | (simp; done) | (simp; omega))))

theorem rCompare (ka na : Int) (sa : ByteArray) (kb nb : Int) (sb : ByteArray) (coll : Int) (hsa : sa.size ≤ 9223372036854775807) (hsb : sb.size ≤ 9223372036854775807) (w : World) :
    Calls Try.prog 13 #[Value.agg #[.int .i64 (ka), .int .i64 (na), .string (sa)], Value.agg #[.int .i64 (kb), .int .i64 (nb), .string (sb)], .int .i64 coll] w (Ret (.int .i64 (cmpR ka na sa kb nb sb coll)) w) := by
  by_cases h : ka = kb
  · subst h
    by_cases h1 : ka = 1
    · subst h1
      rcases Int.lt_trichotomy na nb with hl | hl | hl
      · exact rCompare_intlt _ _ _ _ _ hl _
      · exact rCompare_inteq _ _ _ _ _ hl _
      · exact rCompare_intgt _ _ _ _ _ hl _
    by_cases h2 : ka = 2
    · subst h2
      by_cases hc : coll = 1
      · subst hc; exact rCompare_text1 _ _ _ _ hsa hsb _
      · exact rCompare_text0 _ _ _ _ _ hc _
    by_cases h3 : ka = 3
    · subst h3; exact rCompare_blob _ _ _ _ _ _
    · exact rCompare_else _ _ _ _ _ _ h1 h2 h3 _
  · rcases Int.lt_or_gt_of_ne h with hl | hl
    · by_cases h2 : ka = 2
      · exact rCompare_ltb _ _ _ _ _ _ _ hl h2 _
      · exact rCompare_lta _ _ _ _ _ _ _ hl h2 _
    · by_cases h2 : ka = 2
      · exact rCompare_gtb _ _ _ _ _ _ _ hl h2 _
      · exact rCompare_gta _ _ _ _ _ _ _ hl h2 _
end Go.Proofs.Ytbgndledcnfceaa
