/- What value.Compare and the document's Compare compute. No condition but that a text has less than 2^47 bytes. -/
import Derived.Test.YtbgndledcnfceaaText1
import Derived.Test.YtbgndledcnfceaaVal1
import Derived.Test.YtbgndledcnfceaaShelf
import Derived.Outline
namespace Go.Proofs.Ytbgndledcnfceaa
open Go.ChangeShapes Go.WideShapes Go.ChangeAt Go.RowKit

def cmpR (ka na : Int) (sa : ByteArray) (kb nb : Int) (sb : ByteArray) (coll : Int) : Int :=
  if ka ≠ kb then Lib.compareInt ka kb else if ka = 1 then Lib.compareInt na nb
  else if ka = 2 ∧ coll = 1 then Lib.compareBytes (foldB sa).data.toList (foldB sb).data.toList
  else if ka = 2 ∨ ka = 3 then Lib.compareBytes sa.data.toList sb.data.toList else 0

theorem isNaN64 (x : Int) (w : World) : Calls Try.prog 48 #[.int .i64 x] w fun e w' => e = .returned (.bool false) ∧ w' = w := by
  go_enter Try.func48, Try.ntmps48
  go_wp2_with fail
  go_ret
  exact ⟨rfl, rfl⟩
theorem compare64 (x y : Int) (w : World) : Calls Try.prog 33 #[.int .i64 x, .int .i64 y] w fun e w' => e = .returned (.int .i64 (Lib.compareInt x y)) ∧ w' = w := by
  have h1 : x < y → Lib.compareInt x y = -1 := fun h => by unfold Lib.compareInt; rw [if_pos h]
  have h2 : y < x → Lib.compareInt x y = 1 := fun h => by unfold Lib.compareInt; rw [if_neg (by omega), if_pos h]
  have h3 : x = y → Lib.compareInt x y = 0 := fun h => by unfold Lib.compareInt; rw [if_neg (by omega), if_neg (by omega)]
  have H1 := Lib.hid h1
  have H2 := Lib.hid h2
  have H3 := Lib.hid h3
  clear h1 h2 h3
  by_cases a : x < y
  · go_enter Try.func33, Try.ntmps33
    go_wp2_with (first | (go_at_call 48; refine (isNaN64 _ _).mono ?_; rintro e w' ⟨rfl, rfl⟩))
    go_ret
    exact ⟨ret_int (by rw [H1.out a]), rfl⟩
  by_cases b : y < x
  · go_enter Try.func33, Try.ntmps33
    go_wp2_with (first | (go_at_call 48; refine (isNaN64 _ _).mono ?_; rintro e w' ⟨rfl, rfl⟩))
    go_ret
    exact ⟨ret_int (by rw [H2.out b]), rfl⟩
  · go_enter Try.func33, Try.ntmps33
    go_wp2_with (first | (go_at_call 48; refine (isNaN64 _ _).mono ?_; rintro e w' ⟨rfl, rfl⟩))
    go_ret
    exact ⟨ret_int (by rw [H3.out (by omega)]), rfl⟩

theorem vCompare_kind (ka na : Int) (sa : ByteArray) (kb nb : Int) (sb : ByteArray) (coll : Int) (h : ka ≠ kb) (w : World) :
    Calls Try.prog 12 #[Value.agg #[.int .i64 (ka), .int .i64 (na), .string (sa)], Value.agg #[.int .i64 (kb), .int .i64 (nb), .string (sb)], .int .i64 coll] w (Ret (.int .i64 (cmpR ka na sa kb nb sb coll)) w) := by
  have hr : cmpR ka na sa kb nb sb coll = Lib.compareInt ka kb := by unfold cmpR; rw [if_pos h]
  have Hr := Lib.hid hr
  have t : (ka != kb) = true := by simpa using h
  clear hr
  go_enter Try.func12, Try.ntmps12
  go_wp2_with (first | (go_at_call 32; refine (Try.cmp_Compare_int _ _ _).mono ?_; rintro e w' ⟨rfl, rfl⟩) | ((with_reducible refine region_draws ?_); go_quiet (fail)))
  go_ret
  refine ⟨ret_int (by rw [Hr.out]), ?_⟩
  repeat (first | exact Below.refl _ _ | assumption | refine Below.drew ?_ | refine below_drewN ?_ _ | refine Below.setCell ?_ (by first | exact Nat.le_refl _ | omega | (simp; done) | (simp; omega)) _ | refine Below.alloc ?_ (by first | exact Nat.le_refl _ | omega | (simp; done) | (simp; omega)) _ | refine Below.trans ?_ (Below.mono (by assumption) (by first | exact Nat.le_refl _ | omega | (simp; done) | (simp; omega))))
theorem vCompare_int (na : Int) (sa : ByteArray) (nb : Int) (sb : ByteArray) (coll : Int) (w : World) :
    Calls Try.prog 12 #[Value.agg #[.int .i64 (1), .int .i64 (na), .string (sa)], Value.agg #[.int .i64 (1), .int .i64 (nb), .string (sb)], .int .i64 coll] w (Ret (.int .i64 (cmpR 1 na sa 1 nb sb coll)) w) := by
  have hr : cmpR 1 na sa 1 nb sb coll = Lib.compareInt na nb := by simp [cmpR]
  have Hr := Lib.hid hr
  clear hr
  go_enter Try.func12, Try.ntmps12
  go_wp2_with (first | (go_at_call 33; refine (compare64 _ _ _).mono ?_; rintro e w' ⟨rfl, rfl⟩) | ((with_reducible refine region_draws ?_); go_quiet (fail)))
  go_ret
  refine ⟨ret_int (by rw [Hr.out]), ?_⟩
  repeat (first | exact Below.refl _ _ | assumption | refine Below.drew ?_ | refine below_drewN ?_ _ | refine Below.setCell ?_ (by first | exact Nat.le_refl _ | omega | (simp; done) | (simp; omega)) _ | refine Below.alloc ?_ (by first | exact Nat.le_refl _ | omega | (simp; done) | (simp; omega)) _ | refine Below.trans ?_ (Below.mono (by assumption) (by first | exact Nat.le_refl _ | omega | (simp; done) | (simp; omega))))
theorem vCompare_text1 (na : Int) (sa : ByteArray) (nb : Int) (sb : ByteArray) (hsa : sa.size ≤ 9223372036854775807) (hsb : sb.size ≤ 9223372036854775807) (w : World) :
    Calls Try.prog 12 #[Value.agg #[.int .i64 (2), .int .i64 (na), .string (sa)], Value.agg #[.int .i64 (2), .int .i64 (nb), .string (sb)], .int .i64 1] w (Ret (.int .i64 (cmpR 2 na sa 2 nb sb 1)) w) := by
  have hr : cmpR 2 na sa 2 nb sb 1 = Lib.compareBytes (foldB sa).data.toList (foldB sb).data.toList := by simp [cmpR]
  have Hr := Lib.hid hr
  clear hr
  go_enter Try.func12, Try.ntmps12
  go_wp2_with (first | ((with_reducible refine region_draws ?_); refine region_plus (by kernel_rfl) (by kernel_rfl) ?_; (repeat (go_big_quiet_step ((first | (go_at_call 35; exact plus_of (tFold _ _ (by assumption))) | (go_at_call 34; exact plus_of_same (Try.strings_Compare _ _ _)))))); refine wpQuiet_nil ?_; intro w1 hb1; obtain ⟨hc1, hf1⟩ := bcell hb1; have hz1 := hb1.size; (try simp at hz1); obtain ⟨hl1, hm1⟩ := bsz hb1; (try have hl1_0 : w.heap.size < w1.heap.size := by omega); (try have hm1_0 : w.heap.size ≤ w1.heap.size := by omega); (try have hl1_1 : w.heap.size + 1 < w1.heap.size := by omega); (try have hm1_1 : w.heap.size + 1 ≤ w1.heap.size := by omega); (try have hl1_2 : w.heap.size + 1 + 1 < w1.heap.size := by omega); (try have hm1_2 : w.heap.size + 1 + 1 ≤ w1.heap.size := by omega); (try have hl1_3 : w.heap.size + 1 + 1 + 1 < w1.heap.size := by omega); (try have hm1_3 : w.heap.size + 1 + 1 + 1 ≤ w1.heap.size := by omega)))
  go_ret
  refine ⟨ret_int (by rw [Hr.out]), ?_⟩
  repeat (first | exact Below.refl _ _ | assumption | refine Below.drew ?_ | refine below_drewN ?_ _ | refine Below.setCell ?_ (by first | exact Nat.le_refl _ | omega | (simp; done) | (simp; omega)) _ | refine Below.alloc ?_ (by first | exact Nat.le_refl _ | omega | (simp; done) | (simp; omega)) _ | refine Below.trans ?_ (Below.mono (by assumption) (by first | exact Nat.le_refl _ | omega | (simp; done) | (simp; omega))))
theorem vCompare_text0 (na : Int) (sa : ByteArray) (nb : Int) (sb : ByteArray) (coll : Int) (hc : coll ≠ 1) (w : World) :
    Calls Try.prog 12 #[Value.agg #[.int .i64 (2), .int .i64 (na), .string (sa)], Value.agg #[.int .i64 (2), .int .i64 (nb), .string (sb)], .int .i64 coll] w (Ret (.int .i64 (cmpR 2 na sa 2 nb sb coll)) w) := by
  have hr : cmpR 2 na sa 2 nb sb coll = Lib.compareBytes sa.data.toList sb.data.toList := by simp [cmpR, hc]
  have Hr := Lib.hid hr
  have t : (coll == 1) = false := by simpa using hc
  clear hr
  go_enter Try.func12, Try.ntmps12
  go_wp2_with (first | (go_at_call 34; refine (Try.strings_Compare _ _ _).mono ?_; rintro e w' ⟨rfl, rfl⟩) | ((with_reducible refine region_draws ?_); go_quiet (fail)))
  go_ret
  refine ⟨ret_int (by rw [Hr.out]), ?_⟩
  repeat (first | exact Below.refl _ _ | assumption | refine Below.drew ?_ | refine below_drewN ?_ _ | refine Below.setCell ?_ (by first | exact Nat.le_refl _ | omega | (simp; done) | (simp; omega)) _ | refine Below.alloc ?_ (by first | exact Nat.le_refl _ | omega | (simp; done) | (simp; omega)) _ | refine Below.trans ?_ (Below.mono (by assumption) (by first | exact Nat.le_refl _ | omega | (simp; done) | (simp; omega))))
theorem vCompare_blob (na : Int) (sa : ByteArray) (nb : Int) (sb : ByteArray) (coll : Int) (w : World) :
    Calls Try.prog 12 #[Value.agg #[.int .i64 (3), .int .i64 (na), .string (sa)], Value.agg #[.int .i64 (3), .int .i64 (nb), .string (sb)], .int .i64 coll] w (Ret (.int .i64 (cmpR 3 na sa 3 nb sb coll)) w) := by
  have hr : cmpR 3 na sa 3 nb sb coll = Lib.compareBytes sa.data.toList sb.data.toList := by simp [cmpR]
  have Hr := Lib.hid hr
  clear hr
  go_enter Try.func12, Try.ntmps12
  go_wp2_with (first | (go_at_call 34; refine (Try.strings_Compare _ _ _).mono ?_; rintro e w' ⟨rfl, rfl⟩) | ((with_reducible refine region_draws ?_); go_quiet (fail)))
  go_ret
  refine ⟨ret_int (by rw [Hr.out]), ?_⟩
  repeat (first | exact Below.refl _ _ | assumption | refine Below.drew ?_ | refine below_drewN ?_ _ | refine Below.setCell ?_ (by first | exact Nat.le_refl _ | omega | (simp; done) | (simp; omega)) _ | refine Below.alloc ?_ (by first | exact Nat.le_refl _ | omega | (simp; done) | (simp; omega)) _ | refine Below.trans ?_ (Below.mono (by assumption) (by first | exact Nat.le_refl _ | omega | (simp; done) | (simp; omega))))
theorem vCompare_else (k na : Int) (sa : ByteArray) (nb : Int) (sb : ByteArray) (coll : Int) (h1 : k ≠ 1) (h2 : k ≠ 2) (h3 : k ≠ 3) (w : World) :
    Calls Try.prog 12 #[Value.agg #[.int .i64 (k), .int .i64 (na), .string (sa)], Value.agg #[.int .i64 (k), .int .i64 (nb), .string (sb)], .int .i64 coll] w (Ret (.int .i64 (cmpR k na sa k nb sb coll)) w) := by
  have hr : cmpR k na sa k nb sb coll = 0 := by simp [cmpR, h1, h2, h3]
  have Hr := Lib.hid hr
  have t1 : (k == 1) = false := by simpa using h1
  have t2 : (k == 2) = false := by simpa using h2
  have t3 : (k == 3) = false := by simpa using h3
  clear hr
  go_enter Try.func12, Try.ntmps12
  go_wp2_with (first | ((with_reducible refine region_draws ?_); go_quiet (fail)))
  go_ret
  refine ⟨ret_int (by rw [Hr.out]), ?_⟩
  repeat (first | exact Below.refl _ _ | assumption | refine Below.drew ?_ | refine below_drewN ?_ _ | refine Below.setCell ?_ (by first | exact Nat.le_refl _ | omega | (simp; done) | (simp; omega)) _ | refine Below.alloc ?_ (by first | exact Nat.le_refl _ | omega | (simp; done) | (simp; omega)) _ | refine Below.trans ?_ (Below.mono (by assumption) (by first | exact Nat.le_refl _ | omega | (simp; done) | (simp; omega))))
theorem vCompare (ka na : Int) (sa : ByteArray) (kb nb : Int) (sb : ByteArray) (coll : Int) (hsa : sa.size ≤ 9223372036854775807) (hsb : sb.size ≤ 9223372036854775807) (w : World) :
    Calls Try.prog 12 #[Value.agg #[.int .i64 (ka), .int .i64 (na), .string (sa)], Value.agg #[.int .i64 (kb), .int .i64 (nb), .string (sb)], .int .i64 coll] w (Ret (.int .i64 (cmpR ka na sa kb nb sb coll)) w) := by
  by_cases h : ka = kb
  · subst h
    by_cases h1 : ka = 1
    · subst h1; exact vCompare_int _ _ _ _ _ _
    by_cases h2 : ka = 2
    · subst h2
      by_cases hc : coll = 1
      · subst hc; exact vCompare_text1 _ _ _ _ hsa hsb _
      · exact vCompare_text0 _ _ _ _ _ hc _
    by_cases h3 : ka = 3
    · subst h3; exact vCompare_blob _ _ _ _ _ _
    · exact vCompare_else _ _ _ _ _ _ h1 h2 h3 _
  · exact vCompare_kind _ _ _ _ _ _ _ h _
end Go.Proofs.Ytbgndledcnfceaa
