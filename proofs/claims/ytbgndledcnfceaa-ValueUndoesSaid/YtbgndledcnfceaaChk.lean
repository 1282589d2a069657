/- What Check and Truth compute, in package value and in the document. No condition. -/
import Derived.Test.YtbgndledcnfceaaVal1
import Derived.Lib.Strings
namespace Go.Proofs.Ytbgndledcnfceaa
open Go.ChangeShapes Go.WideShapes Go.ChangeAt Go.RowKit

theorem vTruth (k n : Int) (s : ByteArray) (w : World) : Calls Try.prog 9 #[Value.agg #[.int .i64 (k), .int .i64 (n), .string (s)]] w (Ret (.tuple #[.bool (k == 1 && n != 0), .bool (k == 1)]) w) := by
  cases t : k == 1
  all_goals
    go_enter Try.func9, Try.ntmps9
    go_wp2_with (first | ((with_reducible refine region_draws ?_); go_quiet (fail)))
    go_ret2
    refine ⟨by simp [*] <;> rfl, ?_⟩
    repeat (first | exact Below.refl _ _ | assumption | refine Below.drew ?_ | refine below_drewN ?_ _ | refine Below.setCell ?_ (by first | exact Nat.le_refl _ | omega | (simp; done) | (simp; omega)) _ | refine Below.alloc ?_ (by first | exact Nat.le_refl _ | omega | (simp; done) | (simp; omega)) _ | refine Below.trans ?_ (Below.mono (by assumption) (by first | exact Nat.le_refl _ | omega | (simp; done) | (simp; omega))))
theorem rTruth (k n : Int) (s : ByteArray) (w : World) : Calls Try.prog 10 #[Value.agg #[.int .i64 (k), .int .i64 (n), .string (s)]] w (Ret (.tuple #[.bool (k == 1 && n != 0), .bool (k == 1)]) w) := by
  cases t : k == 1
  all_goals
    go_enter Try.func10, Try.ntmps10
    go_wp2_with (first | ((with_reducible refine region_draws ?_); go_quiet (fail)))
    go_ret2
    refine ⟨by simp [*] <;> rfl, ?_⟩
    repeat (first | exact Below.refl _ _ | assumption | refine Below.drew ?_ | refine below_drewN ?_ _ | refine Below.setCell ?_ (by first | exact Nat.le_refl _ | omega | (simp; done) | (simp; omega)) _ | refine Below.alloc ?_ (by first | exact Nat.le_refl _ | omega | (simp; done) | (simp; omega)) _ | refine Below.trans ?_ (Below.mono (by assumption) (by first | exact Nat.le_refl _ | omega | (simp; done) | (simp; omega))))

theorem vbare0 (n : Int) (s : ByteArray) (w : World) : Calls Try.prog 37 #[Value.agg #[.int .i64 (0), .int .i64 (n), .string (s)]] w (Ret (.tuple #[Value.agg #[.int .i64 0, .int .i64 0, .string ⟨#[]⟩], .bool true]) w) := by
  go_enter Try.func37, Try.ntmps37
  go_wp2_with (first | ((with_reducible refine region_draws ?_); go_quiet (fail)))
  refine bodyPost_ret (v := .tuple #[Value.agg #[.int .i64 0, .int .i64 0, .string ⟨#[]⟩], .bool true]) (by simp [results, Try.results37, go_sem, *]) rfl ⟨rfl, ?_⟩
  repeat (first | exact Below.refl _ _ | assumption | refine Below.drew ?_ | refine below_drewN ?_ _ | refine Below.setCell ?_ (by first | exact Nat.le_refl _ | omega | (simp; done) | (simp; omega)) _ | refine Below.alloc ?_ (by first | exact Nat.le_refl _ | omega | (simp; done) | (simp; omega)) _ | refine Below.trans ?_ (Below.mono (by assumption) (by first | exact Nat.le_refl _ | omega | (simp; done) | (simp; omega))))
theorem vbare1 (n : Int) (s : ByteArray) (w : World) : Calls Try.prog 37 #[Value.agg #[.int .i64 (1), .int .i64 (n), .string (s)]] w (Ret (.tuple #[Value.agg #[.int .i64 (1), .int .i64 (n), .string (⟨#[]⟩)], .bool true]) w) := by
  go_enter Try.func37, Try.ntmps37
  go_wp2_with (first | (go_at_call 16; refine (vNum _ _).mono ?_; rintro e w1 ⟨rfl, hb1⟩; obtain ⟨hc1, hf1⟩ := bcell hb1; have hz1 := hb1.size; (try simp at hz1); obtain ⟨hl1, hm1⟩ := bsz hb1; (try have hl1_0 : w.heap.size < w1.heap.size := by omega); (try have hm1_0 : w.heap.size ≤ w1.heap.size := by omega); (try have hl1_1 : w.heap.size + 1 < w1.heap.size := by omega); (try have hm1_1 : w.heap.size + 1 ≤ w1.heap.size := by omega); (try have hl1_2 : w.heap.size + 1 + 1 < w1.heap.size := by omega); (try have hm1_2 : w.heap.size + 1 + 1 ≤ w1.heap.size := by omega); (try have hl1_3 : w.heap.size + 1 + 1 + 1 < w1.heap.size := by omega); (try have hm1_3 : w.heap.size + 1 + 1 + 1 ≤ w1.heap.size := by omega)) | ((with_reducible refine region_draws ?_); go_quiet (fail)))
  refine bodyPost_ret (v := .tuple #[Value.agg #[.int .i64 (1), .int .i64 (n), .string (⟨#[]⟩)], .bool true]) (by simp [results, Try.results37, go_sem, *]) rfl ⟨rfl, ?_⟩
  repeat (first | exact Below.refl _ _ | assumption | refine Below.drew ?_ | refine below_drewN ?_ _ | refine Below.setCell ?_ (by first | exact Nat.le_refl _ | omega | (simp; done) | (simp; omega)) _ | refine Below.alloc ?_ (by first | exact Nat.le_refl _ | omega | (simp; done) | (simp; omega)) _ | refine Below.trans ?_ (Below.mono (by assumption) (by first | exact Nat.le_refl _ | omega | (simp; done) | (simp; omega))))
theorem vbare2 (n : Int) (s : ByteArray) (w : World) : Calls Try.prog 37 #[Value.agg #[.int .i64 (2), .int .i64 (n), .string (s)]] w (Ret (.tuple #[Value.agg #[.int .i64 (2), .int .i64 (0), .string (s)], .bool true]) w) := by
  go_enter Try.func37, Try.ntmps37
  go_wp2_with (first | ((with_reducible refine region_draws ?_); go_quiet (fail)))
  refine bodyPost_ret (v := .tuple #[Value.agg #[.int .i64 (2), .int .i64 (0), .string (s)], .bool true]) (by simp [results, Try.results37, go_sem, *]) rfl ⟨rfl, ?_⟩
  repeat (first | exact Below.refl _ _ | assumption | refine Below.drew ?_ | refine below_drewN ?_ _ | refine Below.setCell ?_ (by first | exact Nat.le_refl _ | omega | (simp; done) | (simp; omega)) _ | refine Below.alloc ?_ (by first | exact Nat.le_refl _ | omega | (simp; done) | (simp; omega)) _ | refine Below.trans ?_ (Below.mono (by assumption) (by first | exact Nat.le_refl _ | omega | (simp; done) | (simp; omega))))
theorem vbare3 (n : Int) (s : ByteArray) (w : World) : Calls Try.prog 37 #[Value.agg #[.int .i64 (3), .int .i64 (n), .string (s)]] w (Ret (.tuple #[Value.agg #[.int .i64 (3), .int .i64 (0), .string (s)], .bool true]) w) := by
  go_enter Try.func37, Try.ntmps37
  go_wp2_with (first | ((with_reducible refine region_draws ?_); go_quiet (fail)))
  refine bodyPost_ret (v := .tuple #[Value.agg #[.int .i64 (3), .int .i64 (0), .string (s)], .bool true]) (by simp [results, Try.results37, go_sem, *]) rfl ⟨rfl, ?_⟩
  repeat (first | exact Below.refl _ _ | assumption | refine Below.drew ?_ | refine below_drewN ?_ _ | refine Below.setCell ?_ (by first | exact Nat.le_refl _ | omega | (simp; done) | (simp; omega)) _ | refine Below.alloc ?_ (by first | exact Nat.le_refl _ | omega | (simp; done) | (simp; omega)) _ | refine Below.trans ?_ (Below.mono (by assumption) (by first | exact Nat.le_refl _ | omega | (simp; done) | (simp; omega))))
theorem vbareX (k n : Int) (s : ByteArray) (h : k < 0 ∨ 3 < k) (w : World) : Calls Try.prog 37 #[Value.agg #[.int .i64 (k), .int .i64 (n), .string (s)]] w (Ret (.tuple #[Value.agg #[.int .i64 0, .int .i64 0, .string ⟨#[]⟩], .bool false]) w) := by
  have t0 : (k == 0) = false := by simp; omega
  have t1 : (k == 1) = false := by simp; omega
  have t2 : (k == 2) = false := by simp; omega
  have t3 : (k == 3) = false := by simp; omega
  go_enter Try.func37, Try.ntmps37
  go_wp2_with (first | ((with_reducible refine region_draws ?_); go_quiet (fail)))
  refine bodyPost_ret (v := .tuple #[Value.agg #[.int .i64 0, .int .i64 0, .string ⟨#[]⟩], .bool false]) (by simp [results, Try.results37, go_sem, *]) rfl ⟨rfl, ?_⟩
  repeat (first | exact Below.refl _ _ | assumption | refine Below.drew ?_ | refine below_drewN ?_ _ | refine Below.setCell ?_ (by first | exact Nat.le_refl _ | omega | (simp; done) | (simp; omega)) _ | refine Below.alloc ?_ (by first | exact Nat.le_refl _ | omega | (simp; done) | (simp; omega)) _ | refine Below.trans ?_ (Below.mono (by assumption) (by first | exact Nat.le_refl _ | omega | (simp; done) | (simp; omega))))

def chkR (k n : Int) (s : ByteArray) : Int := if k < 0 ∨ 3 < k ∨ (k ≠ 1 ∧ n ≠ 0) ∨ (k < 2 ∧ s ≠ ⟨#[]⟩) then 1 else if 4096 < s.size then 3 else 0
theorem toList_ne (s : ByteArray) (h : s ≠ ⟨#[]⟩) : ¬ s.toList = [] := fun e => h (by
  rw [Lib.toList_data] at e
  cases s with
  | mk d => cases d with
    | mk l => simp at e; subst e; rfl)
theorem size_empty : (ByteArray.mk #[]).size = 0 := rfl

theorem vCheckX (k n : Int) (s : ByteArray) (h : k < 0 ∨ 3 < k) (w : World) : Calls Try.prog 14 #[Value.agg #[.int .i64 (k), .int .i64 (n), .string (s)]] w (Ret (.int .i64 1) w) := by
  have t0 : (k == 0) = false := by simp; omega
  have t1 : (k == 1) = false := by simp; omega
  have t2 : (k == 2) = false := by simp; omega
  have t3 : (k == 3) = false := by simp; omega
  go_enter Try.func14, Try.ntmps14
  go_wp2_with (first | (go_at_call 37; refine (vbareX _ _ _ h _).mono ?_; rintro e w1 ⟨rfl, hb1⟩; obtain ⟨hc1, hf1⟩ := bcell hb1; have hz1 := hb1.size; (try simp at hz1); obtain ⟨hl1, hm1⟩ := bsz hb1; (try have hl1_0 : w.heap.size < w1.heap.size := by omega); (try have hm1_0 : w.heap.size ≤ w1.heap.size := by omega); (try have hl1_1 : w.heap.size + 1 < w1.heap.size := by omega); (try have hm1_1 : w.heap.size + 1 ≤ w1.heap.size := by omega); (try have hl1_2 : w.heap.size + 1 + 1 < w1.heap.size := by omega); (try have hm1_2 : w.heap.size + 1 + 1 ≤ w1.heap.size := by omega); (try have hl1_3 : w.heap.size + 1 + 1 + 1 < w1.heap.size := by omega); (try have hm1_3 : w.heap.size + 1 + 1 + 1 ≤ w1.heap.size := by omega)) | ((with_reducible refine region_draws ?_); go_quiet (fail)))
  all_goals go_ret
  all_goals refine ⟨rfl, ?_⟩
  all_goals repeat (first | exact Below.refl _ _ | assumption | refine Below.drew ?_ | refine below_drewN ?_ _ | refine Below.setCell ?_ (by first | exact Nat.le_refl _ | omega | (simp; done) | (simp; omega)) _ | refine Below.alloc ?_ (by first | exact Nat.le_refl _ | omega | (simp; done) | (simp; omega)) _ | refine Below.trans ?_ (Below.mono (by assumption) (by first | exact Nat.le_refl _ | omega | (simp; done) | (simp; omega))))

theorem vCheck0n (n : Int) (s : ByteArray) (h : ¬ n = 0) (w : World) : Calls Try.prog 14 #[Value.agg #[.int .i64 (0), .int .i64 (n), .string (s)]] w (Ret (.int .i64 1) w) := by
  go_enter Try.func14, Try.ntmps14
  go_wp2_with (first | (go_at_call 37; refine (vbare0 _ _ _).mono ?_; rintro e w1 ⟨rfl, hb1⟩; obtain ⟨hc1, hf1⟩ := bcell hb1; have hz1 := hb1.size; (try simp at hz1); obtain ⟨hl1, hm1⟩ := bsz hb1; (try have hl1_0 : w.heap.size < w1.heap.size := by omega); (try have hm1_0 : w.heap.size ≤ w1.heap.size := by omega); (try have hl1_1 : w.heap.size + 1 < w1.heap.size := by omega); (try have hm1_1 : w.heap.size + 1 ≤ w1.heap.size := by omega); (try have hl1_2 : w.heap.size + 1 + 1 < w1.heap.size := by omega); (try have hm1_2 : w.heap.size + 1 + 1 ≤ w1.heap.size := by omega); (try have hl1_3 : w.heap.size + 1 + 1 + 1 < w1.heap.size := by omega); (try have hm1_3 : w.heap.size + 1 + 1 + 1 ≤ w1.heap.size := by omega)) | ((with_reducible refine region_draws ?_); go_quiet (fail)))
  all_goals go_ret
  all_goals refine ⟨rfl, ?_⟩
  all_goals repeat (first | exact Below.refl _ _ | assumption | refine Below.drew ?_ | refine below_drewN ?_ _ | refine Below.setCell ?_ (by first | exact Nat.le_refl _ | omega | (simp; done) | (simp; omega)) _ | refine Below.alloc ?_ (by first | exact Nat.le_refl _ | omega | (simp; done) | (simp; omega)) _ | refine Below.trans ?_ (Below.mono (by assumption) (by first | exact Nat.le_refl _ | omega | (simp; done) | (simp; omega))))

theorem vCheck2n (n : Int) (s : ByteArray) (h : ¬ n = 0) (w : World) : Calls Try.prog 14 #[Value.agg #[.int .i64 (2), .int .i64 (n), .string (s)]] w (Ret (.int .i64 1) w) := by
  go_enter Try.func14, Try.ntmps14
  go_wp2_with (first | (go_at_call 37; refine (vbare2 _ _ _).mono ?_; rintro e w1 ⟨rfl, hb1⟩; obtain ⟨hc1, hf1⟩ := bcell hb1; have hz1 := hb1.size; (try simp at hz1); obtain ⟨hl1, hm1⟩ := bsz hb1; (try have hl1_0 : w.heap.size < w1.heap.size := by omega); (try have hm1_0 : w.heap.size ≤ w1.heap.size := by omega); (try have hl1_1 : w.heap.size + 1 < w1.heap.size := by omega); (try have hm1_1 : w.heap.size + 1 ≤ w1.heap.size := by omega); (try have hl1_2 : w.heap.size + 1 + 1 < w1.heap.size := by omega); (try have hm1_2 : w.heap.size + 1 + 1 ≤ w1.heap.size := by omega); (try have hl1_3 : w.heap.size + 1 + 1 + 1 < w1.heap.size := by omega); (try have hm1_3 : w.heap.size + 1 + 1 + 1 ≤ w1.heap.size := by omega)) | ((with_reducible refine region_draws ?_); go_quiet (fail)))
  all_goals go_ret
  all_goals refine ⟨rfl, ?_⟩
  all_goals repeat (first | exact Below.refl _ _ | assumption | refine Below.drew ?_ | refine below_drewN ?_ _ | refine Below.setCell ?_ (by first | exact Nat.le_refl _ | omega | (simp; done) | (simp; omega)) _ | refine Below.alloc ?_ (by first | exact Nat.le_refl _ | omega | (simp; done) | (simp; omega)) _ | refine Below.trans ?_ (Below.mono (by assumption) (by first | exact Nat.le_refl _ | omega | (simp; done) | (simp; omega))))

theorem vCheck3n (n : Int) (s : ByteArray) (h : ¬ n = 0) (w : World) : Calls Try.prog 14 #[Value.agg #[.int .i64 (3), .int .i64 (n), .string (s)]] w (Ret (.int .i64 1) w) := by
  go_enter Try.func14, Try.ntmps14
  go_wp2_with (first | (go_at_call 37; refine (vbare3 _ _ _).mono ?_; rintro e w1 ⟨rfl, hb1⟩; obtain ⟨hc1, hf1⟩ := bcell hb1; have hz1 := hb1.size; (try simp at hz1); obtain ⟨hl1, hm1⟩ := bsz hb1; (try have hl1_0 : w.heap.size < w1.heap.size := by omega); (try have hm1_0 : w.heap.size ≤ w1.heap.size := by omega); (try have hl1_1 : w.heap.size + 1 < w1.heap.size := by omega); (try have hm1_1 : w.heap.size + 1 ≤ w1.heap.size := by omega); (try have hl1_2 : w.heap.size + 1 + 1 < w1.heap.size := by omega); (try have hm1_2 : w.heap.size + 1 + 1 ≤ w1.heap.size := by omega); (try have hl1_3 : w.heap.size + 1 + 1 + 1 < w1.heap.size := by omega); (try have hm1_3 : w.heap.size + 1 + 1 + 1 ≤ w1.heap.size := by omega)) | ((with_reducible refine region_draws ?_); go_quiet (fail)))
  all_goals go_ret
  all_goals refine ⟨rfl, ?_⟩
  all_goals repeat (first | exact Below.refl _ _ | assumption | refine Below.drew ?_ | refine below_drewN ?_ _ | refine Below.setCell ?_ (by first | exact Nat.le_refl _ | omega | (simp; done) | (simp; omega)) _ | refine Below.alloc ?_ (by first | exact Nat.le_refl _ | omega | (simp; done) | (simp; omega)) _ | refine Below.trans ?_ (Below.mono (by assumption) (by first | exact Nat.le_refl _ | omega | (simp; done) | (simp; omega))))

theorem vCheck0s (s : ByteArray) (h : ¬ s.toList = []) (w : World) : Calls Try.prog 14 #[Value.agg #[.int .i64 (0), .int .i64 (0), .string (s)]] w (Ret (.int .i64 1) w) := by
  have hse : s.toList.isEmpty = false := by simpa using h
  go_enter Try.func14, Try.ntmps14
  go_wp2_with (first | (go_at_call 37; refine (vbare0 _ _ _).mono ?_; rintro e w1 ⟨rfl, hb1⟩; obtain ⟨hc1, hf1⟩ := bcell hb1; have hz1 := hb1.size; (try simp at hz1); obtain ⟨hl1, hm1⟩ := bsz hb1; (try have hl1_0 : w.heap.size < w1.heap.size := by omega); (try have hm1_0 : w.heap.size ≤ w1.heap.size := by omega); (try have hl1_1 : w.heap.size + 1 < w1.heap.size := by omega); (try have hm1_1 : w.heap.size + 1 ≤ w1.heap.size := by omega); (try have hl1_2 : w.heap.size + 1 + 1 < w1.heap.size := by omega); (try have hm1_2 : w.heap.size + 1 + 1 ≤ w1.heap.size := by omega); (try have hl1_3 : w.heap.size + 1 + 1 + 1 < w1.heap.size := by omega); (try have hm1_3 : w.heap.size + 1 + 1 + 1 ≤ w1.heap.size := by omega)) | ((with_reducible refine region_draws ?_); go_quiet (fail)))
  all_goals go_ret
  all_goals refine ⟨rfl, ?_⟩
  all_goals repeat (first | exact Below.refl _ _ | assumption | refine Below.drew ?_ | refine below_drewN ?_ _ | refine Below.setCell ?_ (by first | exact Nat.le_refl _ | omega | (simp; done) | (simp; omega)) _ | refine Below.alloc ?_ (by first | exact Nat.le_refl _ | omega | (simp; done) | (simp; omega)) _ | refine Below.trans ?_ (Below.mono (by assumption) (by first | exact Nat.le_refl _ | omega | (simp; done) | (simp; omega))))

theorem vCheck0  (w : World) : Calls Try.prog 14 #[Value.agg #[.int .i64 (0), .int .i64 (0), .string (⟨#[]⟩)]] w (Ret (.int .i64 0) w) := by
  go_enter Try.func14, Try.ntmps14
  go_wp2_with (first | (go_at_call 37; refine (vbare0 _ _ _).mono ?_; rintro e w1 ⟨rfl, hb1⟩; obtain ⟨hc1, hf1⟩ := bcell hb1; have hz1 := hb1.size; (try simp at hz1); obtain ⟨hl1, hm1⟩ := bsz hb1; (try have hl1_0 : w.heap.size < w1.heap.size := by omega); (try have hm1_0 : w.heap.size ≤ w1.heap.size := by omega); (try have hl1_1 : w.heap.size + 1 < w1.heap.size := by omega); (try have hm1_1 : w.heap.size + 1 ≤ w1.heap.size := by omega); (try have hl1_2 : w.heap.size + 1 + 1 < w1.heap.size := by omega); (try have hm1_2 : w.heap.size + 1 + 1 ≤ w1.heap.size := by omega); (try have hl1_3 : w.heap.size + 1 + 1 + 1 < w1.heap.size := by omega); (try have hm1_3 : w.heap.size + 1 + 1 + 1 ≤ w1.heap.size := by omega)) | ((with_reducible refine region_draws ?_); go_quiet (fail)))
  all_goals go_ret
  all_goals refine ⟨rfl, ?_⟩
  all_goals repeat (first | exact Below.refl _ _ | assumption | refine Below.drew ?_ | refine below_drewN ?_ _ | refine Below.setCell ?_ (by first | exact Nat.le_refl _ | omega | (simp; done) | (simp; omega)) _ | refine Below.alloc ?_ (by first | exact Nat.le_refl _ | omega | (simp; done) | (simp; omega)) _ | refine Below.trans ?_ (Below.mono (by assumption) (by first | exact Nat.le_refl _ | omega | (simp; done) | (simp; omega))))

theorem vCheck1s (n : Int) (s : ByteArray) (h : ¬ s.toList = []) (w : World) : Calls Try.prog 14 #[Value.agg #[.int .i64 (1), .int .i64 (n), .string (s)]] w (Ret (.int .i64 1) w) := by
  have hse : s.toList.isEmpty = false := by simpa using h
  go_enter Try.func14, Try.ntmps14
  go_wp2_with (first | (go_at_call 37; refine (vbare1 _ _ _).mono ?_; rintro e w1 ⟨rfl, hb1⟩; obtain ⟨hc1, hf1⟩ := bcell hb1; have hz1 := hb1.size; (try simp at hz1); obtain ⟨hl1, hm1⟩ := bsz hb1; (try have hl1_0 : w.heap.size < w1.heap.size := by omega); (try have hm1_0 : w.heap.size ≤ w1.heap.size := by omega); (try have hl1_1 : w.heap.size + 1 < w1.heap.size := by omega); (try have hm1_1 : w.heap.size + 1 ≤ w1.heap.size := by omega); (try have hl1_2 : w.heap.size + 1 + 1 < w1.heap.size := by omega); (try have hm1_2 : w.heap.size + 1 + 1 ≤ w1.heap.size := by omega); (try have hl1_3 : w.heap.size + 1 + 1 + 1 < w1.heap.size := by omega); (try have hm1_3 : w.heap.size + 1 + 1 + 1 ≤ w1.heap.size := by omega)) | ((with_reducible refine region_draws ?_); go_quiet (fail)))
  all_goals go_ret
  all_goals refine ⟨rfl, ?_⟩
  all_goals repeat (first | exact Below.refl _ _ | assumption | refine Below.drew ?_ | refine below_drewN ?_ _ | refine Below.setCell ?_ (by first | exact Nat.le_refl _ | omega | (simp; done) | (simp; omega)) _ | refine Below.alloc ?_ (by first | exact Nat.le_refl _ | omega | (simp; done) | (simp; omega)) _ | refine Below.trans ?_ (Below.mono (by assumption) (by first | exact Nat.le_refl _ | omega | (simp; done) | (simp; omega))))

theorem vCheck1 (n : Int) (w : World) : Calls Try.prog 14 #[Value.agg #[.int .i64 (1), .int .i64 (n), .string (⟨#[]⟩)]] w (Ret (.int .i64 0) w) := by
  go_enter Try.func14, Try.ntmps14
  go_wp2_with (first | (go_at_call 37; refine (vbare1 _ _ _).mono ?_; rintro e w1 ⟨rfl, hb1⟩; obtain ⟨hc1, hf1⟩ := bcell hb1; have hz1 := hb1.size; (try simp at hz1); obtain ⟨hl1, hm1⟩ := bsz hb1; (try have hl1_0 : w.heap.size < w1.heap.size := by omega); (try have hm1_0 : w.heap.size ≤ w1.heap.size := by omega); (try have hl1_1 : w.heap.size + 1 < w1.heap.size := by omega); (try have hm1_1 : w.heap.size + 1 ≤ w1.heap.size := by omega); (try have hl1_2 : w.heap.size + 1 + 1 < w1.heap.size := by omega); (try have hm1_2 : w.heap.size + 1 + 1 ≤ w1.heap.size := by omega); (try have hl1_3 : w.heap.size + 1 + 1 + 1 < w1.heap.size := by omega); (try have hm1_3 : w.heap.size + 1 + 1 + 1 ≤ w1.heap.size := by omega)) | ((with_reducible refine region_draws ?_); go_quiet (fail)))
  all_goals go_ret
  all_goals refine ⟨rfl, ?_⟩
  all_goals repeat (first | exact Below.refl _ _ | assumption | refine Below.drew ?_ | refine below_drewN ?_ _ | refine Below.setCell ?_ (by first | exact Nat.le_refl _ | omega | (simp; done) | (simp; omega)) _ | refine Below.alloc ?_ (by first | exact Nat.le_refl _ | omega | (simp; done) | (simp; omega)) _ | refine Below.trans ?_ (Below.mono (by assumption) (by first | exact Nat.le_refl _ | omega | (simp; done) | (simp; omega))))

theorem vCheck2l (s : ByteArray) (h : (4096 : Int) < s.size) (w : World) : Calls Try.prog 14 #[Value.agg #[.int .i64 (2), .int .i64 (0), .string (s)]] w (Ret (.int .i64 3) w) := by
  go_enter Try.func14, Try.ntmps14
  go_wp2_with (first | (go_at_call 37; refine (vbare2 _ _ _).mono ?_; rintro e w1 ⟨rfl, hb1⟩; obtain ⟨hc1, hf1⟩ := bcell hb1; have hz1 := hb1.size; (try simp at hz1); obtain ⟨hl1, hm1⟩ := bsz hb1; (try have hl1_0 : w.heap.size < w1.heap.size := by omega); (try have hm1_0 : w.heap.size ≤ w1.heap.size := by omega); (try have hl1_1 : w.heap.size + 1 < w1.heap.size := by omega); (try have hm1_1 : w.heap.size + 1 ≤ w1.heap.size := by omega); (try have hl1_2 : w.heap.size + 1 + 1 < w1.heap.size := by omega); (try have hm1_2 : w.heap.size + 1 + 1 ≤ w1.heap.size := by omega); (try have hl1_3 : w.heap.size + 1 + 1 + 1 < w1.heap.size := by omega); (try have hm1_3 : w.heap.size + 1 + 1 + 1 ≤ w1.heap.size := by omega)) | ((with_reducible refine region_draws ?_); go_quiet (fail)))
  all_goals go_ret
  all_goals refine ⟨rfl, ?_⟩
  all_goals repeat (first | exact Below.refl _ _ | assumption | refine Below.drew ?_ | refine below_drewN ?_ _ | refine Below.setCell ?_ (by first | exact Nat.le_refl _ | omega | (simp; done) | (simp; omega)) _ | refine Below.alloc ?_ (by first | exact Nat.le_refl _ | omega | (simp; done) | (simp; omega)) _ | refine Below.trans ?_ (Below.mono (by assumption) (by first | exact Nat.le_refl _ | omega | (simp; done) | (simp; omega))))

theorem vCheck2 (s : ByteArray) (h : ¬ (4096 : Int) < s.size) (w : World) : Calls Try.prog 14 #[Value.agg #[.int .i64 (2), .int .i64 (0), .string (s)]] w (Ret (.int .i64 0) w) := by
  go_enter Try.func14, Try.ntmps14
  go_wp2_with (first | (go_at_call 37; refine (vbare2 _ _ _).mono ?_; rintro e w1 ⟨rfl, hb1⟩; obtain ⟨hc1, hf1⟩ := bcell hb1; have hz1 := hb1.size; (try simp at hz1); obtain ⟨hl1, hm1⟩ := bsz hb1; (try have hl1_0 : w.heap.size < w1.heap.size := by omega); (try have hm1_0 : w.heap.size ≤ w1.heap.size := by omega); (try have hl1_1 : w.heap.size + 1 < w1.heap.size := by omega); (try have hm1_1 : w.heap.size + 1 ≤ w1.heap.size := by omega); (try have hl1_2 : w.heap.size + 1 + 1 < w1.heap.size := by omega); (try have hm1_2 : w.heap.size + 1 + 1 ≤ w1.heap.size := by omega); (try have hl1_3 : w.heap.size + 1 + 1 + 1 < w1.heap.size := by omega); (try have hm1_3 : w.heap.size + 1 + 1 + 1 ≤ w1.heap.size := by omega)) | ((with_reducible refine region_draws ?_); go_quiet (fail)))
  all_goals go_ret
  all_goals refine ⟨rfl, ?_⟩
  all_goals repeat (first | exact Below.refl _ _ | assumption | refine Below.drew ?_ | refine below_drewN ?_ _ | refine Below.setCell ?_ (by first | exact Nat.le_refl _ | omega | (simp; done) | (simp; omega)) _ | refine Below.alloc ?_ (by first | exact Nat.le_refl _ | omega | (simp; done) | (simp; omega)) _ | refine Below.trans ?_ (Below.mono (by assumption) (by first | exact Nat.le_refl _ | omega | (simp; done) | (simp; omega))))

theorem vCheck3l (s : ByteArray) (h : (4096 : Int) < s.size) (w : World) : Calls Try.prog 14 #[Value.agg #[.int .i64 (3), .int .i64 (0), .string (s)]] w (Ret (.int .i64 3) w) := by
  go_enter Try.func14, Try.ntmps14
  go_wp2_with (first | (go_at_call 37; refine (vbare3 _ _ _).mono ?_; rintro e w1 ⟨rfl, hb1⟩; obtain ⟨hc1, hf1⟩ := bcell hb1; have hz1 := hb1.size; (try simp at hz1); obtain ⟨hl1, hm1⟩ := bsz hb1; (try have hl1_0 : w.heap.size < w1.heap.size := by omega); (try have hm1_0 : w.heap.size ≤ w1.heap.size := by omega); (try have hl1_1 : w.heap.size + 1 < w1.heap.size := by omega); (try have hm1_1 : w.heap.size + 1 ≤ w1.heap.size := by omega); (try have hl1_2 : w.heap.size + 1 + 1 < w1.heap.size := by omega); (try have hm1_2 : w.heap.size + 1 + 1 ≤ w1.heap.size := by omega); (try have hl1_3 : w.heap.size + 1 + 1 + 1 < w1.heap.size := by omega); (try have hm1_3 : w.heap.size + 1 + 1 + 1 ≤ w1.heap.size := by omega)) | ((with_reducible refine region_draws ?_); go_quiet (fail)))
  all_goals go_ret
  all_goals refine ⟨rfl, ?_⟩
  all_goals repeat (first | exact Below.refl _ _ | assumption | refine Below.drew ?_ | refine below_drewN ?_ _ | refine Below.setCell ?_ (by first | exact Nat.le_refl _ | omega | (simp; done) | (simp; omega)) _ | refine Below.alloc ?_ (by first | exact Nat.le_refl _ | omega | (simp; done) | (simp; omega)) _ | refine Below.trans ?_ (Below.mono (by assumption) (by first | exact Nat.le_refl _ | omega | (simp; done) | (simp; omega))))

theorem vCheck3 (s : ByteArray) (h : ¬ (4096 : Int) < s.size) (w : World) : Calls Try.prog 14 #[Value.agg #[.int .i64 (3), .int .i64 (0), .string (s)]] w (Ret (.int .i64 0) w) := by
  go_enter Try.func14, Try.ntmps14
  go_wp2_with (first | (go_at_call 37; refine (vbare3 _ _ _).mono ?_; rintro e w1 ⟨rfl, hb1⟩; obtain ⟨hc1, hf1⟩ := bcell hb1; have hz1 := hb1.size; (try simp at hz1); obtain ⟨hl1, hm1⟩ := bsz hb1; (try have hl1_0 : w.heap.size < w1.heap.size := by omega); (try have hm1_0 : w.heap.size ≤ w1.heap.size := by omega); (try have hl1_1 : w.heap.size + 1 < w1.heap.size := by omega); (try have hm1_1 : w.heap.size + 1 ≤ w1.heap.size := by omega); (try have hl1_2 : w.heap.size + 1 + 1 < w1.heap.size := by omega); (try have hm1_2 : w.heap.size + 1 + 1 ≤ w1.heap.size := by omega); (try have hl1_3 : w.heap.size + 1 + 1 + 1 < w1.heap.size := by omega); (try have hm1_3 : w.heap.size + 1 + 1 + 1 ≤ w1.heap.size := by omega)) | ((with_reducible refine region_draws ?_); go_quiet (fail)))
  all_goals go_ret
  all_goals refine ⟨rfl, ?_⟩
  all_goals repeat (first | exact Below.refl _ _ | assumption | refine Below.drew ?_ | refine below_drewN ?_ _ | refine Below.setCell ?_ (by first | exact Nat.le_refl _ | omega | (simp; done) | (simp; omega)) _ | refine Below.alloc ?_ (by first | exact Nat.le_refl _ | omega | (simp; done) | (simp; omega)) _ | refine Below.trans ?_ (Below.mono (by assumption) (by first | exact Nat.le_refl _ | omega | (simp; done) | (simp; omega))))

theorem vCheck (k n : Int) (s : ByteArray) (w : World) : Calls Try.prog 14 #[Value.agg #[.int .i64 (k), .int .i64 (n), .string (s)]] w (Ret (.int .i64 (chkR k n s)) w) := by
  by_cases hk : k < 0 ∨ 3 < k
  · rw [show chkR k n s = 1 from by unfold chkR; rw [if_pos (by omega)]]
    exact vCheckX _ _ _ hk _
  have hk4 : k = 0 ∨ k = 1 ∨ k = 2 ∨ k = 3 := by omega
  by_cases hn : n = 0
  · subst hn
    rcases hk4 with rfl | rfl | rfl | rfl
    · by_cases hs : s = ⟨#[]⟩
      · subst hs; exact vCheck0 w
      · rw [show chkR 0 0 s = 1 from by unfold chkR; rw [if_pos (by simp [hs])]]
        exact vCheck0s _ (toList_ne s hs) _
    · by_cases hs : s = ⟨#[]⟩
      · subst hs; exact vCheck1 _ w
      · rw [show chkR 1 0 s = 1 from by unfold chkR; rw [if_pos (by simp [hs])]]
        exact vCheck1s _ _ (toList_ne s hs) _
    · by_cases hl : (4096 : Int) < s.size
      · rw [show chkR 2 0 s = 3 from by unfold chkR; rw [if_neg (by simp), if_pos (by omega)]]
        exact vCheck2l _ hl _
      · rw [show chkR 2 0 s = 0 from by unfold chkR; rw [if_neg (by simp), if_neg (by omega)]]
        exact vCheck2 _ hl _
    · by_cases hl : (4096 : Int) < s.size
      · rw [show chkR 3 0 s = 3 from by unfold chkR; rw [if_neg (by simp), if_pos (by omega)]]
        exact vCheck3l _ hl _
      · rw [show chkR 3 0 s = 0 from by unfold chkR; rw [if_neg (by simp), if_neg (by omega)]]
        exact vCheck3 _ hl _
  · rcases hk4 with rfl | rfl | rfl | rfl
    · rw [show chkR 0 n s = 1 from by unfold chkR; rw [if_pos (by simp [hn])]]
      exact vCheck0n _ _ hn _
    · by_cases hs : s = ⟨#[]⟩
      · subst hs
        rw [show chkR 1 n ⟨#[]⟩ = 0 from by unfold chkR; rw [if_neg (by simp), if_neg (by rw [size_empty]; omega)]]
        exact vCheck1 _ w
      · rw [show chkR 1 n s = 1 from by unfold chkR; rw [if_pos (by simp [hs])]]
        exact vCheck1s _ _ (toList_ne s hs) _
    · rw [show chkR 2 n s = 1 from by unfold chkR; rw [if_pos (by simp [hn])]]
      exact vCheck2n _ _ hn _
    · rw [show chkR 3 n s = 1 from by unfold chkR; rw [if_pos (by simp [hn])]]
      exact vCheck3n _ _ hn _

theorem rCheckX (k n : Int) (s : ByteArray) (h : k < 0 ∨ 3 < k) (w : World) : Calls Try.prog 15 #[Value.agg #[.int .i64 (k), .int .i64 (n), .string (s)]] w (Ret (.int .i64 1) w) := by
  have t0 : (k == 0) = false := by simp; omega
  have t1 : (k == 1) = false := by simp; omega
  have t2 : (k == 2) = false := by simp; omega
  have t3 : (k == 3) = false := by simp; omega
  go_enter Try.func15, Try.ntmps15
  go_wp2_with (first | ((with_reducible refine region_draws ?_); go_quiet (fail)))
  all_goals go_ret
  all_goals refine ⟨rfl, ?_⟩
  all_goals repeat (first | exact Below.refl _ _ | assumption | refine Below.drew ?_ | refine below_drewN ?_ _ | refine Below.setCell ?_ (by first | exact Nat.le_refl _ | omega | (simp; done) | (simp; omega)) _ | refine Below.alloc ?_ (by first | exact Nat.le_refl _ | omega | (simp; done) | (simp; omega)) _ | refine Below.trans ?_ (Below.mono (by assumption) (by first | exact Nat.le_refl _ | omega | (simp; done) | (simp; omega))))

theorem rCheck0n (n : Int) (s : ByteArray) (h : ¬ n = 0) (w : World) : Calls Try.prog 15 #[Value.agg #[.int .i64 (0), .int .i64 (n), .string (s)]] w (Ret (.int .i64 1) w) := by
  go_enter Try.func15, Try.ntmps15
  go_wp2_with (first | ((with_reducible refine region_draws ?_); go_quiet (fail)))
  all_goals go_ret
  all_goals refine ⟨rfl, ?_⟩
  all_goals repeat (first | exact Below.refl _ _ | assumption | refine Below.drew ?_ | refine below_drewN ?_ _ | refine Below.setCell ?_ (by first | exact Nat.le_refl _ | omega | (simp; done) | (simp; omega)) _ | refine Below.alloc ?_ (by first | exact Nat.le_refl _ | omega | (simp; done) | (simp; omega)) _ | refine Below.trans ?_ (Below.mono (by assumption) (by first | exact Nat.le_refl _ | omega | (simp; done) | (simp; omega))))

theorem rCheck2n (n : Int) (s : ByteArray) (h : ¬ n = 0) (w : World) : Calls Try.prog 15 #[Value.agg #[.int .i64 (2), .int .i64 (n), .string (s)]] w (Ret (.int .i64 1) w) := by
  go_enter Try.func15, Try.ntmps15
  go_wp2_with (first | ((with_reducible refine region_draws ?_); go_quiet (fail)))
  all_goals go_ret
  all_goals refine ⟨rfl, ?_⟩
  all_goals repeat (first | exact Below.refl _ _ | assumption | refine Below.drew ?_ | refine below_drewN ?_ _ | refine Below.setCell ?_ (by first | exact Nat.le_refl _ | omega | (simp; done) | (simp; omega)) _ | refine Below.alloc ?_ (by first | exact Nat.le_refl _ | omega | (simp; done) | (simp; omega)) _ | refine Below.trans ?_ (Below.mono (by assumption) (by first | exact Nat.le_refl _ | omega | (simp; done) | (simp; omega))))

theorem rCheck3n (n : Int) (s : ByteArray) (h : ¬ n = 0) (w : World) : Calls Try.prog 15 #[Value.agg #[.int .i64 (3), .int .i64 (n), .string (s)]] w (Ret (.int .i64 1) w) := by
  go_enter Try.func15, Try.ntmps15
  go_wp2_with (first | ((with_reducible refine region_draws ?_); go_quiet (fail)))
  all_goals go_ret
  all_goals refine ⟨rfl, ?_⟩
  all_goals repeat (first | exact Below.refl _ _ | assumption | refine Below.drew ?_ | refine below_drewN ?_ _ | refine Below.setCell ?_ (by first | exact Nat.le_refl _ | omega | (simp; done) | (simp; omega)) _ | refine Below.alloc ?_ (by first | exact Nat.le_refl _ | omega | (simp; done) | (simp; omega)) _ | refine Below.trans ?_ (Below.mono (by assumption) (by first | exact Nat.le_refl _ | omega | (simp; done) | (simp; omega))))

theorem rCheck0s (s : ByteArray) (h : ¬ s.toList = []) (w : World) : Calls Try.prog 15 #[Value.agg #[.int .i64 (0), .int .i64 (0), .string (s)]] w (Ret (.int .i64 1) w) := by
  have hse : s.toList.isEmpty = false := by simpa using h
  go_enter Try.func15, Try.ntmps15
  go_wp2_with (first | ((with_reducible refine region_draws ?_); go_quiet (fail)))
  all_goals go_ret
  all_goals refine ⟨rfl, ?_⟩
  all_goals repeat (first | exact Below.refl _ _ | assumption | refine Below.drew ?_ | refine below_drewN ?_ _ | refine Below.setCell ?_ (by first | exact Nat.le_refl _ | omega | (simp; done) | (simp; omega)) _ | refine Below.alloc ?_ (by first | exact Nat.le_refl _ | omega | (simp; done) | (simp; omega)) _ | refine Below.trans ?_ (Below.mono (by assumption) (by first | exact Nat.le_refl _ | omega | (simp; done) | (simp; omega))))

theorem rCheck0  (w : World) : Calls Try.prog 15 #[Value.agg #[.int .i64 (0), .int .i64 (0), .string (⟨#[]⟩)]] w (Ret (.int .i64 0) w) := by
  go_enter Try.func15, Try.ntmps15
  go_wp2_with (first | ((with_reducible refine region_draws ?_); go_quiet (fail)))
  all_goals go_ret
  all_goals refine ⟨rfl, ?_⟩
  all_goals repeat (first | exact Below.refl _ _ | assumption | refine Below.drew ?_ | refine below_drewN ?_ _ | refine Below.setCell ?_ (by first | exact Nat.le_refl _ | omega | (simp; done) | (simp; omega)) _ | refine Below.alloc ?_ (by first | exact Nat.le_refl _ | omega | (simp; done) | (simp; omega)) _ | refine Below.trans ?_ (Below.mono (by assumption) (by first | exact Nat.le_refl _ | omega | (simp; done) | (simp; omega))))

theorem rCheck1s (n : Int) (s : ByteArray) (h : ¬ s.toList = []) (w : World) : Calls Try.prog 15 #[Value.agg #[.int .i64 (1), .int .i64 (n), .string (s)]] w (Ret (.int .i64 1) w) := by
  have hse : s.toList.isEmpty = false := by simpa using h
  go_enter Try.func15, Try.ntmps15
  go_wp2_with (first | ((with_reducible refine region_draws ?_); go_quiet (fail)))
  all_goals go_ret
  all_goals refine ⟨rfl, ?_⟩
  all_goals repeat (first | exact Below.refl _ _ | assumption | refine Below.drew ?_ | refine below_drewN ?_ _ | refine Below.setCell ?_ (by first | exact Nat.le_refl _ | omega | (simp; done) | (simp; omega)) _ | refine Below.alloc ?_ (by first | exact Nat.le_refl _ | omega | (simp; done) | (simp; omega)) _ | refine Below.trans ?_ (Below.mono (by assumption) (by first | exact Nat.le_refl _ | omega | (simp; done) | (simp; omega))))

theorem rCheck1 (n : Int) (w : World) : Calls Try.prog 15 #[Value.agg #[.int .i64 (1), .int .i64 (n), .string (⟨#[]⟩)]] w (Ret (.int .i64 0) w) := by
  go_enter Try.func15, Try.ntmps15
  go_wp2_with (first | ((with_reducible refine region_draws ?_); go_quiet (fail)))
  all_goals go_ret
  all_goals refine ⟨rfl, ?_⟩
  all_goals repeat (first | exact Below.refl _ _ | assumption | refine Below.drew ?_ | refine below_drewN ?_ _ | refine Below.setCell ?_ (by first | exact Nat.le_refl _ | omega | (simp; done) | (simp; omega)) _ | refine Below.alloc ?_ (by first | exact Nat.le_refl _ | omega | (simp; done) | (simp; omega)) _ | refine Below.trans ?_ (Below.mono (by assumption) (by first | exact Nat.le_refl _ | omega | (simp; done) | (simp; omega))))

theorem rCheck2l (s : ByteArray) (h : (4096 : Int) < s.size) (w : World) : Calls Try.prog 15 #[Value.agg #[.int .i64 (2), .int .i64 (0), .string (s)]] w (Ret (.int .i64 3) w) := by
  go_enter Try.func15, Try.ntmps15
  go_wp2_with (first | ((with_reducible refine region_draws ?_); go_quiet (fail)))
  all_goals go_ret
  all_goals refine ⟨rfl, ?_⟩
  all_goals repeat (first | exact Below.refl _ _ | assumption | refine Below.drew ?_ | refine below_drewN ?_ _ | refine Below.setCell ?_ (by first | exact Nat.le_refl _ | omega | (simp; done) | (simp; omega)) _ | refine Below.alloc ?_ (by first | exact Nat.le_refl _ | omega | (simp; done) | (simp; omega)) _ | refine Below.trans ?_ (Below.mono (by assumption) (by first | exact Nat.le_refl _ | omega | (simp; done) | (simp; omega))))

theorem rCheck2 (s : ByteArray) (h : ¬ (4096 : Int) < s.size) (w : World) : Calls Try.prog 15 #[Value.agg #[.int .i64 (2), .int .i64 (0), .string (s)]] w (Ret (.int .i64 0) w) := by
  go_enter Try.func15, Try.ntmps15
  go_wp2_with (first | ((with_reducible refine region_draws ?_); go_quiet (fail)))
  all_goals go_ret
  all_goals refine ⟨rfl, ?_⟩
  all_goals repeat (first | exact Below.refl _ _ | assumption | refine Below.drew ?_ | refine below_drewN ?_ _ | refine Below.setCell ?_ (by first | exact Nat.le_refl _ | omega | (simp; done) | (simp; omega)) _ | refine Below.alloc ?_ (by first | exact Nat.le_refl _ | omega | (simp; done) | (simp; omega)) _ | refine Below.trans ?_ (Below.mono (by assumption) (by first | exact Nat.le_refl _ | omega | (simp; done) | (simp; omega))))

theorem rCheck3l (s : ByteArray) (h : (4096 : Int) < s.size) (w : World) : Calls Try.prog 15 #[Value.agg #[.int .i64 (3), .int .i64 (0), .string (s)]] w (Ret (.int .i64 3) w) := by
  go_enter Try.func15, Try.ntmps15
  go_wp2_with (first | ((with_reducible refine region_draws ?_); go_quiet (fail)))
  all_goals go_ret
  all_goals refine ⟨rfl, ?_⟩
  all_goals repeat (first | exact Below.refl _ _ | assumption | refine Below.drew ?_ | refine below_drewN ?_ _ | refine Below.setCell ?_ (by first | exact Nat.le_refl _ | omega | (simp; done) | (simp; omega)) _ | refine Below.alloc ?_ (by first | exact Nat.le_refl _ | omega | (simp; done) | (simp; omega)) _ | refine Below.trans ?_ (Below.mono (by assumption) (by first | exact Nat.le_refl _ | omega | (simp; done) | (simp; omega))))

theorem rCheck3 (s : ByteArray) (h : ¬ (4096 : Int) < s.size) (w : World) : Calls Try.prog 15 #[Value.agg #[.int .i64 (3), .int .i64 (0), .string (s)]] w (Ret (.int .i64 0) w) := by
  go_enter Try.func15, Try.ntmps15
  go_wp2_with (first | ((with_reducible refine region_draws ?_); go_quiet (fail)))
  all_goals go_ret
  all_goals refine ⟨rfl, ?_⟩
  all_goals repeat (first | exact Below.refl _ _ | assumption | refine Below.drew ?_ | refine below_drewN ?_ _ | refine Below.setCell ?_ (by first | exact Nat.le_refl _ | omega | (simp; done) | (simp; omega)) _ | refine Below.alloc ?_ (by first | exact Nat.le_refl _ | omega | (simp; done) | (simp; omega)) _ | refine Below.trans ?_ (Below.mono (by assumption) (by first | exact Nat.le_refl _ | omega | (simp; done) | (simp; omega))))

theorem rCheck (k n : Int) (s : ByteArray) (w : World) : Calls Try.prog 15 #[Value.agg #[.int .i64 (k), .int .i64 (n), .string (s)]] w (Ret (.int .i64 (chkR k n s)) w) := by
  by_cases hk : k < 0 ∨ 3 < k
  · rw [show chkR k n s = 1 from by unfold chkR; rw [if_pos (by omega)]]
    exact rCheckX _ _ _ hk _
  have hk4 : k = 0 ∨ k = 1 ∨ k = 2 ∨ k = 3 := by omega
  by_cases hn : n = 0
  · subst hn
    rcases hk4 with rfl | rfl | rfl | rfl
    · by_cases hs : s = ⟨#[]⟩
      · subst hs; exact rCheck0 w
      · rw [show chkR 0 0 s = 1 from by unfold chkR; rw [if_pos (by simp [hs])]]
        exact rCheck0s _ (toList_ne s hs) _
    · by_cases hs : s = ⟨#[]⟩
      · subst hs; exact rCheck1 _ w
      · rw [show chkR 1 0 s = 1 from by unfold chkR; rw [if_pos (by simp [hs])]]
        exact rCheck1s _ _ (toList_ne s hs) _
    · by_cases hl : (4096 : Int) < s.size
      · rw [show chkR 2 0 s = 3 from by unfold chkR; rw [if_neg (by simp), if_pos (by omega)]]
        exact rCheck2l _ hl _
      · rw [show chkR 2 0 s = 0 from by unfold chkR; rw [if_neg (by simp), if_neg (by omega)]]
        exact rCheck2 _ hl _
    · by_cases hl : (4096 : Int) < s.size
      · rw [show chkR 3 0 s = 3 from by unfold chkR; rw [if_neg (by simp), if_pos (by omega)]]
        exact rCheck3l _ hl _
      · rw [show chkR 3 0 s = 0 from by unfold chkR; rw [if_neg (by simp), if_neg (by omega)]]
        exact rCheck3 _ hl _
  · rcases hk4 with rfl | rfl | rfl | rfl
    · rw [show chkR 0 n s = 1 from by unfold chkR; rw [if_pos (by simp [hn])]]
      exact rCheck0n _ _ hn _
    · by_cases hs : s = ⟨#[]⟩
      · subst hs
        rw [show chkR 1 n ⟨#[]⟩ = 0 from by unfold chkR; rw [if_neg (by simp), if_neg (by rw [size_empty]; omega)]]
        exact rCheck1 _ w
      · rw [show chkR 1 n s = 1 from by unfold chkR; rw [if_pos (by simp [hs])]]
        exact rCheck1s _ _ (toList_ne s hs) _
    · rw [show chkR 2 n s = 1 from by unfold chkR; rw [if_pos (by simp [hn])]]
      exact rCheck2n _ _ hn _
    · rw [show chkR 3 n s = 1 from by unfold chkR; rw [if_pos (by simp [hn])]]
      exact rCheck3n _ _ hn _
end Go.Proofs.Ytbgndledcnfceaa
