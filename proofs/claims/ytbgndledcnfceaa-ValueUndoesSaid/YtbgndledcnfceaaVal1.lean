/- What the functions of package value compute, one contract each: first part (no loops). No condition. -/
import Derived.Test.YtbgndledcnfceaaPlainArith
namespace Go.Proofs.Ytbgndledcnfceaa
open Go.ChangeShapes Go.WideShapes Go.ChangeAt Go.RowKit

theorem vNum (n : Int) (w : World) : Calls Try.prog 16 #[.int .i64 n] w (Ret (Value.agg #[.int .i64 (1), .int .i64 (n), .string (⟨#[]⟩)]) w) := by
  go_enter Try.func16, Try.ntmps16
  go_wp2
  refine bodyPost_ret (v := Value.agg #[.int .i64 (1), .int .i64 (n), .string (⟨#[]⟩)]) (by simp [results, Try.results16, go_sem]) rfl ⟨rfl, ?_⟩
  repeat (first | exact Below.refl _ _ | assumption | refine Below.drew ?_ | refine below_drewN ?_ _ | refine Below.setCell ?_ (by first | exact Nat.le_refl _ | omega | (simp; done) | (simp; omega)) _ | refine Below.alloc ?_ (by first | exact Nat.le_refl _ | omega | (simp; done) | (simp; omega)) _ | refine Below.trans ?_ (Below.mono (by assumption) (by first | exact Nat.le_refl _ | omega | (simp; done) | (simp; omega))))

theorem vStr (s : ByteArray) (w : World) : Calls Try.prog 18 #[.string s] w (Ret (Value.agg #[.int .i64 (2), .int .i64 (0), .string (s)]) w) := by
  go_enter Try.func18, Try.ntmps18
  go_wp2
  refine bodyPost_ret (v := Value.agg #[.int .i64 (2), .int .i64 (0), .string (s)]) (by simp [results, Try.results18, go_sem]) rfl ⟨rfl, ?_⟩
  repeat (first | exact Below.refl _ _ | assumption | refine Below.drew ?_ | refine below_drewN ?_ _ | refine Below.setCell ?_ (by first | exact Nat.le_refl _ | omega | (simp; done) | (simp; omega)) _ | refine Below.alloc ?_ (by first | exact Nat.le_refl _ | omega | (simp; done) | (simp; omega)) _ | refine Below.trans ?_ (Below.mono (by assumption) (by first | exact Nat.le_refl _ | omega | (simp; done) | (simp; omega))))

theorem vBytes (s : ByteArray) (w : World) : Calls Try.prog 20 #[.string s] w (Ret (Value.agg #[.int .i64 (3), .int .i64 (0), .string (s)]) w) := by
  go_enter Try.func20, Try.ntmps20
  go_wp2
  refine bodyPost_ret (v := Value.agg #[.int .i64 (3), .int .i64 (0), .string (s)]) (by simp [results, Try.results20, go_sem]) rfl ⟨rfl, ?_⟩
  repeat (first | exact Below.refl _ _ | assumption | refine Below.drew ?_ | refine below_drewN ?_ _ | refine Below.setCell ?_ (by first | exact Nat.le_refl _ | omega | (simp; done) | (simp; omega)) _ | refine Below.alloc ?_ (by first | exact Nat.le_refl _ | omega | (simp; done) | (simp; omega)) _ | refine Below.trans ?_ (Below.mono (by assumption) (by first | exact Nat.le_refl _ | omega | (simp; done) | (simp; omega))))

theorem rNum (n : Int) (w : World) : Calls Try.prog 17 #[.int .i64 n] w (Ret (Value.agg #[.int .i64 (1), .int .i64 (n), .string (⟨#[]⟩)]) w) := by
  go_enter Try.func17, Try.ntmps17
  go_wp2
  refine bodyPost_ret (v := Value.agg #[.int .i64 (1), .int .i64 (n), .string (⟨#[]⟩)]) (by simp [results, Try.results17, go_sem]) rfl ⟨rfl, ?_⟩
  repeat (first | exact Below.refl _ _ | assumption | refine Below.drew ?_ | refine below_drewN ?_ _ | refine Below.setCell ?_ (by first | exact Nat.le_refl _ | omega | (simp; done) | (simp; omega)) _ | refine Below.alloc ?_ (by first | exact Nat.le_refl _ | omega | (simp; done) | (simp; omega)) _ | refine Below.trans ?_ (Below.mono (by assumption) (by first | exact Nat.le_refl _ | omega | (simp; done) | (simp; omega))))

theorem rStr (s : ByteArray) (w : World) : Calls Try.prog 19 #[.string s] w (Ret (Value.agg #[.int .i64 (2), .int .i64 (0), .string (s)]) w) := by
  go_enter Try.func19, Try.ntmps19
  go_wp2
  refine bodyPost_ret (v := Value.agg #[.int .i64 (2), .int .i64 (0), .string (s)]) (by simp [results, Try.results19, go_sem]) rfl ⟨rfl, ?_⟩
  repeat (first | exact Below.refl _ _ | assumption | refine Below.drew ?_ | refine below_drewN ?_ _ | refine Below.setCell ?_ (by first | exact Nat.le_refl _ | omega | (simp; done) | (simp; omega)) _ | refine Below.alloc ?_ (by first | exact Nat.le_refl _ | omega | (simp; done) | (simp; omega)) _ | refine Below.trans ?_ (Below.mono (by assumption) (by first | exact Nat.le_refl _ | omega | (simp; done) | (simp; omega))))

theorem rBytes (s : ByteArray) (w : World) : Calls Try.prog 21 #[.string s] w (Ret (Value.agg #[.int .i64 (3), .int .i64 (0), .string (s)]) w) := by
  go_enter Try.func21, Try.ntmps21
  go_wp2
  refine bodyPost_ret (v := Value.agg #[.int .i64 (3), .int .i64 (0), .string (s)]) (by simp [results, Try.results21, go_sem]) rfl ⟨rfl, ?_⟩
  repeat (first | exact Below.refl _ _ | assumption | refine Below.drew ?_ | refine below_drewN ?_ _ | refine Below.setCell ?_ (by first | exact Nat.le_refl _ | omega | (simp; done) | (simp; omega)) _ | refine Below.alloc ?_ (by first | exact Nat.le_refl _ | omega | (simp; done) | (simp; omega)) _ | refine Below.trans ?_ (Below.mono (by assumption) (by first | exact Nat.le_refl _ | omega | (simp; done) | (simp; omega))))

theorem vBool (b : Bool) (w : World) : Calls Try.prog 22 #[.bool b] w (Ret (Value.agg #[.int .i64 (1), .int .i64 (if b then 1 else 0), .string (⟨#[]⟩)]) w) := by
  cases b
  all_goals
    go_enter Try.func22, Try.ntmps22
    go_wp2_with fail
    refine (vNum _ _).mono ?_; rintro e w1 ⟨rfl, hb1⟩; obtain ⟨hc1, hf1⟩ := bcell hb1; have hz1 := hb1.size; (try simp at hz1); obtain ⟨hl1, hm1⟩ := bsz hb1; (try have hl1_0 : w.heap.size < w1.heap.size := by omega); (try have hm1_0 : w.heap.size ≤ w1.heap.size := by omega); (try have hl1_1 : w.heap.size + 1 < w1.heap.size := by omega); (try have hm1_1 : w.heap.size + 1 ≤ w1.heap.size := by omega); (try have hl1_2 : w.heap.size + 1 + 1 < w1.heap.size := by omega); (try have hm1_2 : w.heap.size + 1 + 1 ≤ w1.heap.size := by omega); (try have hl1_3 : w.heap.size + 1 + 1 + 1 < w1.heap.size := by omega); (try have hm1_3 : w.heap.size + 1 + 1 + 1 ≤ w1.heap.size := by omega)
    go_wp2_with fail
  · refine bodyPost_ret (v := Value.agg #[.int .i64 (1), .int .i64 (0), .string (⟨#[]⟩)]) (by simp [results, Try.results22, go_sem, hc1]) rfl ⟨rfl, ?_⟩
    repeat (first | exact Below.refl _ _ | assumption | refine Below.drew ?_ | refine below_drewN ?_ _ | refine Below.setCell ?_ (by first | exact Nat.le_refl _ | omega | (simp; done) | (simp; omega)) _ | refine Below.alloc ?_ (by first | exact Nat.le_refl _ | omega | (simp; done) | (simp; omega)) _ | refine Below.trans ?_ (Below.mono (by assumption) (by first | exact Nat.le_refl _ | omega | (simp; done) | (simp; omega))))
  · refine bodyPost_ret (v := Value.agg #[.int .i64 (1), .int .i64 (1), .string (⟨#[]⟩)]) (by simp [results, Try.results22, go_sem, hc1]) rfl ⟨rfl, ?_⟩
    repeat (first | exact Below.refl _ _ | assumption | refine Below.drew ?_ | refine below_drewN ?_ _ | refine Below.setCell ?_ (by first | exact Nat.le_refl _ | omega | (simp; done) | (simp; omega)) _ | refine Below.alloc ?_ (by first | exact Nat.le_refl _ | omega | (simp; done) | (simp; omega)) _ | refine Below.trans ?_ (Below.mono (by assumption) (by first | exact Nat.le_refl _ | omega | (simp; done) | (simp; omega))))

theorem rBool (b : Bool) (w : World) : Calls Try.prog 23 #[.bool b] w (Ret (Value.agg #[.int .i64 (1), .int .i64 (if b then 1 else 0), .string (⟨#[]⟩)]) w) := by
  cases b
  all_goals
    go_enter Try.func23, Try.ntmps23
    go_wp2_with fail
    refine (rNum _ _).mono ?_; rintro e w1 ⟨rfl, hb1⟩; obtain ⟨hc1, hf1⟩ := bcell hb1; have hz1 := hb1.size; (try simp at hz1); obtain ⟨hl1, hm1⟩ := bsz hb1; (try have hl1_0 : w.heap.size < w1.heap.size := by omega); (try have hm1_0 : w.heap.size ≤ w1.heap.size := by omega); (try have hl1_1 : w.heap.size + 1 < w1.heap.size := by omega); (try have hm1_1 : w.heap.size + 1 ≤ w1.heap.size := by omega); (try have hl1_2 : w.heap.size + 1 + 1 < w1.heap.size := by omega); (try have hm1_2 : w.heap.size + 1 + 1 ≤ w1.heap.size := by omega); (try have hl1_3 : w.heap.size + 1 + 1 + 1 < w1.heap.size := by omega); (try have hm1_3 : w.heap.size + 1 + 1 + 1 ≤ w1.heap.size := by omega)
    go_wp2_with fail
  · refine bodyPost_ret (v := Value.agg #[.int .i64 (1), .int .i64 (0), .string (⟨#[]⟩)]) (by simp [results, Try.results23, go_sem, hc1]) rfl ⟨rfl, ?_⟩
    repeat (first | exact Below.refl _ _ | assumption | refine Below.drew ?_ | refine below_drewN ?_ _ | refine Below.setCell ?_ (by first | exact Nat.le_refl _ | omega | (simp; done) | (simp; omega)) _ | refine Below.alloc ?_ (by first | exact Nat.le_refl _ | omega | (simp; done) | (simp; omega)) _ | refine Below.trans ?_ (Below.mono (by assumption) (by first | exact Nat.le_refl _ | omega | (simp; done) | (simp; omega))))
  · refine bodyPost_ret (v := Value.agg #[.int .i64 (1), .int .i64 (1), .string (⟨#[]⟩)]) (by simp [results, Try.results23, go_sem, hc1]) rfl ⟨rfl, ?_⟩
    repeat (first | exact Below.refl _ _ | assumption | refine Below.drew ?_ | refine below_drewN ?_ _ | refine Below.setCell ?_ (by first | exact Nat.le_refl _ | omega | (simp; done) | (simp; omega)) _ | refine Below.alloc ?_ (by first | exact Nat.le_refl _ | omega | (simp; done) | (simp; omega)) _ | refine Below.trans ?_ (Below.mono (by assumption) (by first | exact Nat.le_refl _ | omega | (simp; done) | (simp; omega))))

theorem vfits (n : Int) (ok : Bool) (w : World) : Calls Try.prog 39 #[.int .i64 n, .bool ok] w (Ret (.tuple #[Value.agg #[.int .i64 (if ok then 1 else 0), .int .i64 (if ok then n else 0), .string (⟨#[]⟩)], .int .i64 (if ok then 0 else 9)]) w) := by
  cases ok
  · go_enter Try.func39, Try.ntmps39
    go_wp2
    refine bodyPost_ret (v := .tuple #[Value.agg #[.int .i64 0, .int .i64 0, .string ⟨#[]⟩], .int .i64 9]) (by simp [results, Try.results39, go_sem]) rfl ⟨rfl, ?_⟩
    repeat (first | exact Below.refl _ _ | assumption | refine Below.drew ?_ | refine below_drewN ?_ _ | refine Below.setCell ?_ (by first | exact Nat.le_refl _ | omega | (simp; done) | (simp; omega)) _ | refine Below.alloc ?_ (by first | exact Nat.le_refl _ | omega | (simp; done) | (simp; omega)) _ | refine Below.trans ?_ (Below.mono (by assumption) (by first | exact Nat.le_refl _ | omega | (simp; done) | (simp; omega))))
  · go_enter Try.func39, Try.ntmps39
    go_wp2_with fail
    refine (vNum _ _).mono ?_; rintro e w1 ⟨rfl, hb1⟩; obtain ⟨hc1, hf1⟩ := bcell hb1; have hz1 := hb1.size; (try simp at hz1); obtain ⟨hl1, hm1⟩ := bsz hb1; (try have hl1_0 : w.heap.size < w1.heap.size := by omega); (try have hm1_0 : w.heap.size ≤ w1.heap.size := by omega); (try have hl1_1 : w.heap.size + 1 < w1.heap.size := by omega); (try have hm1_1 : w.heap.size + 1 ≤ w1.heap.size := by omega); (try have hl1_2 : w.heap.size + 1 + 1 < w1.heap.size := by omega); (try have hm1_2 : w.heap.size + 1 + 1 ≤ w1.heap.size := by omega); (try have hl1_3 : w.heap.size + 1 + 1 + 1 < w1.heap.size := by omega); (try have hm1_3 : w.heap.size + 1 + 1 + 1 ≤ w1.heap.size := by omega)
    go_wp2_with fail
    refine bodyPost_ret (v := .tuple #[Value.agg #[.int .i64 (1), .int .i64 (n), .string (⟨#[]⟩)], .int .i64 0]) (by simp [results, Try.results39, go_sem, hc1]) rfl ⟨rfl, ?_⟩
    repeat (first | exact Below.refl _ _ | assumption | refine Below.drew ?_ | refine below_drewN ?_ _ | refine Below.setCell ?_ (by first | exact Nat.le_refl _ | omega | (simp; done) | (simp; omega)) _ | refine Below.alloc ?_ (by first | exact Nat.le_refl _ | omega | (simp; done) | (simp; omega)) _ | refine Below.trans ?_ (Below.mono (by assumption) (by first | exact Nat.le_refl _ | omega | (simp; done) | (simp; omega))))

theorem vproduct (a b : Int) (ha : -9223372036854775808 ≤ a ∧ a ≤ 9223372036854775807) (hb : -9223372036854775808 ≤ b ∧ b ≤ 9223372036854775807) (w : World) :
    Calls Try.prog 40 #[.int .i64 a, .int .i64 b] w (Ret (.tuple #[.int .i64 (wrap64 (a * b)), .bool (fit64 (a * b))]) w) := by
  by_cases a0 : a = 0
  · subst a0
    go_enter Try.func40, Try.ntmps40
    go_wp2
    go_ret2
    exact ⟨ret2_ib (by simp [wrap64]) (by simp [fit64]), Below.refl _ _⟩
  by_cases b0 : b = 0
  · subst b0
    go_enter Try.func40, Try.ntmps40
    go_wp2
    go_ret2
    exact ⟨ret2_ib (by simp [wrap64]) (by simp [fit64]), Below.refl _ _⟩
  by_cases a1 : a = -1
  · subst a1
    go_enter Try.func40, Try.ntmps40
    go_wp2
    go_ret2
    refine ⟨ret2_ib (by simp) ?_, Below.refl _ _⟩
    apply bool_eq
    simp [fit64]
    omega
  have ta0 : (a == 0) = false := by simpa using a0
  have tb0 : (b == 0) = false := by simpa using b0
  have ta1 : (a == -1) = false := by simpa using a1
  by_cases b1 : b = -1
  · subst b1
    by_cases am : a = -9223372036854775808
    · subst am
      go_enter Try.func40, Try.ntmps40
      go_wp2
      go_ret2
      exact ⟨ret2_ib (by simp) (by simp [fit64]), Below.refl _ _⟩
    have tam : (a != -9223372036854775808) = true := by simpa using am
    go_enter Try.func40, Try.ntmps40
    go_wp2
    go_ret2
    refine ⟨ret2_ib ?_ ?_, Below.refl _ _⟩
    · have e2 : wrap64 (-a) = -a := wrap64_fit _ (by omega)
      simp [e2]
    have e : fit64 (-a) = true := by rw [fit64_iff]; omega
    simp [e]
  have tb1 : (b == -1) = false := by simpa using b1
  have hmb := mul_back a b b0 b1 hb
  have Hmb := Lib.hid hmb
  clear hmb
  go_enter Try.func40, Try.ntmps40
  go_wp2
  go_quiet (fail)
  go_wp2
  go_ret2
  exact ⟨ret2_ib rfl Hmb.out, below_drewN (Below.refl _ _) _⟩

end Go.Proofs.Ytbgndledcnfceaa
