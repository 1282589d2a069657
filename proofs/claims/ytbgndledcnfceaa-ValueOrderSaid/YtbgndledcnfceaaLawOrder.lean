/- The statement ValueOrder: for every three values the law returns true, and reads its arguments only. No condition. -/
import Derived.Test.YtbgndledcnfceaaLive04
import Derived.Test.YtbgndledcnfceaaPlainCmp
import Derived.Lib.SmallJoins
namespace Go.Proofs.Ytbgndledcnfceaa.lawOrder
open Go.ChangeShapes Go.WideShapes Go.ChangeAt Go.RowKit
set_option linter.unusedVariables false

theorem walk_bad (ka na : Int) (sa : ByteArray) (kb nb : Int) (sb : ByteArray) (kc nc : Int) (sc : ByteArray) (h : chkR ka na sa ≠ 0 ∨ chkR kb nb sb ≠ 0 ∨ chkR kc nc sc ≠ 0) (w : World) :
    Calls Try.prog 5 #[Value.agg #[.int .i64 (ka), .int .i64 (na), .string (sa)], Value.agg #[.int .i64 (kb), .int .i64 (nb), .string (sb)], Value.agg #[.int .i64 (kc), .int .i64 (nc), .string (sc)]] w (Ret (.bool true) w) := by
  by_cases h1 : chkR ka na sa = 0
  · by_cases h2 : chkR kb nb sb = 0
    · have h3 : (chkR kc nc sc != 0) = true := by simp; omega
      go_enter Try.func5, Try.ntmps5
      go_wp2_with (first | (go_at_call 14; refine (vCheck _ _ _ _).mono ?_; rintro e w1 ⟨rfl, hb1⟩; obtain ⟨hc1, hf1⟩ := bcell hb1; have hz1 := hb1.size; (try simp at hz1); obtain ⟨hl1, hm1⟩ := bsz hb1; (try have hl1_0 : w.heap.size < w1.heap.size := by omega); (try have hm1_0 : w.heap.size ≤ w1.heap.size := by omega); (try have hl1_1 : w.heap.size + 1 < w1.heap.size := by omega); (try have hm1_1 : w.heap.size + 1 ≤ w1.heap.size := by omega); (try have hl1_2 : w.heap.size + 1 + 1 < w1.heap.size := by omega); (try have hm1_2 : w.heap.size + 1 + 1 ≤ w1.heap.size := by omega); (try have hl1_3 : w.heap.size + 1 + 1 + 1 < w1.heap.size := by omega); (try have hm1_3 : w.heap.size + 1 + 1 + 1 ≤ w1.heap.size := by omega)) | (go_at_call 11; refine (live04 _).mono ?_; rintro e w1 ⟨rfl, hb1⟩; obtain ⟨hc1, hf1⟩ := bcell hb1; have hz1 := hb1.size; (try simp at hz1); obtain ⟨hl1, hm1⟩ := bsz hb1; (try have hl1_0 : w.heap.size < w1.heap.size := by omega); (try have hm1_0 : w.heap.size ≤ w1.heap.size := by omega); (try have hl1_1 : w.heap.size + 1 < w1.heap.size := by omega); (try have hm1_1 : w.heap.size + 1 ≤ w1.heap.size := by omega); (try have hl1_2 : w.heap.size + 1 + 1 < w1.heap.size := by omega); (try have hm1_2 : w.heap.size + 1 + 1 ≤ w1.heap.size := by omega); (try have hl1_3 : w.heap.size + 1 + 1 + 1 < w1.heap.size := by omega); (try have hm1_3 : w.heap.size + 1 + 1 + 1 ≤ w1.heap.size := by omega)))
      go_ret
      refine ⟨rfl, ?_⟩
      repeat (first | exact Below.refl _ _ | assumption | refine Below.drew ?_ | refine below_drewN ?_ _ | refine Below.setCell ?_ (by first | exact Nat.le_refl _ | omega | (simp; done) | (simp; omega)) _ | refine Below.alloc ?_ (by first | exact Nat.le_refl _ | omega | (simp; done) | (simp; omega)) _ | refine Below.trans ?_ (Below.mono (by assumption) (by first | exact Nat.le_refl _ | omega | (simp; done) | (simp; omega))))
    · have h3 : (chkR kb nb sb != 0) = true := by simpa using h2
      go_enter Try.func5, Try.ntmps5
      go_wp2_with (first | (go_at_call 14; refine (vCheck _ _ _ _).mono ?_; rintro e w1 ⟨rfl, hb1⟩; obtain ⟨hc1, hf1⟩ := bcell hb1; have hz1 := hb1.size; (try simp at hz1); obtain ⟨hl1, hm1⟩ := bsz hb1; (try have hl1_0 : w.heap.size < w1.heap.size := by omega); (try have hm1_0 : w.heap.size ≤ w1.heap.size := by omega); (try have hl1_1 : w.heap.size + 1 < w1.heap.size := by omega); (try have hm1_1 : w.heap.size + 1 ≤ w1.heap.size := by omega); (try have hl1_2 : w.heap.size + 1 + 1 < w1.heap.size := by omega); (try have hm1_2 : w.heap.size + 1 + 1 ≤ w1.heap.size := by omega); (try have hl1_3 : w.heap.size + 1 + 1 + 1 < w1.heap.size := by omega); (try have hm1_3 : w.heap.size + 1 + 1 + 1 ≤ w1.heap.size := by omega)) | (go_at_call 11; refine (live04 _).mono ?_; rintro e w1 ⟨rfl, hb1⟩; obtain ⟨hc1, hf1⟩ := bcell hb1; have hz1 := hb1.size; (try simp at hz1); obtain ⟨hl1, hm1⟩ := bsz hb1; (try have hl1_0 : w.heap.size < w1.heap.size := by omega); (try have hm1_0 : w.heap.size ≤ w1.heap.size := by omega); (try have hl1_1 : w.heap.size + 1 < w1.heap.size := by omega); (try have hm1_1 : w.heap.size + 1 ≤ w1.heap.size := by omega); (try have hl1_2 : w.heap.size + 1 + 1 < w1.heap.size := by omega); (try have hm1_2 : w.heap.size + 1 + 1 ≤ w1.heap.size := by omega); (try have hl1_3 : w.heap.size + 1 + 1 + 1 < w1.heap.size := by omega); (try have hm1_3 : w.heap.size + 1 + 1 + 1 ≤ w1.heap.size := by omega)))
      go_ret
      refine ⟨rfl, ?_⟩
      repeat (first | exact Below.refl _ _ | assumption | refine Below.drew ?_ | refine below_drewN ?_ _ | refine Below.setCell ?_ (by first | exact Nat.le_refl _ | omega | (simp; done) | (simp; omega)) _ | refine Below.alloc ?_ (by first | exact Nat.le_refl _ | omega | (simp; done) | (simp; omega)) _ | refine Below.trans ?_ (Below.mono (by assumption) (by first | exact Nat.le_refl _ | omega | (simp; done) | (simp; omega))))
  · have h3 : (chkR ka na sa != 0) = true := by simpa using h1
    go_enter Try.func5, Try.ntmps5
    go_wp2_with (first | (go_at_call 14; refine (vCheck _ _ _ _).mono ?_; rintro e w1 ⟨rfl, hb1⟩; obtain ⟨hc1, hf1⟩ := bcell hb1; have hz1 := hb1.size; (try simp at hz1); obtain ⟨hl1, hm1⟩ := bsz hb1; (try have hl1_0 : w.heap.size < w1.heap.size := by omega); (try have hm1_0 : w.heap.size ≤ w1.heap.size := by omega); (try have hl1_1 : w.heap.size + 1 < w1.heap.size := by omega); (try have hm1_1 : w.heap.size + 1 ≤ w1.heap.size := by omega); (try have hl1_2 : w.heap.size + 1 + 1 < w1.heap.size := by omega); (try have hm1_2 : w.heap.size + 1 + 1 ≤ w1.heap.size := by omega); (try have hl1_3 : w.heap.size + 1 + 1 + 1 < w1.heap.size := by omega); (try have hm1_3 : w.heap.size + 1 + 1 + 1 ≤ w1.heap.size := by omega)) | (go_at_call 11; refine (live04 _).mono ?_; rintro e w1 ⟨rfl, hb1⟩; obtain ⟨hc1, hf1⟩ := bcell hb1; have hz1 := hb1.size; (try simp at hz1); obtain ⟨hl1, hm1⟩ := bsz hb1; (try have hl1_0 : w.heap.size < w1.heap.size := by omega); (try have hm1_0 : w.heap.size ≤ w1.heap.size := by omega); (try have hl1_1 : w.heap.size + 1 < w1.heap.size := by omega); (try have hm1_1 : w.heap.size + 1 ≤ w1.heap.size := by omega); (try have hl1_2 : w.heap.size + 1 + 1 < w1.heap.size := by omega); (try have hm1_2 : w.heap.size + 1 + 1 ≤ w1.heap.size := by omega); (try have hl1_3 : w.heap.size + 1 + 1 + 1 < w1.heap.size := by omega); (try have hm1_3 : w.heap.size + 1 + 1 + 1 ≤ w1.heap.size := by omega)))
    go_ret
    refine ⟨rfl, ?_⟩
    repeat (first | exact Below.refl _ _ | assumption | refine Below.drew ?_ | refine below_drewN ?_ _ | refine Below.setCell ?_ (by first | exact Nat.le_refl _ | omega | (simp; done) | (simp; omega)) _ | refine Below.alloc ?_ (by first | exact Nat.le_refl _ | omega | (simp; done) | (simp; omega)) _ | refine Below.trans ?_ (Below.mono (by assumption) (by first | exact Nat.le_refl _ | omega | (simp; done) | (simp; omega))))

theorem chk_ok (k n : Int) (s : ByteArray) (h : chkR k n s = 0) : (k = 0 ∧ n = 0 ∧ s = ⟨#[]⟩) ∨ (k = 1 ∧ s = ⟨#[]⟩) ∨ (k = 2 ∧ n = 0) ∨ (k = 3 ∧ n = 0) := by
  unfold chkR at h
  split at h
  · simp at h
  · rename_i hn
    by_cases hs : s = ⟨#[]⟩
    · subst hs
      have : k = 0 ∨ k = 1 ∨ k = 2 ∨ k = 3 := by omega
      rcases this with rfl | rfl | rfl | rfl
      · exact .inl ⟨rfl, by omega, rfl⟩
      · exact .inr (.inl ⟨rfl, rfl⟩)
      · exact .inr (.inr (.inl ⟨rfl, by omega⟩))
      · exact .inr (.inr (.inr ⟨rfl, by omega⟩))
    · have h2 : ¬ k < 2 := fun hk => hn (.inr (.inr (.inr ⟨hk, hs⟩)))
      have : k = 2 ∨ k = 3 := by omega
      rcases this with rfl | rfl
      · exact .inr (.inr (.inl ⟨rfl, by omega⟩))
      · exact .inr (.inr (.inr ⟨rfl, by omega⟩))

theorem cmp_one (ka na : Int) (sa : ByteArray) (kb nb : Int) (sb : ByteArray) (c : Int) : cmpR ka na sa kb nb sb c = -1 ∨ cmpR ka na sa kb nb sb c = 0 ∨ cmpR ka na sa kb nb sb c = 1 := by
  have ci : ∀ x y, Lib.compareInt x y = -1 ∨ Lib.compareInt x y = 0 ∨ Lib.compareInt x y = 1 := fun x y => by
    unfold Lib.compareInt
    split
    · simp
    · split <;> simp
  unfold cmpR
  split
  · exact ci _ _
  · split
    · exact ci _ _
    · split
      · exact cb_one _ _
      · split
        · exact cb_one _ _
        · simp
def CmpAll (ka na : Int) (sa : ByteArray) (kb nb : Int) (sb : ByteArray) (kc nc : Int) (sc : ByteArray) (c x y z : Int) : Prop :=
  cmpR ka na sa kb nb sb c = x ∧ cmpR kb nb sb kc nc sc c = y ∧ cmpR ka na sa kc nc sc c = z ∧ cmpR kb nb sb ka na sa c = -x ∧ cmpR ka na sa ka na sa c = 0
theorem cmp_all (ka na : Int) (sa : ByteArray) (kb nb : Int) (sb : ByteArray) (kc nc : Int) (sc : ByteArray) (c : Int) :
    ∃ x y z : Int, CmpAll ka na sa kb nb sb kc nc sc c x y z ∧ (x = -1 ∨ x = 0 ∨ x = 1) ∧ (y = -1 ∨ y = 0 ∨ y = 1) ∧ (z = -1 ∨ z = 0 ∨ z = 1) ∧
      (x ≤ 0 → y ≤ 0 → z ≤ 0) ∧ (0 ≤ x → 0 ≤ y → 0 ≤ z) ∧ (x = 0 → y = z) := by
  have F := fine_cmp c
  refine ⟨_, _, _, ⟨rfl, rfl, rfl, F.swap (ka, na, sa) (kb, nb, sb), F.refl (ka, na, sa)⟩, cmp_one .., cmp_one .., cmp_one .., F.trans (ka, na, sa) (kb, nb, sb) (kc, nc, sc), ?_, ?_⟩
  · intro h1 h2
    have s1 := F.swap (ka, na, sa) (kb, nb, sb)
    have s2 := F.swap (kb, nb, sb) (kc, nc, sc)
    have s3 := F.swap (ka, na, sa) (kc, nc, sc)
    have t := F.trans (kc, nc, sc) (kb, nb, sb) (ka, na, sa)
    unfold cmpV at s1 s2 s3 t
    simp only at s1 s2 s3 t
    omega
  · intro h1
    have s1 := F.swap (ka, na, sa) (kb, nb, sb)
    have s2 := F.swap (kb, nb, sb) (kc, nc, sc)
    have s3 := F.swap (ka, na, sa) (kc, nc, sc)
    have t1 := F.trans (ka, na, sa) (kb, nb, sb) (kc, nc, sc)
    have t2 := F.trans (kc, nc, sc) (kb, nb, sb) (ka, na, sa)
    have t3 := F.trans (kb, nb, sb) (ka, na, sa) (kc, nc, sc)
    have t4 := F.trans (kc, nc, sc) (ka, na, sa) (kb, nb, sb)
    have o1 := cmp_one kb nb sb kc nc sc c
    have o2 := cmp_one ka na sa kc nc sc c
    unfold cmpV at s1 s2 s3 t1 t2 t3 t4
    simp only at s1 s2 s3 t1 t2 t3 t4
    omega

set_option linter.unusedSimpArgs false in
set_option maxHeartbeats 8000000 in
set_option maxRecDepth 100000 in
theorem walk_ok (ka na : Int) (sa : ByteArray) (kb nb : Int) (sb : ByteArray) (kc nc : Int) (sc : ByteArray) (hsa : sa.size ≤ 9223372036854775807) (hsb : sb.size ≤ 9223372036854775807) (hsc : sc.size ≤ 9223372036854775807)
    (h1 : chkR ka na sa = 0) (h2 : chkR kb nb sb = 0) (h3 : chkR kc nc sc = 0) (w : World) :
    Calls Try.prog 5 #[Value.agg #[.int .i64 (ka), .int .i64 (na), .string (sa)], Value.agg #[.int .i64 (kb), .int .i64 (nb), .string (sb)], Value.agg #[.int .i64 (kc), .int .i64 (nc), .string (sc)]] w (Ret (.bool true) w) := by
  have Ha := Lib.hid (chk_ok _ _ _ h1)
  have Hb := Lib.hid (chk_ok _ _ _ h2)
  have PA : ValAt (((w.alloc (.cells #[.int .i64 ka, .int .i64 na, .string sa] 23)).alloc (.cells #[.int .i64 kb, .int .i64 nb, .string sb] 23)).alloc (.cells #[.int .i64 kc, .int .i64 nc, .string sc] 23)) w.heap.size ka na sa := by
    refine (valAt_alloc w ka na sa 23).below (B := w.heap.size + 1) ?_ (by omega)
    repeat (first | exact Below.refl _ _ | assumption | refine Below.drew ?_ | refine below_drewN ?_ _ | refine Below.setCell ?_ (by first | exact Nat.le_refl _ | omega | (simp; done) | (simp; omega)) _ | refine Below.alloc ?_ (by first | exact Nat.le_refl _ | omega | (simp; done) | (simp; omega)) _ | refine Below.trans ?_ (Below.mono (by assumption) (by first | exact Nat.le_refl _ | omega | (simp; done) | (simp; omega))))
  have PB : ValAt (((w.alloc (.cells #[.int .i64 ka, .int .i64 na, .string sa] 23)).alloc (.cells #[.int .i64 kb, .int .i64 nb, .string sb] 23)).alloc (.cells #[.int .i64 kc, .int .i64 nc, .string sc] 23)) (w.heap.size + 1) kb nb sb := by
    have h := (valAt_alloc (w.alloc (.cells #[.int .i64 ka, .int .i64 na, .string sa] 23)) kb nb sb 23)
    rw [World.size_alloc] at h
    refine h.below (B := w.heap.size + 1 + 1) ?_ (by omega)
    repeat (first | exact Below.refl _ _ | assumption | refine Below.drew ?_ | refine below_drewN ?_ _ | refine Below.setCell ?_ (by first | exact Nat.le_refl _ | omega | (simp; done) | (simp; omega)) _ | refine Below.alloc ?_ (by first | exact Nat.le_refl _ | omega | (simp; done) | (simp; omega)) _ | refine Below.trans ?_ (Below.mono (by assumption) (by first | exact Nat.le_refl _ | omega | (simp; done) | (simp; omega))))
  have PC : ValAt (((w.alloc (.cells #[.int .i64 ka, .int .i64 na, .string sa] 23)).alloc (.cells #[.int .i64 kb, .int .i64 nb, .string sb] 23)).alloc (.cells #[.int .i64 kc, .int .i64 nc, .string sc] 23)) (w.heap.size + 1 + 1) kc nc sc := by
    have h := (valAt_alloc ((w.alloc (.cells #[.int .i64 ka, .int .i64 na, .string sa] 23)).alloc (.cells #[.int .i64 kb, .int .i64 nb, .string sb] 23)) kc nc sc 23)
    rw [World.size_alloc, World.size_alloc] at h
    exact h
  go_enter Try.func5, Try.ntmps5
  go_wp2_with (first | (go_at_call 14; refine (vCheck _ _ _ _).mono ?_; rintro e w1 ⟨rfl, hb1⟩; obtain ⟨hc1, hf1⟩ := bcell hb1; have hz1 := hb1.size; (try simp at hz1); obtain ⟨hl1, hm1⟩ := bsz hb1; (try have hl1_0 : w.heap.size < w1.heap.size := by omega); (try have hm1_0 : w.heap.size ≤ w1.heap.size := by omega); (try have hl1_1 : w.heap.size + 1 < w1.heap.size := by omega); (try have hm1_1 : w.heap.size + 1 ≤ w1.heap.size := by omega); (try have hl1_2 : w.heap.size + 1 + 1 < w1.heap.size := by omega); (try have hm1_2 : w.heap.size + 1 + 1 ≤ w1.heap.size := by omega); (try have hl1_3 : w.heap.size + 1 + 1 + 1 < w1.heap.size := by omega); (try have hm1_3 : w.heap.size + 1 + 1 + 1 ≤ w1.heap.size := by omega)))
  clear h1 h2 h3
  go_loopw [7] (fun s7 wr => ∃ k : Nat, k ≤ 2 ∧ s7 = .int .i64 k ∧ ValAt wr w.heap.size ka na sa ∧ ValAt wr (w.heap.size + 1) kb nb sb ∧ ValAt wr (w.heap.size + 1 + 1) kc nc sc ∧ Below w.heap.size w wr) (fun s7 _ => 2 - (intOf s7).toNat)
  case atStart =>
    refine ⟨0, by omega, rfl, PA.below (B := w.heap.size + 1 + 1 + 1) ?_ (by omega), PB.below (B := w.heap.size + 1 + 1 + 1) ?_ (by omega), PC.below (B := w.heap.size + 1 + 1 + 1) ?_ (by omega), ?_⟩
    all_goals repeat (first | exact Below.refl _ _ | assumption | refine Below.drew ?_ | refine below_drewN ?_ _ | refine Below.setCell ?_ (by first | exact Nat.le_refl _ | omega | (simp; done) | (simp; omega)) _ | refine Below.alloc ?_ (by first | exact Nat.le_refl _ | omega | (simp; done) | (simp; omega)) _ | refine Below.trans ?_ (Below.mono (by assumption) (by first | exact Nat.le_refl _ | omega | (simp; done) | (simp; omega))))
  case round =>
    obtain ⟨k, hk, rfl, A, B, C, hbl⟩ := hrel
    have hA := A.bound
    have hB := B.bound
    have hC := C.bound
    have A0 := A
    have B0 := B
    have C0 := C
    obtain ⟨a1, a2, a3⟩ := A
    obtain ⟨b1, b2, b3⟩ := B
    obtain ⟨c1, c2, c3⟩ := C
    by_cases hlt : k < 2
    · obtain ⟨x, y, z, hall, hx, hy, hz, r1, r2, r3⟩ := cmp_all ka na sa kb nb sb kc nc sc (k : Int)
      have Hall := Lib.hid hall
      clear hall
      go_wp2_with fail
      ((with_reducible refine region_draws ?_); refine region_plus (by kernel_rfl) (by kernel_rfl) ?_; (repeat (go_big_quiet_step ((first | (go_at_call 12; exact plus_of (vCompare _ _ _ _ _ _ _ (by assumption) (by assumption) _)))))); refine wpQuiet_nil ?_; intro w2 hb2; obtain ⟨hc2, hf2⟩ := bcell hb2; have hz2 := hb2.size; (try simp at hz2); obtain ⟨hl2, hm2⟩ := bsz hb2; (try have hl2_0 : w.heap.size < w2.heap.size := by omega); (try have hm2_0 : w.heap.size ≤ w2.heap.size := by omega); (try have hl2_1 : w.heap.size + 1 < w2.heap.size := by omega); (try have hm2_1 : w.heap.size + 1 ≤ w2.heap.size := by omega); (try have hl2_2 : w.heap.size + 1 + 1 < w2.heap.size := by omega); (try have hm2_2 : w.heap.size + 1 + 1 ≤ w2.heap.size := by omega); (try have hl2_3 : w.heap.size + 1 + 1 + 1 < w2.heap.size := by omega); (try have hm2_3 : w.heap.size + 1 + 1 + 1 ≤ w2.heap.size := by omega); (try have hl2_4 : w1.heap.size < w2.heap.size := by omega); (try have hm2_4 : w1.heap.size ≤ w2.heap.size := by omega); (try have hl2_5 : w1.heap.size + 1 < w2.heap.size := by omega); (try have hm2_5 : w1.heap.size + 1 ≤ w2.heap.size := by omega))
      obtain ⟨e1, e2, e3, e4, e5⟩ := Hall.out
      rcases hx with rfl | rfl | rfl <;> rcases hy with rfl | rfl | rfl <;> rcases hz with rfl | rfl | rfl
      all_goals first | (exfalso; omega) | skip
      all_goals clear r1 r2 r3
      all_goals go_wp2_with (first | (go_at_call 12; refine (vCompare _ _ _ _ _ _ _ (by assumption) (by assumption) _).mono ?_; rintro e w1 ⟨rfl, hb1⟩; obtain ⟨hc1, hf1⟩ := bcell hb1; have hz1 := hb1.size; (try simp at hz1); obtain ⟨hl1, hm1⟩ := bsz hb1; (try have hl1_0 : w.heap.size < w1.heap.size := by omega); (try have hm1_0 : w.heap.size ≤ w1.heap.size := by omega); (try have hl1_1 : w.heap.size + 1 < w1.heap.size := by omega); (try have hm1_1 : w.heap.size + 1 ≤ w1.heap.size := by omega); (try have hl1_2 : w.heap.size + 1 + 1 < w1.heap.size := by omega); (try have hm1_2 : w.heap.size + 1 + 1 ≤ w1.heap.size := by omega); (try have hl1_3 : w.heap.size + 1 + 1 + 1 < w1.heap.size := by omega); (try have hm1_3 : w.heap.size + 1 + 1 + 1 ≤ w1.heap.size := by omega)))
      all_goals go_tidy
      all_goals refine ⟨⟨k + 1, by omega, by go_num, A0.below (B := wr.heap.size) ?_ hA, B0.below (B := wr.heap.size) ?_ hB, C0.below (B := wr.heap.size) ?_ hC, ?_⟩, by simp [intOf]; omega⟩
      all_goals repeat (first | exact Below.refl _ _ | assumption | refine Below.drew ?_ | refine below_drewN ?_ _ | refine Below.setCell ?_ (by first | exact Nat.le_refl _ | omega | (simp; done) | (simp; omega)) _ | refine Below.alloc ?_ (by first | exact Nat.le_refl _ | omega | (simp; done) | (simp; omega)) _ | refine Below.trans ?_ (Below.mono (by assumption) (by first | exact Nat.le_refl _ | omega | (simp; done) | (simp; omega))))
    · obtain rfl : k = 2 := by omega
      by_cases d1 : ka = kb
      · subst d1
        by_cases d2 : na = nb
        · subst d2
          by_cases d3 : sa.toList = sb.toList
          · have d3' := ba_ext sa sb d3
            subst d3'
            clear d3
            have hk2 : (cmpR ka na sa ka na sa 0 == 0) = true := by
              simp [show cmpR ka na sa ka na sa 0 = 0 from (fine_cmp 0).refl (ka, na, sa)]
            (go_wp2_with fail; ((with_reducible refine region_draws ?_); refine region_plus (by kernel_rfl) (by kernel_rfl) ?_; (repeat (go_big_quiet_step ((first | (go_at_call 11; exact plus_of (live04 _)) | (go_at_call 12; exact plus_of (vCompare _ _ _ _ _ _ _ (by assumption) (by assumption) _)))))); refine wpQuiet_nil ?_; intro w3 hb3; obtain ⟨hc3, hf3⟩ := bcell hb3; have hz3 := hb3.size; (try simp at hz3); obtain ⟨hl3, hm3⟩ := bsz hb3; (try have hl3_0 : w.heap.size < w3.heap.size := by omega); (try have hm3_0 : w.heap.size ≤ w3.heap.size := by omega); (try have hl3_1 : w.heap.size + 1 < w3.heap.size := by omega); (try have hm3_1 : w.heap.size + 1 ≤ w3.heap.size := by omega); (try have hl3_2 : w.heap.size + 1 + 1 < w3.heap.size := by omega); (try have hm3_2 : w.heap.size + 1 + 1 ≤ w3.heap.size := by omega); (try have hl3_3 : w.heap.size + 1 + 1 + 1 < w3.heap.size := by omega); (try have hm3_3 : w.heap.size + 1 + 1 + 1 ≤ w3.heap.size := by omega); (try have hl3_4 : w1.heap.size < w3.heap.size := by omega); (try have hm3_4 : w1.heap.size ≤ w3.heap.size := by omega); (try have hl3_5 : w1.heap.size + 1 < w3.heap.size := by omega); (try have hm3_5 : w1.heap.size + 1 ≤ w3.heap.size := by omega); (try have hl3_6 : w2.heap.size < w3.heap.size := by omega); (try have hm3_6 : w2.heap.size ≤ w3.heap.size := by omega); (try have hl3_7 : w2.heap.size + 1 < w3.heap.size := by omega); (try have hm3_7 : w2.heap.size + 1 ≤ w3.heap.size := by omega)); go_wp2_with fail; go_ret; refine ⟨rfl, ?_⟩; (repeat (first | exact Below.refl _ _ | assumption | refine Below.drew ?_ | refine below_drewN ?_ _ | refine Below.setCell ?_ (by first | exact Nat.le_refl _ | omega | (simp; done) | (simp; omega)) _ | refine Below.alloc ?_ (by first | exact Nat.le_refl _ | omega | (simp; done) | (simp; omega)) _ | refine Below.trans ?_ (Below.mono (by assumption) (by first | exact Nat.le_refl _ | omega | (simp; done) | (simp; omega))))))
          · have hk2 : (cmpR ka na sa ka na sb 0 == 0) = false := by
              simp only [beq_eq_false_iff_ne]
              intro h0
              exact d3 (by rw [(cmp_same _ _ _ _ _ _ h0 Ha.out Hb.out).2.2])
            (go_wp2_with fail; ((with_reducible refine region_draws ?_); refine region_plus (by kernel_rfl) (by kernel_rfl) ?_; (repeat (go_big_quiet_step ((first | (go_at_call 11; exact plus_of (live04 _)) | (go_at_call 12; exact plus_of (vCompare _ _ _ _ _ _ _ (by assumption) (by assumption) _)))))); refine wpQuiet_nil ?_; intro w3 hb3; obtain ⟨hc3, hf3⟩ := bcell hb3; have hz3 := hb3.size; (try simp at hz3); obtain ⟨hl3, hm3⟩ := bsz hb3; (try have hl3_0 : w.heap.size < w3.heap.size := by omega); (try have hm3_0 : w.heap.size ≤ w3.heap.size := by omega); (try have hl3_1 : w.heap.size + 1 < w3.heap.size := by omega); (try have hm3_1 : w.heap.size + 1 ≤ w3.heap.size := by omega); (try have hl3_2 : w.heap.size + 1 + 1 < w3.heap.size := by omega); (try have hm3_2 : w.heap.size + 1 + 1 ≤ w3.heap.size := by omega); (try have hl3_3 : w.heap.size + 1 + 1 + 1 < w3.heap.size := by omega); (try have hm3_3 : w.heap.size + 1 + 1 + 1 ≤ w3.heap.size := by omega); (try have hl3_4 : w1.heap.size < w3.heap.size := by omega); (try have hm3_4 : w1.heap.size ≤ w3.heap.size := by omega); (try have hl3_5 : w1.heap.size + 1 < w3.heap.size := by omega); (try have hm3_5 : w1.heap.size + 1 ≤ w3.heap.size := by omega); (try have hl3_6 : w2.heap.size < w3.heap.size := by omega); (try have hm3_6 : w2.heap.size ≤ w3.heap.size := by omega); (try have hl3_7 : w2.heap.size + 1 < w3.heap.size := by omega); (try have hm3_7 : w2.heap.size + 1 ≤ w3.heap.size := by omega)); go_wp2_with fail; go_ret; refine ⟨rfl, ?_⟩; (repeat (first | exact Below.refl _ _ | assumption | refine Below.drew ?_ | refine below_drewN ?_ _ | refine Below.setCell ?_ (by first | exact Nat.le_refl _ | omega | (simp; done) | (simp; omega)) _ | refine Below.alloc ?_ (by first | exact Nat.le_refl _ | omega | (simp; done) | (simp; omega)) _ | refine Below.trans ?_ (Below.mono (by assumption) (by first | exact Nat.le_refl _ | omega | (simp; done) | (simp; omega))))))
        · have hk2 : (cmpR ka na sa ka nb sb 0 == 0) = false := by
            simp only [beq_eq_false_iff_ne]
            intro h0
            exact d2 (cmp_same _ _ _ _ _ _ h0 Ha.out Hb.out).2.1
          (go_wp2_with fail; ((with_reducible refine region_draws ?_); refine region_plus (by kernel_rfl) (by kernel_rfl) ?_; (repeat (go_big_quiet_step ((first | (go_at_call 11; exact plus_of (live04 _)) | (go_at_call 12; exact plus_of (vCompare _ _ _ _ _ _ _ (by assumption) (by assumption) _)))))); refine wpQuiet_nil ?_; intro w3 hb3; obtain ⟨hc3, hf3⟩ := bcell hb3; have hz3 := hb3.size; (try simp at hz3); obtain ⟨hl3, hm3⟩ := bsz hb3; (try have hl3_0 : w.heap.size < w3.heap.size := by omega); (try have hm3_0 : w.heap.size ≤ w3.heap.size := by omega); (try have hl3_1 : w.heap.size + 1 < w3.heap.size := by omega); (try have hm3_1 : w.heap.size + 1 ≤ w3.heap.size := by omega); (try have hl3_2 : w.heap.size + 1 + 1 < w3.heap.size := by omega); (try have hm3_2 : w.heap.size + 1 + 1 ≤ w3.heap.size := by omega); (try have hl3_3 : w.heap.size + 1 + 1 + 1 < w3.heap.size := by omega); (try have hm3_3 : w.heap.size + 1 + 1 + 1 ≤ w3.heap.size := by omega); (try have hl3_4 : w1.heap.size < w3.heap.size := by omega); (try have hm3_4 : w1.heap.size ≤ w3.heap.size := by omega); (try have hl3_5 : w1.heap.size + 1 < w3.heap.size := by omega); (try have hm3_5 : w1.heap.size + 1 ≤ w3.heap.size := by omega); (try have hl3_6 : w2.heap.size < w3.heap.size := by omega); (try have hm3_6 : w2.heap.size ≤ w3.heap.size := by omega); (try have hl3_7 : w2.heap.size + 1 < w3.heap.size := by omega); (try have hm3_7 : w2.heap.size + 1 ≤ w3.heap.size := by omega)); go_wp2_with fail; go_ret; refine ⟨rfl, ?_⟩; (repeat (first | exact Below.refl _ _ | assumption | refine Below.drew ?_ | refine below_drewN ?_ _ | refine Below.setCell ?_ (by first | exact Nat.le_refl _ | omega | (simp; done) | (simp; omega)) _ | refine Below.alloc ?_ (by first | exact Nat.le_refl _ | omega | (simp; done) | (simp; omega)) _ | refine Below.trans ?_ (Below.mono (by assumption) (by first | exact Nat.le_refl _ | omega | (simp; done) | (simp; omega))))))
      · have hk2 : (cmpR ka na sa kb nb sb 0 == 0) = false := by
          simp only [beq_eq_false_iff_ne]
          intro h0
          exact d1 (cmp_same _ _ _ _ _ _ h0 Ha.out Hb.out).1
        (go_wp2_with fail; ((with_reducible refine region_draws ?_); refine region_plus (by kernel_rfl) (by kernel_rfl) ?_; (repeat (go_big_quiet_step ((first | (go_at_call 11; exact plus_of (live04 _)) | (go_at_call 12; exact plus_of (vCompare _ _ _ _ _ _ _ (by assumption) (by assumption) _)))))); refine wpQuiet_nil ?_; intro w3 hb3; obtain ⟨hc3, hf3⟩ := bcell hb3; have hz3 := hb3.size; (try simp at hz3); obtain ⟨hl3, hm3⟩ := bsz hb3; (try have hl3_0 : w.heap.size < w3.heap.size := by omega); (try have hm3_0 : w.heap.size ≤ w3.heap.size := by omega); (try have hl3_1 : w.heap.size + 1 < w3.heap.size := by omega); (try have hm3_1 : w.heap.size + 1 ≤ w3.heap.size := by omega); (try have hl3_2 : w.heap.size + 1 + 1 < w3.heap.size := by omega); (try have hm3_2 : w.heap.size + 1 + 1 ≤ w3.heap.size := by omega); (try have hl3_3 : w.heap.size + 1 + 1 + 1 < w3.heap.size := by omega); (try have hm3_3 : w.heap.size + 1 + 1 + 1 ≤ w3.heap.size := by omega); (try have hl3_4 : w1.heap.size < w3.heap.size := by omega); (try have hm3_4 : w1.heap.size ≤ w3.heap.size := by omega); (try have hl3_5 : w1.heap.size + 1 < w3.heap.size := by omega); (try have hm3_5 : w1.heap.size + 1 ≤ w3.heap.size := by omega); (try have hl3_6 : w2.heap.size < w3.heap.size := by omega); (try have hm3_6 : w2.heap.size ≤ w3.heap.size := by omega); (try have hl3_7 : w2.heap.size + 1 < w3.heap.size := by omega); (try have hm3_7 : w2.heap.size + 1 ≤ w3.heap.size := by omega)); go_wp2_with fail; go_ret; refine ⟨rfl, ?_⟩; (repeat (first | exact Below.refl _ _ | assumption | refine Below.drew ?_ | refine below_drewN ?_ _ | refine Below.setCell ?_ (by first | exact Nat.le_refl _ | omega | (simp; done) | (simp; omega)) _ | refine Below.alloc ?_ (by first | exact Nat.le_refl _ | omega | (simp; done) | (simp; omega)) _ | refine Below.trans ?_ (Below.mono (by assumption) (by first | exact Nat.le_refl _ | omega | (simp; done) | (simp; omega))))))

theorem walk (ka na : Int) (sa : ByteArray) (wka : (Lit.int .i64 ka).wf = true) (wna : (Lit.int .i64 na).wf = true) (wsa : sa.size ≤ maxLen) (kb nb : Int) (sb : ByteArray) (wkb : (Lit.int .i64 kb).wf = true) (wnb : (Lit.int .i64 nb).wf = true) (wsb : sb.size ≤ maxLen) (kc nc : Int) (sc : ByteArray) (wkc : (Lit.int .i64 kc).wf = true) (wnc : (Lit.int .i64 nc).wf = true) (wsc : sc.size ≤ maxLen) (w : World) :
    Calls Try.prog 5 #[Value.agg #[.int .i64 (ka), .int .i64 (na), .string (sa)], Value.agg #[.int .i64 (kb), .int .i64 (nb), .string (sb)], Value.agg #[.int .i64 (kc), .int .i64 (nc), .string (sc)]] w (Ret (.bool true) w) := by
  by_cases h1 : chkR ka na sa = 0
  · by_cases h2 : chkR kb nb sb = 0
    · by_cases h3 : chkR kc nc sc = 0
      · exact walk_ok _ _ _ _ _ _ _ _ _ wsa wsb wsc h1 h2 h3 w
      · exact walk_bad _ _ _ _ _ _ _ _ _ (.inr (.inr h3)) w
    · exact walk_bad _ _ _ _ _ _ _ _ _ (.inr (.inl h2)) w
  · exact walk_bad _ _ _ _ _ _ _ _ _ (.inl h1) w

theorem own : ownKnob Try.prog.godebug = none := by kernel_rfl
theorem laidOut : laidOutB Try.prog = true := by kernel_rfl
set_option maxRecDepth 100000 in
theorem lifted (os : Os) (started : os.Started) (H : Type) (enc : TypeId × Value → H) :
    ReturnsInHanded {} Try.checked os 5 .any (Rows.valueOrderSpec.pre6 enc Try.prog Try.f5 Rows.valueOrderRow.domain false) (Rows.valueOrderSpec.post enc Try.prog Try.f5 false true false false) := by
  refine returnsInHanded_of_change (C := Try.checked) own started (by kernel_rfl) Try.func5
    (ChangeSpec.witness6 (enc := enc) (C := Try.checked) false ⟨#[], #[.agg #[.int .i64 0, .int .i64 0, .string ⟨#[]⟩], .agg #[.int .i64 0, .int .i64 0, .string ⟨#[]⟩], .agg #[.int .i64 0, .int .i64 0, .string ⟨#[]⟩]], []⟩ 8 (by kernel_rfl) (by kernel_rfl) (by kernel_rfl) (by kernel_rfl)) ?_
  intro W base args ds gs before hval0 hW _ _
  have hval : ∀ (j : Nat) t v, Try.f5.params[j]? = some t → args[j]? = some v → Value.okWide Try.prog W .any base t v := hval0
  have hW' := hW
  obtain ⟨p, q, hA0, hV, rfl, hfz, hnd⟩ := hW
  have hA : DataW.TrodAll enc Try.prog W 0 (fun _ => true) true Try.f5.params.toList args.toList ds p := hA0
  rw [Try.params5] at hA hval
  obtain ⟨v0, vs0, d0, ds0, p0, q0, hargs, rfl, rfl, h0, r0⟩ := trodAll_cons hA
  obtain ⟨v1, vs1, d1, ds1, p1, q1, rfl, rfl, rfl, h1, r1⟩ := trodAll_cons r0
  obtain ⟨v2, vs2, d2, ds2, p2, q2, rfl, rfl, rfl, h2, r2⟩ := trodAll_cons r1
  obtain ⟨rfl, rfl, rfl⟩ := trodAll_nil r2
  obtain rfl : args = #[v0, v1, v2] := by cases args; simp_all
  obtain ⟨rfl, rfl⟩ := trodVars_none hV
  have k0 := h0
  have lt0 : ∀ x ∈ p0, x.block < W.heap.size := by obtain ⟨m, hm⟩ := k0; exact DataW.trod_lt m _ _ _ hm
  obtain ⟨c00, c01, c02, y00, y01, y02, m0, rfl, rfl, rfl, hy00, hy01, hy02⟩ := Go.Joins.open_agg3 Try.underlying23 (by kernel_rfl) (by kernel_rfl) (hval 0 23 v0 rfl rfl) h0
  obtain ⟨a0, e00, rfl, wa0⟩ := DataW.trod_int Try.underlying3 hy00
  obtain ⟨n0, e01, rfl, wn0⟩ := DataW.trod_int Try.underlying2 hy01
  obtain ⟨s0, e02, rfl, ws0⟩ := DataW.trod_string Try.underlying9 hy02
  simp only [List.cons.injEq, and_true] at e00 e01 e02
  subst e00 e01 e02
  have k1 := h1
  have lt1 : ∀ x ∈ p1, x.block < W.heap.size := by obtain ⟨m, hm⟩ := k1; exact DataW.trod_lt m _ _ _ hm
  obtain ⟨c10, c11, c12, y10, y11, y12, m1, rfl, rfl, rfl, hy10, hy11, hy12⟩ := Go.Joins.open_agg3 Try.underlying23 (by kernel_rfl) (by kernel_rfl) (hval 1 23 v1 rfl rfl) h1
  obtain ⟨a1, e10, rfl, wa1⟩ := DataW.trod_int Try.underlying3 hy10
  obtain ⟨n1, e11, rfl, wn1⟩ := DataW.trod_int Try.underlying2 hy11
  obtain ⟨s1, e12, rfl, ws1⟩ := DataW.trod_string Try.underlying9 hy12
  simp only [List.cons.injEq, and_true] at e10 e11 e12
  subst e10 e11 e12
  have k2 := h2
  have lt2 : ∀ x ∈ p2, x.block < W.heap.size := by obtain ⟨m, hm⟩ := k2; exact DataW.trod_lt m _ _ _ hm
  obtain ⟨c20, c21, c22, y20, y21, y22, m2, rfl, rfl, rfl, hy20, hy21, hy22⟩ := Go.Joins.open_agg3 Try.underlying23 (by kernel_rfl) (by kernel_rfl) (hval 2 23 v2 rfl rfl) h2
  obtain ⟨a2, e20, rfl, wa2⟩ := DataW.trod_int Try.underlying3 hy20
  obtain ⟨n2, e21, rfl, wn2⟩ := DataW.trod_int Try.underlying2 hy21
  obtain ⟨s2, e22, rfl, ws2⟩ := DataW.trod_string Try.underlying9 hy22
  simp only [List.cons.injEq, and_true] at e20 e21 e22
  subst e20 e21 e22
  clear hA0 hval0
  refine (walk a0 n0 s0 wa0 wn0 ws0 a1 n1 s1 wa1 wn1 ws1 a2 n2 s2 wa2 wn2 ws2 W).mono fun e W' ⟨he, bel⟩ => ?_
  subst he
  exact ⟨_, rfl, _, _, _, [], _, [], hW', trodAll_mk1 (shut_bool Try.underlying4 _), (trodAll_cons_mk (Below.trod laidOut (by kernel_rfl) (of_decide_eq_true (by kernel_rfl)) k0 bel lt0) (trodAll_cons_mk (Below.trod laidOut (by kernel_rfl) (of_decide_eq_true (by kernel_rfl)) k1 bel lt1) (trodAll_cons_mk (Below.trod laidOut (by kernel_rfl) (of_decide_eq_true (by kernel_rfl)) k2 bel lt2) trodAll_mk0))), rfl, bel.frame _, fun h => by cases h⟩
theorem over : Rows.valueOrderRow.holds Try.pinned (OpenSpec.ofChange Rows.valueOrderSpec) :=
  OpenClaim.holds_of_wide 5 Try.f5 rfl rfl rfl rfl rfl rfl rfl ⟨rfl, rfl, rfl, rfl, rfl⟩ rfl rfl rfl rfl rfl (by kernel_rfl) Try.func5 (by kernel_rfl)
    (of_decide_eq_true (by kernel_rfl)) (by unfold Func.isWrapper; first | (rw [if_pos (by decide +kernel)]; kernel_rfl) | (rw [if_neg (by decide +kernel)]; exact ⟨rfl, rfl⟩))
    (fun os started H enc _ => lifted os started H enc)
/-- The statement. -/
theorem proved : Rows.ValueOrderSaid := over

end Go.Proofs.Ytbgndledcnfceaa.lawOrder
