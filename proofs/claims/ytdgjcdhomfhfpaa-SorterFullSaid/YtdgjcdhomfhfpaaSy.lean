/- What SorterFull computes: true. No condition. -/
import Derived.Test.YtdgjcdhomfhfpaaSz
namespace Go.Proofs.Ytdgjcdhomfhfpaa
open Go.RowKit Go.IntWalk
set_option linter.unusedSimpArgs false
set_option linter.unusedVariables false

abbrev Kf : List K3 := [(0, 0, true)]
theorem chkf : chkK Kf = 0 := by decide +kernel
theorem newEf (z : Nat) (hz : z ≤ 65535) : newE ((z : Int) + 1) Kf = 0 := by
  unfold newE
  rw [if_neg (by omega), chkf]
set_option maxRecDepth 100000 in
set_option maxHeartbeats 8000000 in
theorem full_calls (w : World) (z : Nat) (hz : z ≤ 65535) : Calls Try.prog 5 #[.int .u16 (z : Int)] w fun e w' => e = .returned (.bool true) ∧ Below w.heap.size w w' := by
  go_enter Try.func5, Try.ntmps5
  go_wp2_with fail
  refine Calls.mono (new_calls (K := Kf) ((z : Int) + 1) (by omega) (by decide) (X := fun _ => False) (fun _ h => h.elim) (key_one (k := (0, 0, true)) (World.alloc_heap_new w _) id) (fun _ => True)) ?_
  rintro e W1 ⟨hB1, ⟨h, _⟩ | ⟨_, sb, rfl, hsb, hS1⟩⟩
  · exact absurd (newEf z hz) h
  have hz1 := hB1.size
  rw [World.size_alloc] at hz1 hsb
  have hn : ((z : Int) + 1).toNat = z + 1 := by omega
  rw [hn] at hS1
  have S1 : LvS Kf (z + 1) w sb [] W1 none := ⟨by omega, fun b ⟨_, h⟩ => (by cases h), ((Below.refl _ w).alloc (Nat.le_refl _) _).trans (hB1.mono (by rw [World.size_alloc]; omega)), hS1⟩
  clear hB1 hS1 hsb hz1 hn
  go_wp2_with fail
  go_loopw [5] (fun i wr => ∃ (k : Nat) (LL : List (List V3)) (at_ : Option (Nat × Nat)), i = .int .i64 (k : Nat) ∧ k ≤ 65536 ∧ LL.length = k ∧ LvS Kf (z + 1) w sb LL wr at_) (fun i _ => 65536 - (intOf i).toNat)
  case atStart => exact ⟨0, [], none, by simp, by omega, rfl, S1⟩
  case round =>
    obtain ⟨k, LL, at_, rfl, hk, hLk, S⟩ := hrel
    by_cases hlt : k < 65536
    · have hlti : (k : Int) < 65536 := by omega
      have hr : -9223372036854775808 ≤ (k : Int) + 1 ∧ (k : Int) + 1 ≤ 9223372036854775807 := by omega
      go_wp2_with fail
      refine Calls.mono (S.add1 (by omega) ((k : Int) % 7)) ?_
      rintro e w2 ⟨rfl, at2, S2⟩
      go_wp2_with fail
      exact ⟨⟨k + 1, LL ++ [[nmV ((k : Int) % 7)]], at2, by simp, by omega, by simp [hLk], S2⟩, by simp [intOf]; omega⟩
    · have e : k = 65536 := by omega
      subst e
      have hz0 : ¬ (z : Int) + 1 = 0 := by omega
      have hz1 : 0 ≤ (z : Int) ∧ (z : Int) ≤ 65535 := by omega
      have hz2 : -9223372036854775808 ≤ (65536 : Int) + z ∧ (65536 : Int) + z ≤ 9223372036854775807 := by omega
      have hz3 : -9223372036854775808 ≤ (z : Int) + 1 ∧ (z : Int) + 1 ≤ 9223372036854775807 := by omega
      have hR : (((65536 + (z + 1) - 1) / (z + 1) : Nat) : Int) = ((65536 : Int) + z) / ((z : Int) + 1) := by
        rw [Int.natCast_ediv]
        congr 1
      have hz4 : -9223372036854775808 ≤ ((65536 : Int) + z) / ((z : Int) + 1) ∧ ((65536 : Int) + z) / ((z : Int) + 1) ≤ 9223372036854775807 := by
        rw [← hR]
        have hle : (65536 + (z + 1) - 1) / (z + 1) ≤ 65536 + (z + 1) - 1 := Nat.div_le_self _ _
        obtain ⟨q, hq⟩ : ∃ q, q = (65536 + (z + 1) - 1) / (z + 1) := ⟨_, rfl⟩
        rw [← hq] at hle ⊢
        omega
      have hw1 : IntKind.wrap .i64 (z : Int) = z := i64_in _ (by omega)
      have hw2 : IntKind.wrap .i64 ((65536 : Int) + z) = 65536 + z := i64_in _ hz2
      have hw3 : IntKind.wrap .i64 ((z : Int) + 1) = (z : Int) + 1 := i64_in _ hz3
      have hw4 : IntKind.wrap .i64 (Int.tdiv ((65536 : Int) + z) ((z : Int) + 1)) = ((65536 : Int) + z) / ((z : Int) + 1) := by
        rw [Int.tdiv_eq_ediv_of_nonneg (by omega), i64_in _ hz4]
      go_wp2_with fail
      rw [← wpIn_wide (n := 0)]
      refine regionIn_valsG (by kernel_rfl) (fun _ => trivial) rfl (fun f args w R h => callsIn_wide.2 h) (by kernel_rfl) ?sizes
        (fun (_ : Unit) i => match i with | 2 => .pointer (some ⟨sb, 0, none⟩) | 7 => .pointer (some ⟨sb, 0, none⟩) | 12 => .pointer (some ⟨sb, 0, none⟩) | 3 => .int .i64 3 | 8 => .int .i64 65536 | 13 => .int .i64 (((65536 : Int) + z) / ((z : Int) + 1)) | 14 => .int .u16 (z : Int) | 17 => .int .u16 (z : Int) | 15 => .int .i64 (z : Int) | 18 => .int .i64 (z : Int) | 16 => .int .i64 ((65536 : Int) + z) | 19 => .int .i64 ((z : Int) + 1) | 20 => .int .i64 (((65536 : Int) + z) / ((z : Int) + 1)) | _ => .bool true)
        ?guards (fun _ _ w' => ∃ at_, LvS Kf (z + 1) w sb LL w' at_) () ⟨at_, S.below ((Below.refl _ _).drew)⟩ ?steps ?rdone
      case sizes =>
        exact sizes_of (by kernel_rfl)
      case guards =>
        intro r i o g b ho hg
        have hi : i < 24 := (Array.getElem?_eq_some_iff.1 ho).1
        have : i = 0 ∨ i = 1 ∨ i = 2 ∨ i = 3 ∨ i = 4 ∨ i = 5 ∨ i = 6 ∨ i = 7 ∨ i = 8 ∨ i = 9 ∨ i = 10 ∨ i = 11 ∨ i = 12 ∨ i = 13 ∨ i = 14 ∨ i = 15 ∨ i = 16 ∨ i = 17 ∨ i = 18 ∨ i = 19 ∨ i = 20 ∨ i = 21 ∨ i = 22 ∨ i = 23 := by omega
        rcases this with rfl | rfl | rfl | rfl | rfl | rfl | rfl | rfl | rfl | rfl | rfl | rfl | rfl | rfl | rfl | rfl | rfl | rfl | rfl | rfl | rfl | rfl | rfl | rfl
        all_goals (simp only [List.getElem?_toArray, List.getElem?_cons_zero, List.getElem?_cons_succ, Option.some.injEq] at ho; subst ho; first | (cases hg; done) | (cases hg; rfl))
      case steps =>
        intro D i op r a W3 hop hDi hcl hdep hA hP
        have hi : i < 24 := (Array.getElem?_eq_some_iff.1 hop).1
        have hPP := hP
        obtain ⟨at3, S3⟩ := hPP
        have : i = 0 ∨ i = 1 ∨ i = 2 ∨ i = 3 ∨ i = 4 ∨ i = 5 ∨ i = 6 ∨ i = 7 ∨ i = 8 ∨ i = 9 ∨ i = 10 ∨ i = 11 ∨ i = 12 ∨ i = 13 ∨ i = 14 ∨ i = 15 ∨ i = 16 ∨ i = 17 ∨ i = 18 ∨ i = 19 ∨ i = 20 ∨ i = 21 ∨ i = 22 ∨ i = 23 := by omega
        rcases this with rfl | rfl | rfl | rfl | rfl | rfl | rfl | rfl | rfl | rfl | rfl | rfl | rfl | rfl | rfl | rfl | rfl | rfl | rfl | rfl | rfl | rfl | rfl | rfl
        all_goals (simp only [List.getElem?_toArray, List.getElem?_cons_zero, List.getElem?_cons_succ, Option.some.injEq] at hop; subst hop)
        · refine .inr ⟨9, #[], by simp, (by simp [execOp, go_sem]), ?_⟩
          refine Calls.mono (live_calls W3) ?_
          rintro e w4 ⟨rfl, hB4⟩
          exact ⟨(), rfl, fun _ _ => rfl, at3, S3.below hB4⟩
        · have e0 := hA.was 0 32 rfl (hdep ⟨0, .data⟩ (by simp) rfl) (by simp)
          exact .inl ⟨(), W3, by simp, (by simp [execOp, go_sem, e0]), fun _ _ => rfl, hP⟩
        · have k3 := hA.keep 3 (by kernel_rfl)
          exact .inl ⟨(), W3, by simp, (by simp [execOp, go_sem, k3]), fun _ _ => rfl, hP⟩
        · have e2 := hA.was 2 34 rfl (hdep ⟨2, .data⟩ (by simp) rfl) (by simp)
          refine .inr ⟨10, #[.pointer (some ⟨sb, 0, none⟩), .slice none 0 0], by simp, (by simp [execOp, e2, go_sem]), ?_⟩
          refine Calls.mono (S3.sor.full (fun _ h => h.elim) (by omega) (lo := 0) (L := []) (rowQ_of (.nil none) (Nat.zero_le _))) ?_
          rintro e w4 ⟨rfl, at4, ht⟩
          exact ⟨(), rfl, fun _ _ => rfl, at4, S3.turn ht⟩
        · have e3 := hA.was 3 35 rfl (hdep ⟨3, .data⟩ (by simp) rfl) (by simp)
          exact .inl ⟨(), W3, by simp, (by simp [execOp, go_sem, e3]), fun _ _ => rfl, hP⟩
        · have e1 := hA.was 1 33 rfl (hdep ⟨1, .data⟩ (by simp) rfl) (by simp)
          have e4 := hA.was 4 36 rfl (hdep ⟨4, .data⟩ (by simp) rfl) (by simp)
          exact .inl ⟨(), W3, by simp, (by simp [execOp, go_sem, e1, e4]), fun _ _ => rfl, hP⟩
        · have e5 := hA.was 5 37 rfl (hdep ⟨5, .data⟩ (by simp) rfl) (by simp)
          exact .inl ⟨(), W3, by simp, (by simp [execOp, go_sem, e5]), fun _ _ => rfl, hP⟩
        · have k3 := hA.keep 3 (by kernel_rfl)
          exact .inl ⟨(), W3, by simp, (by simp [execOp, go_sem, k3]), fun _ _ => rfl, hP⟩
        · have e7 := hA.was 7 39 rfl (hdep ⟨7, .data⟩ (by simp) rfl) (by simp)
          refine .inr ⟨12, #[.pointer (some ⟨sb, 0, none⟩)], by simp, (by simp [execOp, e7, go_sem]), ?_⟩
          refine Calls.mono S3.sor.len_calls ?_
          rintro e w4 ⟨rfl, rfl⟩
          exact ⟨(), by rw [hLk]; rfl, fun _ _ => rfl, at3, S3⟩
        · have e8 := hA.was 8 40 rfl (hdep ⟨8, .data⟩ (by simp) rfl) (by simp)
          exact .inl ⟨(), W3, by simp, (by simp [execOp, go_sem, e8]), fun _ _ => rfl, hP⟩
        · have e6 := hA.was 6 38 rfl (hdep ⟨6, .data⟩ (by simp) rfl) (by simp)
          have e9 := hA.was 9 41 rfl (hdep ⟨9, .data⟩ (by simp) rfl) (by simp)
          exact .inl ⟨(), W3, by simp, (by simp [execOp, go_sem, e6, e9]), fun _ _ => rfl, hP⟩
        · have e10 := hA.was 10 42 rfl (hdep ⟨10, .data⟩ (by simp) rfl) (by simp)
          exact .inl ⟨(), W3, by simp, (by simp [execOp, go_sem, e10]), fun _ _ => rfl, hP⟩
        · have k3 := hA.keep 3 (by kernel_rfl)
          exact .inl ⟨(), W3, by simp, (by simp [execOp, go_sem, k3]), fun _ _ => rfl, hP⟩
        · have e12 := hA.was 12 44 rfl (hdep ⟨12, .data⟩ (by simp) rfl) (by simp)
          refine .inr ⟨13, #[.pointer (some ⟨sb, 0, none⟩)], by simp, (by simp [execOp, e12, go_sem]), ?_⟩
          refine Calls.mono (S3.sor.runs_len (by omega) (by omega) (by omega)) ?_
          rintro e w4 ⟨rfl, hB4⟩
          exact ⟨(), by rw [hLk, hR]; rfl, fun _ _ => rfl, at3, S3.below hB4⟩
        · have k0 := hA.keep 0 (by kernel_rfl)
          exact .inl ⟨(), W3, by simp, (by simp [execOp, go_sem, k0]), fun _ _ => rfl, hP⟩
        · have e14 := hA.was 14 46 rfl (hdep ⟨14, .data⟩ (by simp) rfl) (by simp)
          exact .inl ⟨(), W3, by simp, (by simp [execOp, go_sem, e14, hw1]), fun _ _ => rfl, hP⟩
        · have e15 := hA.was 15 47 rfl (hdep ⟨15, .data⟩ (by simp) rfl) (by simp)
          exact .inl ⟨(), W3, by simp, (by simp [execOp, go_sem, e15, hw2]), fun _ _ => rfl, hP⟩
        · have k0 := hA.keep 0 (by kernel_rfl)
          exact .inl ⟨(), W3, by simp, (by simp [execOp, go_sem, k0]), fun _ _ => rfl, hP⟩
        · have e17 := hA.was 17 49 rfl (hdep ⟨17, .data⟩ (by simp) rfl) (by simp)
          exact .inl ⟨(), W3, by simp, (by simp [execOp, go_sem, e17, hw1]), fun _ _ => rfl, hP⟩
        · have e18 := hA.was 18 50 rfl (hdep ⟨18, .data⟩ (by simp) rfl) (by simp)
          exact .inl ⟨(), W3, by simp, (by simp [execOp, go_sem, e18, hw3]), fun _ _ => rfl, hP⟩
        · have e16 := hA.was 16 48 rfl (hdep ⟨16, .data⟩ (by simp) rfl) (by simp)
          have e19 := hA.was 19 51 rfl (hdep ⟨19, .data⟩ (by simp) rfl) (by simp)
          exact .inl ⟨(), W3, by simp, (by simp [execOp, go_sem, e16, e19, hz0, hw4]), fun _ _ => rfl, hP⟩
        · have e13 := hA.was 13 45 rfl (hdep ⟨13, .data⟩ (by simp) rfl) (by simp)
          have e20 := hA.was 20 52 rfl (hdep ⟨20, .data⟩ (by simp) rfl) (by simp)
          exact .inl ⟨(), W3, by simp, (by simp [execOp, go_sem, e13, e20]), fun _ _ => rfl, hP⟩
        · have e11 := hA.was 11 43 rfl (hdep ⟨11, .data⟩ (by simp) rfl) (by simp)
          have e21 := hA.was 21 53 rfl (hdep ⟨21, .data⟩ (by simp) rfl) (by simp)
          exact .inl ⟨(), W3, by simp, (by simp [execOp, go_sem, e11, e21]), fun _ _ => rfl, hP⟩
        · have e22 := hA.was 22 54 rfl (hdep ⟨22, .data⟩ (by simp) rfl) (by simp)
          exact .inl ⟨(), W3, by simp, (by simp [execOp, go_sem, e22]), fun _ _ => rfl, hP⟩
      case rdone =>
        intro D r a W4 hall hA hP
        obtain ⟨at4, S4⟩ := hP
        have ha := hA.eq (goodG.apart (by kernel_rfl)) hall
        simp only [putsR, Act.put, List.setIfInBounds_toArray, List.set_cons_zero, List.set_cons_succ] at ha
        subst ha
        clear hA hall
        gi_wp2
        go_wp2_with fail
        go_ret
        exact ⟨rfl, S4.hB⟩
end Go.Proofs.Ytdgjcdhomfhfpaa
