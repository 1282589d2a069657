/- AggPlays at one aggregate: count. Condition: values that a machine can hold. AggPlays at one aggregate: sum. Condition: values that a machine can hold. AggPlays at one aggregate: total. Condition: values that a machine can hold. AggPlays at one aggregate: avg. Condition: values that a machine can hold. AggPlays at one aggregate: min. Condition: values that a machine can hold. AggPlays at one aggregate: max. Condition: values that a machine can hold. AggPlays at one aggregate: avg. Condition: values that a machine can hold. AggPlays at any name. Condition: values that a machine can hold. -/
import Derived.Test.YteljlbgjpnfdjaaAbX1
import Derived.Test.YteljlbgjpnfdjaaGz
import Derived.Test.YteljlbgjpnfdjaaAbX2
import Derived.Test.YteljlbgjpnfdjaaAbX3
import Derived.Test.YteljlbgjpnfdjaaAbX4
import Derived.Test.YteljlbgjpnfdjaaAbX5
import Derived.Test.YteljlbgjpnfdjaaAbX6
import Derived.Test.YteljlbgjpnfdjaaAbX7
namespace Go.Proofs.Yteljlbgjpnfdjaa
open Go.RowKit Go.IntWalk
set_option linter.unusedSimpArgs false
set_option linter.unusedVariables false

set_option maxHeartbeats 4000000 in
theorem play_count (d : Bool) (l : List V3) (hl : ∀ v ∈ l, OKv v) : FnC Try.prog 3 [ND oCount, bD d, .c (.vs (vc l))] (bD true) := by
  refine w3_count d (vc l) ⟨fun h => ⟨⟨by omega, by omega, by omega⟩, vc_sz l, ?_⟩, fun h => ?_⟩
  · rw [show ((100 : Int).toNat) = 100 from rfl, vc_take]
    have hM : ∀ v ∈ l.take 100, OKv v := fun v hv => hl v (List.mem_of_mem_take hv)
    have hn : (l.take 100).length ≤ 100 := by rw [List.length_take]; omega
    generalize l.take 100 = M at *
    clear h hl
    refine ⟨_, _, _, _, c_rNew oCount d (by unfold IsOp; decide), knownB oCount M.length, fun _ => by rw [vc_len]; exact c_Known oCount _ (by unfold IsOp; decide), knownB oCount M.length, fun _ => by rw [vc_len]; exact c_rKnown oCount _ (by unfold IsOp; decide), knownB oCount 1, fun _ => c_Known oCount 1 (by unfold IsOp; decide), knownB oCount 1, fun _ => c_rKnown oCount 1 (by unfold IsOp; decide), fun hc => absurd hc (by simp), fun _ => ?_⟩
    refine ⟨_, _, _, _, c_Of_count d M hM (by omega), _, _, _, _, c_rOf oCount d false endC M (by unfold IsOp; decide) (by decide) hM (by omega) (fun K _ _ => c_rEndC d K), fun hc => absurd hc (by simp), fun _ => ?_⟩
    refine ⟨fun a1 a2 a3 a4 a5 a6 a7 a8 a9 x3 n xh k => ∃ (i : Nat) (K H : List V3), x3 = (i : Int) ∧ i ≤ M.length ∧ k = M.length - i ∧ a1 = oCount ∧ d = a2 ∧ a3 = vc K ∧ (∀ v ∈ K, OKv v) ∧ K.length ≤ i ∧ RelH d K H ∧ xh = vc H ∧ n = (K.length : Int), ⟨M.length, 0, [], [], rfl, by omega, rfl, rfl, rfl, rfl, (fun v h => by simp at h), by simp, relH_nil d, rfl, rfl⟩, ?_⟩
    rintro k _ _ _ _ _ _ _ _ _ _ _ _ ⟨i, K, H, rfl, hi, rfl, rfl, rfl, rfl, hK, hKl, hR, rfl, rfl⟩
    refine ⟨fun hlt => ?_, fun _ => ⟨true, c_live, rfl⟩⟩
    have hil : i < M.length := by
      rcases hlt with h | h
      · rw [vc_len] at h; omega
      · cases h
    obtain ⟨e0, e1, e2⟩ := cells_v M i hil
    have hv := okv_at hM i
    have hwu := wrap_up i (by omega)
    have hix : 0 ≤ (i : Int) ∧ (i : Int) < ((vc M).length : Int) := ⟨by omega, by rw [vc_len]; omega⟩
    have hkk := vc_k M (i : Int) (by omega) (by omega)
    simp only [e0, e1, e2]
    clear e0 e1 e2 hlt
    generalize M.getD i nul = v at *
    refine ⟨hix, vc_sz M, hkk, checkV v, c_vCheck v, fun h1 => ?_, fun h1 => ⟨fun h2 => ?_, fun h2 => ?_⟩⟩
    · have hup := addL_bad (num := false) (d := d) (K := K) h1
      have hadd : FnC Try.prog 13 [aD oCount d K, vD v] (.tup [aD oCount d K, iD (checkV v)]) := by
        have := c_rAdd oCount d false K v (by decide) hK hv.1 (by omega)
        rwa [hup] at this
      refine ⟨hix, vc_sz M, hkk, oCount, d, vc K, (checkV v), hadd, ?_⟩
      exact ⟨1, _, bs [], c_vNum _, 1, _, bs [], 0, c_rEndC d K, fun hc => absurd hc cmp_ok, fun _ => ⟨M.length - (i + 1), by omega, i + 1, K, H, hwu, by omega, rfl, rfl, rfl, rfl, hK, by omega, hR, rfl, rfl⟩⟩
    · have hup := addL_nul (num := false) (d := d) (K := K) h1 h2
      have hadd : FnC Try.prog 13 [aD oCount d K, vD v] (.tup [aD oCount d K, iD 0]) := by
        have := c_rAdd oCount d false K v (by decide) hK hv.1 (by omega)
        rwa [hup] at this
      refine ⟨hix, vc_sz M, hkk, oCount, d, vc K, 0, hadd, ?_⟩
      exact ⟨1, _, bs [], c_vNum _, 1, _, bs [], 0, c_rEndC d K, fun hc => absurd hc cmp_ok, fun _ => ⟨M.length - (i + 1), by omega, i + 1, K, H, hwu, by omega, rfl, rfl, rfl, rfl, hK, by omega, hR, rfl, rfl⟩⟩
    have h3' : ¬ (false = true ∧ v.1 ≠ 1) := fun h => by cases h.1
    refine ⟨fun _ => ?_, fun _ => ?_⟩
    all_goals
      refine ⟨fun hd => ?_, fun hd => ?_⟩
      · subst hd
        obtain ⟨j, hj, p2, p3, hp⟩ := c_place H v hR.2.2 hv.1 (by have := hR.2.1; omega) (hR.1 rfl).1
        refine ⟨(j : Int), _, hp, fun hf => ?_, fun hf => ?_⟩
        · have hup := addL_dup (num := false) h1 h2 h3' (by rw [← (hR.1 rfl).2 v]; exact (found_iff (hR.1 rfl).1 p2 p3).1 (of_decide_eq_true hf))
          have hadd : FnC Try.prog 13 [aD oCount true K, vD v] (.tup [aD oCount true K, iD 0]) := by
            have := c_rAdd oCount true false K v (by decide) hK hv.1 (by omega)
            rwa [hup] at this
          refine ⟨hix, vc_sz M, hkk, oCount, true, vc K, 0, hadd, ?_⟩
          exact ⟨1, _, bs [], c_vNum _, 1, _, bs [], 0, c_rEndC true K, fun hc => absurd hc cmp_ok, fun _ => ⟨M.length - (i + 1), by omega, i + 1, K, H, hwu, by omega, rfl, rfl, rfl, rfl, hK, by omega, hR, rfl, rfl⟩⟩
        · have hne : ¬ (j < H.length ∧ cmpV (H.getD j nul) v 0 = 0) := fun h => hf (decide_eq_true h)
          have hup := addL_putT (num := false) h1 h2 h3' (by rw [← (hR.1 rfl).2 v]; exact fun h => hne ((found_iff (hR.1 rfl).1 p2 p3).2 h))
          rintro _ rfl
          refine ⟨_, m_ins H v j hj (by have := hR.2.1; omega), ?_⟩
          have hR' := relH_ins hR hv hj p2 p3 hne
          generalize H.take j ++ [v] ++ H.drop j = H' at *
          rw [show IntKind.wrap .i64 ((K.length : Int) + 1) = (((K ++ [v]).length : Nat) : Int) by rw [wrap_up K.length (by omega)]; simp]
          have hadd : FnC Try.prog 13 [aD oCount true K, vD v] (.tup [aD oCount true (K ++ [v]), iD 0]) := by
            have := c_rAdd oCount true false K v (by decide) hK hv.1 (by omega)
            rwa [hup] at this
          refine ⟨hix, vc_sz M, hkk, oCount, true, vc (K ++ [v]), 0, hadd, ?_⟩
          exact ⟨1, _, bs [], c_vNum _, 1, _, bs [], 0, c_rEndC true (K ++ [v]), fun hc => absurd hc cmp_ok, fun _ => ⟨M.length - (i + 1), by omega, i + 1, (K ++ [v]), H', hwu, by omega, rfl, rfl, rfl, rfl, ok_snoc hK hv, by simp; omega, hR', rfl, rfl⟩⟩
      · have hd : d = false := by simpa using hd
        subst hd
        have hup := addL_putF (num := false) (K := K) (v := v) h1 h2 h3'
        have hR' := relH_put (v := v) hR
        rw [show IntKind.wrap .i64 ((K.length : Int) + 1) = (((K ++ [v]).length : Nat) : Int) by rw [wrap_up K.length (by omega)]; simp]
        have hadd : FnC Try.prog 13 [aD oCount false K, vD v] (.tup [aD oCount false (K ++ [v]), iD 0]) := by
          have := c_rAdd oCount false false K v (by decide) hK hv.1 (by omega)
          rwa [hup] at this
        refine ⟨hix, vc_sz M, hkk, oCount, false, vc (K ++ [v]), 0, hadd, ?_⟩
        exact ⟨1, _, bs [], c_vNum _, 1, _, bs [], 0, c_rEndC false (K ++ [v]), fun hc => absurd hc cmp_ok, fun _ => ⟨M.length - (i + 1), by omega, i + 1, (K ++ [v]), H, hwu, by omega, rfl, rfl, rfl, rfl, ok_snoc hK hv, by simp; omega, hR', rfl, rfl⟩⟩
  · have hn : l.length ≤ 100 := by rw [vc_len] at h; omega
    have hM := hl
    generalize l = M at *
    clear h hl
    refine ⟨_, _, _, _, c_rNew oCount d (by unfold IsOp; decide), knownB oCount M.length, fun _ => by rw [vc_len]; exact c_Known oCount _ (by unfold IsOp; decide), knownB oCount M.length, fun _ => by rw [vc_len]; exact c_rKnown oCount _ (by unfold IsOp; decide), knownB oCount 1, fun _ => c_Known oCount 1 (by unfold IsOp; decide), knownB oCount 1, fun _ => c_rKnown oCount 1 (by unfold IsOp; decide), fun hc => absurd hc (by simp), fun _ => ?_⟩
    refine ⟨_, _, _, _, c_Of_count d M hM (by omega), _, _, _, _, c_rOf oCount d false endC M (by unfold IsOp; decide) (by decide) hM (by omega) (fun K _ _ => c_rEndC d K), fun hc => absurd hc (by simp), fun _ => ?_⟩
    refine ⟨fun a1 a2 a3 a4 a5 a6 a7 a8 a9 x3 n xh k => ∃ (i : Nat) (K H : List V3), x3 = (i : Int) ∧ i ≤ M.length ∧ k = M.length - i ∧ a1 = oCount ∧ d = a2 ∧ a3 = vc K ∧ (∀ v ∈ K, OKv v) ∧ K.length ≤ i ∧ RelH d K H ∧ xh = vc H ∧ n = (K.length : Int), ⟨M.length, 0, [], [], rfl, by omega, rfl, rfl, rfl, rfl, (fun v h => by simp at h), by simp, relH_nil d, rfl, rfl⟩, ?_⟩
    rintro k _ _ _ _ _ _ _ _ _ _ _ _ ⟨i, K, H, rfl, hi, rfl, rfl, rfl, rfl, hK, hKl, hR, rfl, rfl⟩
    refine ⟨fun hlt => ?_, fun _ => ⟨true, c_live, rfl⟩⟩
    have hil : i < M.length := by
      rcases hlt with h | h
      · rw [vc_len] at h; omega
      · cases h
    obtain ⟨e0, e1, e2⟩ := cells_v M i hil
    have hv := okv_at hM i
    have hwu := wrap_up i (by omega)
    have hix : 0 ≤ (i : Int) ∧ (i : Int) < ((vc M).length : Int) := ⟨by omega, by rw [vc_len]; omega⟩
    have hkk := vc_k M (i : Int) (by omega) (by omega)
    simp only [e0, e1, e2]
    clear e0 e1 e2 hlt
    generalize M.getD i nul = v at *
    refine ⟨hix, vc_sz M, hkk, checkV v, c_vCheck v, fun h1 => ?_, fun h1 => ⟨fun h2 => ?_, fun h2 => ?_⟩⟩
    · have hup := addL_bad (num := false) (d := d) (K := K) h1
      have hadd : FnC Try.prog 13 [aD oCount d K, vD v] (.tup [aD oCount d K, iD (checkV v)]) := by
        have := c_rAdd oCount d false K v (by decide) hK hv.1 (by omega)
        rwa [hup] at this
      refine ⟨hix, vc_sz M, hkk, oCount, d, vc K, (checkV v), hadd, ?_⟩
      exact ⟨1, _, bs [], c_vNum _, 1, _, bs [], 0, c_rEndC d K, fun hc => absurd hc cmp_ok, fun _ => ⟨M.length - (i + 1), by omega, i + 1, K, H, hwu, by omega, rfl, rfl, rfl, rfl, hK, by omega, hR, rfl, rfl⟩⟩
    · have hup := addL_nul (num := false) (d := d) (K := K) h1 h2
      have hadd : FnC Try.prog 13 [aD oCount d K, vD v] (.tup [aD oCount d K, iD 0]) := by
        have := c_rAdd oCount d false K v (by decide) hK hv.1 (by omega)
        rwa [hup] at this
      refine ⟨hix, vc_sz M, hkk, oCount, d, vc K, 0, hadd, ?_⟩
      exact ⟨1, _, bs [], c_vNum _, 1, _, bs [], 0, c_rEndC d K, fun hc => absurd hc cmp_ok, fun _ => ⟨M.length - (i + 1), by omega, i + 1, K, H, hwu, by omega, rfl, rfl, rfl, rfl, hK, by omega, hR, rfl, rfl⟩⟩
    have h3' : ¬ (false = true ∧ v.1 ≠ 1) := fun h => by cases h.1
    refine ⟨fun _ => ?_, fun _ => ?_⟩
    all_goals
      refine ⟨fun hd => ?_, fun hd => ?_⟩
      · subst hd
        obtain ⟨j, hj, p2, p3, hp⟩ := c_place H v hR.2.2 hv.1 (by have := hR.2.1; omega) (hR.1 rfl).1
        refine ⟨(j : Int), _, hp, fun hf => ?_, fun hf => ?_⟩
        · have hup := addL_dup (num := false) h1 h2 h3' (by rw [← (hR.1 rfl).2 v]; exact (found_iff (hR.1 rfl).1 p2 p3).1 (of_decide_eq_true hf))
          have hadd : FnC Try.prog 13 [aD oCount true K, vD v] (.tup [aD oCount true K, iD 0]) := by
            have := c_rAdd oCount true false K v (by decide) hK hv.1 (by omega)
            rwa [hup] at this
          refine ⟨hix, vc_sz M, hkk, oCount, true, vc K, 0, hadd, ?_⟩
          exact ⟨1, _, bs [], c_vNum _, 1, _, bs [], 0, c_rEndC true K, fun hc => absurd hc cmp_ok, fun _ => ⟨M.length - (i + 1), by omega, i + 1, K, H, hwu, by omega, rfl, rfl, rfl, rfl, hK, by omega, hR, rfl, rfl⟩⟩
        · have hne : ¬ (j < H.length ∧ cmpV (H.getD j nul) v 0 = 0) := fun h => hf (decide_eq_true h)
          have hup := addL_putT (num := false) h1 h2 h3' (by rw [← (hR.1 rfl).2 v]; exact fun h => hne ((found_iff (hR.1 rfl).1 p2 p3).2 h))
          rintro _ rfl
          refine ⟨_, m_ins H v j hj (by have := hR.2.1; omega), ?_⟩
          have hR' := relH_ins hR hv hj p2 p3 hne
          generalize H.take j ++ [v] ++ H.drop j = H' at *
          rw [show IntKind.wrap .i64 ((K.length : Int) + 1) = (((K ++ [v]).length : Nat) : Int) by rw [wrap_up K.length (by omega)]; simp]
          have hadd : FnC Try.prog 13 [aD oCount true K, vD v] (.tup [aD oCount true (K ++ [v]), iD 0]) := by
            have := c_rAdd oCount true false K v (by decide) hK hv.1 (by omega)
            rwa [hup] at this
          refine ⟨hix, vc_sz M, hkk, oCount, true, vc (K ++ [v]), 0, hadd, ?_⟩
          exact ⟨1, _, bs [], c_vNum _, 1, _, bs [], 0, c_rEndC true (K ++ [v]), fun hc => absurd hc cmp_ok, fun _ => ⟨M.length - (i + 1), by omega, i + 1, (K ++ [v]), H', hwu, by omega, rfl, rfl, rfl, rfl, ok_snoc hK hv, by simp; omega, hR', rfl, rfl⟩⟩
      · have hd : d = false := by simpa using hd
        subst hd
        have hup := addL_putF (num := false) (K := K) (v := v) h1 h2 h3'
        have hR' := relH_put (v := v) hR
        rw [show IntKind.wrap .i64 ((K.length : Int) + 1) = (((K ++ [v]).length : Nat) : Int) by rw [wrap_up K.length (by omega)]; simp]
        have hadd : FnC Try.prog 13 [aD oCount false K, vD v] (.tup [aD oCount false (K ++ [v]), iD 0]) := by
          have := c_rAdd oCount false false K v (by decide) hK hv.1 (by omega)
          rwa [hup] at this
        refine ⟨hix, vc_sz M, hkk, oCount, false, vc (K ++ [v]), 0, hadd, ?_⟩
        exact ⟨1, _, bs [], c_vNum _, 1, _, bs [], 0, c_rEndC false (K ++ [v]), fun hc => absurd hc cmp_ok, fun _ => ⟨M.length - (i + 1), by omega, i + 1, (K ++ [v]), H, hwu, by omega, rfl, rfl, rfl, rfl, ok_snoc hK hv, by simp; omega, hR', rfl, rfl⟩⟩
end Go.Proofs.Yteljlbgjpnfdjaa
namespace Go.Proofs.Yteljlbgjpnfdjaa
open Go.RowKit Go.IntWalk
set_option linter.unusedSimpArgs false
set_option linter.unusedVariables false

set_option maxHeartbeats 4000000 in
theorem play_sum (d : Bool) (l : List V3) (hl : ∀ v ∈ l, OKv v) : FnC Try.prog 3 [ND oSum, bD d, .c (.vs (vc l))] (bD true) := by
  refine w3_sum d (vc l) ⟨fun h => ⟨⟨by omega, by omega, by omega⟩, vc_sz l, ?_⟩, fun h => ?_⟩
  · rw [show ((100 : Int).toNat) = 100 from rfl, vc_take]
    have hM : ∀ v ∈ l.take 100, OKv v := fun v hv => hl v (List.mem_of_mem_take hv)
    have hn : (l.take 100).length ≤ 100 := by rw [List.length_take]; omega
    generalize l.take 100 = M at *
    clear h hl
    refine ⟨_, _, _, _, c_rNew oSum d (by unfold IsOp; decide), knownB oSum M.length, fun _ => by rw [vc_len]; exact c_Known oSum _ (by unfold IsOp; decide), knownB oSum M.length, fun _ => by rw [vc_len]; exact c_rKnown oSum _ (by unfold IsOp; decide), knownB oSum 1, fun _ => c_Known oSum 1 (by unfold IsOp; decide), knownB oSum 1, fun _ => c_rKnown oSum 1 (by unfold IsOp; decide), fun hc => absurd hc (by simp), fun _ => ?_⟩
    refine ⟨_, _, _, _, c_Of_sum d M hM (by omega), _, _, _, _, c_rOf oSum d true (endS false) M (by unfold IsOp; decide) (by decide) hM (by omega) (fun K h1 h2 => c_rEndS false d K h1 h2), fun hc => absurd hc (by simp), fun _ => ?_⟩
    refine ⟨fun a1 a2 a3 a4 a5 a6 a7 a8 a9 x3 a b s xh k => ∃ (i : Nat) (K H : List V3), x3 = (i : Int) ∧ i ≤ M.length ∧ k = M.length - i ∧ a1 = oSum ∧ d = a2 ∧ a3 = vc K ∧ (∀ v ∈ K, OKv v) ∧ K.length ≤ i ∧ RelH d K H ∧ xh = vc H ∧ a = sumN K / 18446744073709551616 ∧ b = sumN K % 18446744073709551616 ∧ s = !K.isEmpty, ⟨M.length, 0, [], [], rfl, by omega, rfl, rfl, rfl, rfl, (fun v h => by simp at h), by simp, relH_nil d, rfl, rfl, rfl, rfl⟩, ?_⟩
    rintro k _ _ _ _ _ _ _ _ _ _ _ _ _ _ ⟨i, K, H, rfl, hi, rfl, rfl, rfl, rfl, hK, hKl, hR, rfl, rfl, rfl, rfl⟩
    have hb := sum_bb K hK (by omega)
    refine ⟨fun hlt => ?_, fun _ => ⟨true, c_live, rfl⟩⟩
    have hil : i < M.length := by
      rcases hlt with h | h
      · rw [vc_len] at h; omega
      · cases h
    obtain ⟨e0, e1, e2⟩ := cells_v M i hil
    have hv := okv_at hM i
    have hwu := wrap_up i (by omega)
    have hix : 0 ≤ (i : Int) ∧ (i : Int) < ((vc M).length : Int) := ⟨by omega, by rw [vc_len]; omega⟩
    have hkk := vc_k M (i : Int) (by omega) (by omega)
    simp only [e0, e1, e2]
    clear e0 e1 e2 hlt
    generalize M.getD i nul = v at *
    refine ⟨hix, vc_sz M, hkk, checkV v, c_vCheck v, fun h1 => ?_, fun h1 => ⟨fun h2 => ?_, fun h2 => ?_⟩⟩
    · have hup := addL_bad (num := true) (d := d) (K := K) h1
      have hadd : FnC Try.prog 13 [aD oSum d K, vD v] (.tup [aD oSum d K, iD (checkV v)]) := by
        have := c_rAdd oSum d true K v (by decide) hK hv.1 (by omega)
        rwa [hup] at this
      refine ⟨hix, vc_sz M, hkk, oSum, d, vc K, (checkV v), hadd, ?_⟩
      have hE := c_rEndS false d K (hK) (by have := hKl; simp; omega)
      have hb' := sum_bb K (hK) (by have := hKl; simp; omega)
      refine ⟨fun hs => ?_, fun hs => ?_⟩
      · have hK0 : K = [] := by simpa using hs
        have hE' : endS false K = (nul, 0) := by
          unfold endS
          rw [if_pos hK0]
          rfl
        rw [hE'] at hE
        exact ⟨0, 0, bs [], 0, hE, fun hc => absurd hc cmp_ok, fun _ => ⟨M.length - (i + 1), by omega, i + 1, K, H, hwu, by omega, rfl, rfl, rfl, rfl, hK, by omega, hR, rfl, rfl, rfl, rfl⟩⟩
      · have hK0 : K ≠ [] := by simpa using hs
        refine ⟨fun hf => ?_, fun hf => ?_⟩
        · have hE' : endS false K = (nul, 9) := by
            unfold endS
            rw [if_neg hK0, if_neg (fun h => hf ((fits_iff _ hb').2 h))]
          rw [hE'] at hE
          exact ⟨0, 0, bs [], 9, hE, fun hc => absurd hc cmp_ok, fun _ => ⟨M.length - (i + 1), by omega, i + 1, K, H, hwu, by omega, rfl, rfl, rfl, rfl, hK, by omega, hR, rfl, rfl, rfl, rfl⟩⟩
        · have hfit := (fits_iff _ hb').1 (Classical.not_not.1 hf)
          have hE' : endS false K = ((1, sumN K, []), 0) := by
            unfold endS
            rw [if_neg hK0, if_pos hfit]
          rw [hE'] at hE
          rw [sum_low _ hfit]
          exact ⟨1, _, bs [], c_vNum _, 1, sumN K, bs [], 0, hE, fun hc => absurd hc cmp_ok, fun _ => ⟨M.length - (i + 1), by omega, i + 1, K, H, hwu, by omega, rfl, rfl, rfl, rfl, hK, by omega, hR, rfl, rfl, rfl, rfl⟩⟩
    · have hup := addL_nul (num := true) (d := d) (K := K) h1 h2
      have hadd : FnC Try.prog 13 [aD oSum d K, vD v] (.tup [aD oSum d K, iD 0]) := by
        have := c_rAdd oSum d true K v (by decide) hK hv.1 (by omega)
        rwa [hup] at this
      refine ⟨hix, vc_sz M, hkk, oSum, d, vc K, 0, hadd, ?_⟩
      have hE := c_rEndS false d K (hK) (by have := hKl; simp; omega)
      have hb' := sum_bb K (hK) (by have := hKl; simp; omega)
      refine ⟨fun hs => ?_, fun hs => ?_⟩
      · have hK0 : K = [] := by simpa using hs
        have hE' : endS false K = (nul, 0) := by
          unfold endS
          rw [if_pos hK0]
          rfl
        rw [hE'] at hE
        exact ⟨0, 0, bs [], 0, hE, fun hc => absurd hc cmp_ok, fun _ => ⟨M.length - (i + 1), by omega, i + 1, K, H, hwu, by omega, rfl, rfl, rfl, rfl, hK, by omega, hR, rfl, rfl, rfl, rfl⟩⟩
      · have hK0 : K ≠ [] := by simpa using hs
        refine ⟨fun hf => ?_, fun hf => ?_⟩
        · have hE' : endS false K = (nul, 9) := by
            unfold endS
            rw [if_neg hK0, if_neg (fun h => hf ((fits_iff _ hb').2 h))]
          rw [hE'] at hE
          exact ⟨0, 0, bs [], 9, hE, fun hc => absurd hc cmp_ok, fun _ => ⟨M.length - (i + 1), by omega, i + 1, K, H, hwu, by omega, rfl, rfl, rfl, rfl, hK, by omega, hR, rfl, rfl, rfl, rfl⟩⟩
        · have hfit := (fits_iff _ hb').1 (Classical.not_not.1 hf)
          have hE' : endS false K = ((1, sumN K, []), 0) := by
            unfold endS
            rw [if_neg hK0, if_pos hfit]
          rw [hE'] at hE
          rw [sum_low _ hfit]
          exact ⟨1, _, bs [], c_vNum _, 1, sumN K, bs [], 0, hE, fun hc => absurd hc cmp_ok, fun _ => ⟨M.length - (i + 1), by omega, i + 1, K, H, hwu, by omega, rfl, rfl, rfl, rfl, hK, by omega, hR, rfl, rfl, rfl, rfl⟩⟩
    refine ⟨fun h3 => ?_, fun h3 => ?_⟩
    · have hup := addL_num (d := d) (K := K) h1 h2 h3
      have hadd : FnC Try.prog 13 [aD oSum d K, vD v] (.tup [aD oSum d K, iD 11]) := by
        have := c_rAdd oSum d true K v (by decide) hK hv.1 (by omega)
        rwa [hup] at this
      refine ⟨hix, vc_sz M, hkk, oSum, d, vc K, 11, hadd, ?_⟩
      have hE := c_rEndS false d K (hK) (by have := hKl; simp; omega)
      have hb' := sum_bb K (hK) (by have := hKl; simp; omega)
      refine ⟨fun hs => ?_, fun hs => ?_⟩
      · have hK0 : K = [] := by simpa using hs
        have hE' : endS false K = (nul, 0) := by
          unfold endS
          rw [if_pos hK0]
          rfl
        rw [hE'] at hE
        exact ⟨0, 0, bs [], 0, hE, fun hc => absurd hc cmp_ok, fun _ => ⟨M.length - (i + 1), by omega, i + 1, K, H, hwu, by omega, rfl, rfl, rfl, rfl, hK, by omega, hR, rfl, rfl, rfl, rfl⟩⟩
      · have hK0 : K ≠ [] := by simpa using hs
        refine ⟨fun hf => ?_, fun hf => ?_⟩
        · have hE' : endS false K = (nul, 9) := by
            unfold endS
            rw [if_neg hK0, if_neg (fun h => hf ((fits_iff _ hb').2 h))]
          rw [hE'] at hE
          exact ⟨0, 0, bs [], 9, hE, fun hc => absurd hc cmp_ok, fun _ => ⟨M.length - (i + 1), by omega, i + 1, K, H, hwu, by omega, rfl, rfl, rfl, rfl, hK, by omega, hR, rfl, rfl, rfl, rfl⟩⟩
        · have hfit := (fits_iff _ hb').1 (Classical.not_not.1 hf)
          have hE' : endS false K = ((1, sumN K, []), 0) := by
            unfold endS
            rw [if_neg hK0, if_pos hfit]
          rw [hE'] at hE
          rw [sum_low _ hfit]
          exact ⟨1, _, bs [], c_vNum _, 1, sumN K, bs [], 0, hE, fun hc => absurd hc cmp_ok, fun _ => ⟨M.length - (i + 1), by omega, i + 1, K, H, hwu, by omega, rfl, rfl, rfl, rfl, hK, by omega, hR, rfl, rfl, rfl, rfl⟩⟩
    have h3' : ¬ (true = true ∧ v.1 ≠ 1) := fun h => h.2 (Classical.not_not.1 h3)
    refine ⟨fun hd => ?_, fun hd => ?_⟩
    · subst hd
      obtain ⟨j, hj, p2, p3, hp⟩ := c_place H v hR.2.2 hv.1 (by have := hR.2.1; omega) (hR.1 rfl).1
      refine ⟨(j : Int), _, hp, fun hf => ?_, fun hf => ?_⟩
      · have hup := addL_dup (num := true) h1 h2 h3' (by rw [← (hR.1 rfl).2 v]; exact (found_iff (hR.1 rfl).1 p2 p3).1 (of_decide_eq_true hf))
        have hadd : FnC Try.prog 13 [aD oSum true K, vD v] (.tup [aD oSum true K, iD 0]) := by
          have := c_rAdd oSum true true K v (by decide) hK hv.1 (by omega)
          rwa [hup] at this
        refine ⟨hix, vc_sz M, hkk, oSum, true, vc K, 0, hadd, ?_⟩
        have hE := c_rEndS false true K (hK) (by have := hKl; simp; omega)
        have hb' := sum_bb K (hK) (by have := hKl; simp; omega)
        refine ⟨fun hs => ?_, fun hs => ?_⟩
        · have hK0 : K = [] := by simpa using hs
          have hE' : endS false K = (nul, 0) := by
            unfold endS
            rw [if_pos hK0]
            rfl
          rw [hE'] at hE
          exact ⟨0, 0, bs [], 0, hE, fun hc => absurd hc cmp_ok, fun _ => ⟨M.length - (i + 1), by omega, i + 1, K, H, hwu, by omega, rfl, rfl, rfl, rfl, hK, by omega, hR, rfl, rfl, rfl, rfl⟩⟩
        · have hK0 : K ≠ [] := by simpa using hs
          refine ⟨fun hf => ?_, fun hf => ?_⟩
          · have hE' : endS false K = (nul, 9) := by
              unfold endS
              rw [if_neg hK0, if_neg (fun h => hf ((fits_iff _ hb').2 h))]
            rw [hE'] at hE
            exact ⟨0, 0, bs [], 9, hE, fun hc => absurd hc cmp_ok, fun _ => ⟨M.length - (i + 1), by omega, i + 1, K, H, hwu, by omega, rfl, rfl, rfl, rfl, hK, by omega, hR, rfl, rfl, rfl, rfl⟩⟩
          · have hfit := (fits_iff _ hb').1 (Classical.not_not.1 hf)
            have hE' : endS false K = ((1, sumN K, []), 0) := by
              unfold endS
              rw [if_neg hK0, if_pos hfit]
            rw [hE'] at hE
            rw [sum_low _ hfit]
            exact ⟨1, _, bs [], c_vNum _, 1, sumN K, bs [], 0, hE, fun hc => absurd hc cmp_ok, fun _ => ⟨M.length - (i + 1), by omega, i + 1, K, H, hwu, by omega, rfl, rfl, rfl, rfl, hK, by omega, hR, rfl, rfl, rfl, rfl⟩⟩
      · have hne : ¬ (j < H.length ∧ cmpV (H.getD j nul) v 0 = 0) := fun h => hf (decide_eq_true h)
        have hup := addL_putT (num := true) h1 h2 h3' (by rw [← (hR.1 rfl).2 v]; exact fun h => hne ((found_iff (hR.1 rfl).1 p2 p3).2 h))
        rintro _ rfl
        refine ⟨_, m_ins H v j hj (by have := hR.2.1; omega), ?_⟩
        have hR' := relH_ins hR hv hj p2 p3 hne
        generalize H.take j ++ [v] ++ H.drop j = H' at *
        obtain ⟨w1, w2⟩ := add_words (sumN K) v.2.1 hv.2 hb
        refine ⟨_, _, c_Add64 _ _ 0 (Int.emod_nonneg _ (by decide)) (by rw [wrU]; exact Int.emod_nonneg _ (by decide)) (by omega) (by omega), ?_⟩
        rw [w1, w2, ← sumN_snoc]
        have hadd : FnC Try.prog 13 [aD oSum true K, vD v] (.tup [aD oSum true (K ++ [v]), iD 0]) := by
          have := c_rAdd oSum true true K v (by decide) hK hv.1 (by omega)
          rwa [hup] at this
        refine ⟨hix, vc_sz M, hkk, oSum, true, vc (K ++ [v]), 0, hadd, ?_⟩
        have hE := c_rEndS false true (K ++ [v]) (ok_snoc hK hv) (by have := hKl; simp; omega)
        have hb' := sum_bb (K ++ [v]) (ok_snoc hK hv) (by have := hKl; simp; omega)
        have hK0 : (K ++ [v]) ≠ [] := by simp
        refine ⟨fun hf => ?_, fun hf => ?_⟩
        · have hE' : endS false (K ++ [v]) = (nul, 9) := by
            unfold endS
            rw [if_neg hK0, if_neg (fun h => hf ((fits_iff _ hb').2 h))]
          rw [hE'] at hE
          exact ⟨0, 0, bs [], 9, hE, fun hc => absurd hc cmp_ok, fun _ => ⟨M.length - (i + 1), by omega, i + 1, (K ++ [v]), H', hwu, by omega, rfl, rfl, rfl, rfl, ok_snoc hK hv, by simp; omega, hR', rfl, rfl, rfl, by simp⟩⟩
        · have hfit := (fits_iff _ hb').1 (Classical.not_not.1 hf)
          have hE' : endS false (K ++ [v]) = ((1, sumN (K ++ [v]), []), 0) := by
            unfold endS
            rw [if_neg hK0, if_pos hfit]
          rw [hE'] at hE
          rw [sum_low _ hfit]
          exact ⟨1, _, bs [], c_vNum _, 1, sumN (K ++ [v]), bs [], 0, hE, fun hc => absurd hc cmp_ok, fun _ => ⟨M.length - (i + 1), by omega, i + 1, (K ++ [v]), H', hwu, by omega, rfl, rfl, rfl, rfl, ok_snoc hK hv, by simp; omega, hR', rfl, rfl, rfl, by simp⟩⟩
    · have hd : d = false := by simpa using hd
      subst hd
      have hup := addL_putF (num := true) (K := K) (v := v) h1 h2 h3'
      have hR' := relH_put (v := v) hR
      obtain ⟨w1, w2⟩ := add_words (sumN K) v.2.1 hv.2 hb
      refine ⟨_, _, c_Add64 _ _ 0 (Int.emod_nonneg _ (by decide)) (by rw [wrU]; exact Int.emod_nonneg _ (by decide)) (by omega) (by omega), ?_⟩
      rw [w1, w2, ← sumN_snoc]
      have hadd : FnC Try.prog 13 [aD oSum false K, vD v] (.tup [aD oSum false (K ++ [v]), iD 0]) := by
        have := c_rAdd oSum false true K v (by decide) hK hv.1 (by omega)
        rwa [hup] at this
      refine ⟨hix, vc_sz M, hkk, oSum, false, vc (K ++ [v]), 0, hadd, ?_⟩
      have hE := c_rEndS false false (K ++ [v]) (ok_snoc hK hv) (by have := hKl; simp; omega)
      have hb' := sum_bb (K ++ [v]) (ok_snoc hK hv) (by have := hKl; simp; omega)
      have hK0 : (K ++ [v]) ≠ [] := by simp
      refine ⟨fun hf => ?_, fun hf => ?_⟩
      · have hE' : endS false (K ++ [v]) = (nul, 9) := by
          unfold endS
          rw [if_neg hK0, if_neg (fun h => hf ((fits_iff _ hb').2 h))]
        rw [hE'] at hE
        exact ⟨0, 0, bs [], 9, hE, fun hc => absurd hc cmp_ok, fun _ => ⟨M.length - (i + 1), by omega, i + 1, (K ++ [v]), H, hwu, by omega, rfl, rfl, rfl, rfl, ok_snoc hK hv, by simp; omega, hR', rfl, rfl, rfl, by simp⟩⟩
      · have hfit := (fits_iff _ hb').1 (Classical.not_not.1 hf)
        have hE' : endS false (K ++ [v]) = ((1, sumN (K ++ [v]), []), 0) := by
          unfold endS
          rw [if_neg hK0, if_pos hfit]
        rw [hE'] at hE
        rw [sum_low _ hfit]
        exact ⟨1, _, bs [], c_vNum _, 1, sumN (K ++ [v]), bs [], 0, hE, fun hc => absurd hc cmp_ok, fun _ => ⟨M.length - (i + 1), by omega, i + 1, (K ++ [v]), H, hwu, by omega, rfl, rfl, rfl, rfl, ok_snoc hK hv, by simp; omega, hR', rfl, rfl, rfl, by simp⟩⟩
  · have hn : l.length ≤ 100 := by rw [vc_len] at h; omega
    have hM := hl
    generalize l = M at *
    clear h hl
    refine ⟨_, _, _, _, c_rNew oSum d (by unfold IsOp; decide), knownB oSum M.length, fun _ => by rw [vc_len]; exact c_Known oSum _ (by unfold IsOp; decide), knownB oSum M.length, fun _ => by rw [vc_len]; exact c_rKnown oSum _ (by unfold IsOp; decide), knownB oSum 1, fun _ => c_Known oSum 1 (by unfold IsOp; decide), knownB oSum 1, fun _ => c_rKnown oSum 1 (by unfold IsOp; decide), fun hc => absurd hc (by simp), fun _ => ?_⟩
    refine ⟨_, _, _, _, c_Of_sum d M hM (by omega), _, _, _, _, c_rOf oSum d true (endS false) M (by unfold IsOp; decide) (by decide) hM (by omega) (fun K h1 h2 => c_rEndS false d K h1 h2), fun hc => absurd hc (by simp), fun _ => ?_⟩
    refine ⟨fun a1 a2 a3 a4 a5 a6 a7 a8 a9 x3 a b s xh k => ∃ (i : Nat) (K H : List V3), x3 = (i : Int) ∧ i ≤ M.length ∧ k = M.length - i ∧ a1 = oSum ∧ d = a2 ∧ a3 = vc K ∧ (∀ v ∈ K, OKv v) ∧ K.length ≤ i ∧ RelH d K H ∧ xh = vc H ∧ a = sumN K / 18446744073709551616 ∧ b = sumN K % 18446744073709551616 ∧ s = !K.isEmpty, ⟨M.length, 0, [], [], rfl, by omega, rfl, rfl, rfl, rfl, (fun v h => by simp at h), by simp, relH_nil d, rfl, rfl, rfl, rfl⟩, ?_⟩
    rintro k _ _ _ _ _ _ _ _ _ _ _ _ _ _ ⟨i, K, H, rfl, hi, rfl, rfl, rfl, rfl, hK, hKl, hR, rfl, rfl, rfl, rfl⟩
    have hb := sum_bb K hK (by omega)
    refine ⟨fun hlt => ?_, fun _ => ⟨true, c_live, rfl⟩⟩
    have hil : i < M.length := by
      rcases hlt with h | h
      · rw [vc_len] at h; omega
      · cases h
    obtain ⟨e0, e1, e2⟩ := cells_v M i hil
    have hv := okv_at hM i
    have hwu := wrap_up i (by omega)
    have hix : 0 ≤ (i : Int) ∧ (i : Int) < ((vc M).length : Int) := ⟨by omega, by rw [vc_len]; omega⟩
    have hkk := vc_k M (i : Int) (by omega) (by omega)
    simp only [e0, e1, e2]
    clear e0 e1 e2 hlt
    generalize M.getD i nul = v at *
    refine ⟨hix, vc_sz M, hkk, checkV v, c_vCheck v, fun h1 => ?_, fun h1 => ⟨fun h2 => ?_, fun h2 => ?_⟩⟩
    · have hup := addL_bad (num := true) (d := d) (K := K) h1
      have hadd : FnC Try.prog 13 [aD oSum d K, vD v] (.tup [aD oSum d K, iD (checkV v)]) := by
        have := c_rAdd oSum d true K v (by decide) hK hv.1 (by omega)
        rwa [hup] at this
      refine ⟨hix, vc_sz M, hkk, oSum, d, vc K, (checkV v), hadd, ?_⟩
      have hE := c_rEndS false d K (hK) (by have := hKl; simp; omega)
      have hb' := sum_bb K (hK) (by have := hKl; simp; omega)
      refine ⟨fun hs => ?_, fun hs => ?_⟩
      · have hK0 : K = [] := by simpa using hs
        have hE' : endS false K = (nul, 0) := by
          unfold endS
          rw [if_pos hK0]
          rfl
        rw [hE'] at hE
        exact ⟨0, 0, bs [], 0, hE, fun hc => absurd hc cmp_ok, fun _ => ⟨M.length - (i + 1), by omega, i + 1, K, H, hwu, by omega, rfl, rfl, rfl, rfl, hK, by omega, hR, rfl, rfl, rfl, rfl⟩⟩
      · have hK0 : K ≠ [] := by simpa using hs
        refine ⟨fun hf => ?_, fun hf => ?_⟩
        · have hE' : endS false K = (nul, 9) := by
            unfold endS
            rw [if_neg hK0, if_neg (fun h => hf ((fits_iff _ hb').2 h))]
          rw [hE'] at hE
          exact ⟨0, 0, bs [], 9, hE, fun hc => absurd hc cmp_ok, fun _ => ⟨M.length - (i + 1), by omega, i + 1, K, H, hwu, by omega, rfl, rfl, rfl, rfl, hK, by omega, hR, rfl, rfl, rfl, rfl⟩⟩
        · have hfit := (fits_iff _ hb').1 (Classical.not_not.1 hf)
          have hE' : endS false K = ((1, sumN K, []), 0) := by
            unfold endS
            rw [if_neg hK0, if_pos hfit]
          rw [hE'] at hE
          rw [sum_low _ hfit]
          exact ⟨1, _, bs [], c_vNum _, 1, sumN K, bs [], 0, hE, fun hc => absurd hc cmp_ok, fun _ => ⟨M.length - (i + 1), by omega, i + 1, K, H, hwu, by omega, rfl, rfl, rfl, rfl, hK, by omega, hR, rfl, rfl, rfl, rfl⟩⟩
    · have hup := addL_nul (num := true) (d := d) (K := K) h1 h2
      have hadd : FnC Try.prog 13 [aD oSum d K, vD v] (.tup [aD oSum d K, iD 0]) := by
        have := c_rAdd oSum d true K v (by decide) hK hv.1 (by omega)
        rwa [hup] at this
      refine ⟨hix, vc_sz M, hkk, oSum, d, vc K, 0, hadd, ?_⟩
      have hE := c_rEndS false d K (hK) (by have := hKl; simp; omega)
      have hb' := sum_bb K (hK) (by have := hKl; simp; omega)
      refine ⟨fun hs => ?_, fun hs => ?_⟩
      · have hK0 : K = [] := by simpa using hs
        have hE' : endS false K = (nul, 0) := by
          unfold endS
          rw [if_pos hK0]
          rfl
        rw [hE'] at hE
        exact ⟨0, 0, bs [], 0, hE, fun hc => absurd hc cmp_ok, fun _ => ⟨M.length - (i + 1), by omega, i + 1, K, H, hwu, by omega, rfl, rfl, rfl, rfl, hK, by omega, hR, rfl, rfl, rfl, rfl⟩⟩
      · have hK0 : K ≠ [] := by simpa using hs
        refine ⟨fun hf => ?_, fun hf => ?_⟩
        · have hE' : endS false K = (nul, 9) := by
            unfold endS
            rw [if_neg hK0, if_neg (fun h => hf ((fits_iff _ hb').2 h))]
          rw [hE'] at hE
          exact ⟨0, 0, bs [], 9, hE, fun hc => absurd hc cmp_ok, fun _ => ⟨M.length - (i + 1), by omega, i + 1, K, H, hwu, by omega, rfl, rfl, rfl, rfl, hK, by omega, hR, rfl, rfl, rfl, rfl⟩⟩
        · have hfit := (fits_iff _ hb').1 (Classical.not_not.1 hf)
          have hE' : endS false K = ((1, sumN K, []), 0) := by
            unfold endS
            rw [if_neg hK0, if_pos hfit]
          rw [hE'] at hE
          rw [sum_low _ hfit]
          exact ⟨1, _, bs [], c_vNum _, 1, sumN K, bs [], 0, hE, fun hc => absurd hc cmp_ok, fun _ => ⟨M.length - (i + 1), by omega, i + 1, K, H, hwu, by omega, rfl, rfl, rfl, rfl, hK, by omega, hR, rfl, rfl, rfl, rfl⟩⟩
    refine ⟨fun h3 => ?_, fun h3 => ?_⟩
    · have hup := addL_num (d := d) (K := K) h1 h2 h3
      have hadd : FnC Try.prog 13 [aD oSum d K, vD v] (.tup [aD oSum d K, iD 11]) := by
        have := c_rAdd oSum d true K v (by decide) hK hv.1 (by omega)
        rwa [hup] at this
      refine ⟨hix, vc_sz M, hkk, oSum, d, vc K, 11, hadd, ?_⟩
      have hE := c_rEndS false d K (hK) (by have := hKl; simp; omega)
      have hb' := sum_bb K (hK) (by have := hKl; simp; omega)
      refine ⟨fun hs => ?_, fun hs => ?_⟩
      · have hK0 : K = [] := by simpa using hs
        have hE' : endS false K = (nul, 0) := by
          unfold endS
          rw [if_pos hK0]
          rfl
        rw [hE'] at hE
        exact ⟨0, 0, bs [], 0, hE, fun hc => absurd hc cmp_ok, fun _ => ⟨M.length - (i + 1), by omega, i + 1, K, H, hwu, by omega, rfl, rfl, rfl, rfl, hK, by omega, hR, rfl, rfl, rfl, rfl⟩⟩
      · have hK0 : K ≠ [] := by simpa using hs
        refine ⟨fun hf => ?_, fun hf => ?_⟩
        · have hE' : endS false K = (nul, 9) := by
            unfold endS
            rw [if_neg hK0, if_neg (fun h => hf ((fits_iff _ hb').2 h))]
          rw [hE'] at hE
          exact ⟨0, 0, bs [], 9, hE, fun hc => absurd hc cmp_ok, fun _ => ⟨M.length - (i + 1), by omega, i + 1, K, H, hwu, by omega, rfl, rfl, rfl, rfl, hK, by omega, hR, rfl, rfl, rfl, rfl⟩⟩
        · have hfit := (fits_iff _ hb').1 (Classical.not_not.1 hf)
          have hE' : endS false K = ((1, sumN K, []), 0) := by
            unfold endS
            rw [if_neg hK0, if_pos hfit]
          rw [hE'] at hE
          rw [sum_low _ hfit]
          exact ⟨1, _, bs [], c_vNum _, 1, sumN K, bs [], 0, hE, fun hc => absurd hc cmp_ok, fun _ => ⟨M.length - (i + 1), by omega, i + 1, K, H, hwu, by omega, rfl, rfl, rfl, rfl, hK, by omega, hR, rfl, rfl, rfl, rfl⟩⟩
    have h3' : ¬ (true = true ∧ v.1 ≠ 1) := fun h => h.2 (Classical.not_not.1 h3)
    refine ⟨fun hd => ?_, fun hd => ?_⟩
    · subst hd
      obtain ⟨j, hj, p2, p3, hp⟩ := c_place H v hR.2.2 hv.1 (by have := hR.2.1; omega) (hR.1 rfl).1
      refine ⟨(j : Int), _, hp, fun hf => ?_, fun hf => ?_⟩
      · have hup := addL_dup (num := true) h1 h2 h3' (by rw [← (hR.1 rfl).2 v]; exact (found_iff (hR.1 rfl).1 p2 p3).1 (of_decide_eq_true hf))
        have hadd : FnC Try.prog 13 [aD oSum true K, vD v] (.tup [aD oSum true K, iD 0]) := by
          have := c_rAdd oSum true true K v (by decide) hK hv.1 (by omega)
          rwa [hup] at this
        refine ⟨hix, vc_sz M, hkk, oSum, true, vc K, 0, hadd, ?_⟩
        have hE := c_rEndS false true K (hK) (by have := hKl; simp; omega)
        have hb' := sum_bb K (hK) (by have := hKl; simp; omega)
        refine ⟨fun hs => ?_, fun hs => ?_⟩
        · have hK0 : K = [] := by simpa using hs
          have hE' : endS false K = (nul, 0) := by
            unfold endS
            rw [if_pos hK0]
            rfl
          rw [hE'] at hE
          exact ⟨0, 0, bs [], 0, hE, fun hc => absurd hc cmp_ok, fun _ => ⟨M.length - (i + 1), by omega, i + 1, K, H, hwu, by omega, rfl, rfl, rfl, rfl, hK, by omega, hR, rfl, rfl, rfl, rfl⟩⟩
        · have hK0 : K ≠ [] := by simpa using hs
          refine ⟨fun hf => ?_, fun hf => ?_⟩
          · have hE' : endS false K = (nul, 9) := by
              unfold endS
              rw [if_neg hK0, if_neg (fun h => hf ((fits_iff _ hb').2 h))]
            rw [hE'] at hE
            exact ⟨0, 0, bs [], 9, hE, fun hc => absurd hc cmp_ok, fun _ => ⟨M.length - (i + 1), by omega, i + 1, K, H, hwu, by omega, rfl, rfl, rfl, rfl, hK, by omega, hR, rfl, rfl, rfl, rfl⟩⟩
          · have hfit := (fits_iff _ hb').1 (Classical.not_not.1 hf)
            have hE' : endS false K = ((1, sumN K, []), 0) := by
              unfold endS
              rw [if_neg hK0, if_pos hfit]
            rw [hE'] at hE
            rw [sum_low _ hfit]
            exact ⟨1, _, bs [], c_vNum _, 1, sumN K, bs [], 0, hE, fun hc => absurd hc cmp_ok, fun _ => ⟨M.length - (i + 1), by omega, i + 1, K, H, hwu, by omega, rfl, rfl, rfl, rfl, hK, by omega, hR, rfl, rfl, rfl, rfl⟩⟩
      · have hne : ¬ (j < H.length ∧ cmpV (H.getD j nul) v 0 = 0) := fun h => hf (decide_eq_true h)
        have hup := addL_putT (num := true) h1 h2 h3' (by rw [← (hR.1 rfl).2 v]; exact fun h => hne ((found_iff (hR.1 rfl).1 p2 p3).2 h))
        rintro _ rfl
        refine ⟨_, m_ins H v j hj (by have := hR.2.1; omega), ?_⟩
        have hR' := relH_ins hR hv hj p2 p3 hne
        generalize H.take j ++ [v] ++ H.drop j = H' at *
        obtain ⟨w1, w2⟩ := add_words (sumN K) v.2.1 hv.2 hb
        refine ⟨_, _, c_Add64 _ _ 0 (Int.emod_nonneg _ (by decide)) (by rw [wrU]; exact Int.emod_nonneg _ (by decide)) (by omega) (by omega), ?_⟩
        rw [w1, w2, ← sumN_snoc]
        have hadd : FnC Try.prog 13 [aD oSum true K, vD v] (.tup [aD oSum true (K ++ [v]), iD 0]) := by
          have := c_rAdd oSum true true K v (by decide) hK hv.1 (by omega)
          rwa [hup] at this
        refine ⟨hix, vc_sz M, hkk, oSum, true, vc (K ++ [v]), 0, hadd, ?_⟩
        have hE := c_rEndS false true (K ++ [v]) (ok_snoc hK hv) (by have := hKl; simp; omega)
        have hb' := sum_bb (K ++ [v]) (ok_snoc hK hv) (by have := hKl; simp; omega)
        have hK0 : (K ++ [v]) ≠ [] := by simp
        refine ⟨fun hf => ?_, fun hf => ?_⟩
        · have hE' : endS false (K ++ [v]) = (nul, 9) := by
            unfold endS
            rw [if_neg hK0, if_neg (fun h => hf ((fits_iff _ hb').2 h))]
          rw [hE'] at hE
          exact ⟨0, 0, bs [], 9, hE, fun hc => absurd hc cmp_ok, fun _ => ⟨M.length - (i + 1), by omega, i + 1, (K ++ [v]), H', hwu, by omega, rfl, rfl, rfl, rfl, ok_snoc hK hv, by simp; omega, hR', rfl, rfl, rfl, by simp⟩⟩
        · have hfit := (fits_iff _ hb').1 (Classical.not_not.1 hf)
          have hE' : endS false (K ++ [v]) = ((1, sumN (K ++ [v]), []), 0) := by
            unfold endS
            rw [if_neg hK0, if_pos hfit]
          rw [hE'] at hE
          rw [sum_low _ hfit]
          exact ⟨1, _, bs [], c_vNum _, 1, sumN (K ++ [v]), bs [], 0, hE, fun hc => absurd hc cmp_ok, fun _ => ⟨M.length - (i + 1), by omega, i + 1, (K ++ [v]), H', hwu, by omega, rfl, rfl, rfl, rfl, ok_snoc hK hv, by simp; omega, hR', rfl, rfl, rfl, by simp⟩⟩
    · have hd : d = false := by simpa using hd
      subst hd
      have hup := addL_putF (num := true) (K := K) (v := v) h1 h2 h3'
      have hR' := relH_put (v := v) hR
      obtain ⟨w1, w2⟩ := add_words (sumN K) v.2.1 hv.2 hb
      refine ⟨_, _, c_Add64 _ _ 0 (Int.emod_nonneg _ (by decide)) (by rw [wrU]; exact Int.emod_nonneg _ (by decide)) (by omega) (by omega), ?_⟩
      rw [w1, w2, ← sumN_snoc]
      have hadd : FnC Try.prog 13 [aD oSum false K, vD v] (.tup [aD oSum false (K ++ [v]), iD 0]) := by
        have := c_rAdd oSum false true K v (by decide) hK hv.1 (by omega)
        rwa [hup] at this
      refine ⟨hix, vc_sz M, hkk, oSum, false, vc (K ++ [v]), 0, hadd, ?_⟩
      have hE := c_rEndS false false (K ++ [v]) (ok_snoc hK hv) (by have := hKl; simp; omega)
      have hb' := sum_bb (K ++ [v]) (ok_snoc hK hv) (by have := hKl; simp; omega)
      have hK0 : (K ++ [v]) ≠ [] := by simp
      refine ⟨fun hf => ?_, fun hf => ?_⟩
      · have hE' : endS false (K ++ [v]) = (nul, 9) := by
          unfold endS
          rw [if_neg hK0, if_neg (fun h => hf ((fits_iff _ hb').2 h))]
        rw [hE'] at hE
        exact ⟨0, 0, bs [], 9, hE, fun hc => absurd hc cmp_ok, fun _ => ⟨M.length - (i + 1), by omega, i + 1, (K ++ [v]), H, hwu, by omega, rfl, rfl, rfl, rfl, ok_snoc hK hv, by simp; omega, hR', rfl, rfl, rfl, by simp⟩⟩
      · have hfit := (fits_iff _ hb').1 (Classical.not_not.1 hf)
        have hE' : endS false (K ++ [v]) = ((1, sumN (K ++ [v]), []), 0) := by
          unfold endS
          rw [if_neg hK0, if_pos hfit]
        rw [hE'] at hE
        rw [sum_low _ hfit]
        exact ⟨1, _, bs [], c_vNum _, 1, sumN (K ++ [v]), bs [], 0, hE, fun hc => absurd hc cmp_ok, fun _ => ⟨M.length - (i + 1), by omega, i + 1, (K ++ [v]), H, hwu, by omega, rfl, rfl, rfl, rfl, ok_snoc hK hv, by simp; omega, hR', rfl, rfl, rfl, by simp⟩⟩
end Go.Proofs.Yteljlbgjpnfdjaa
namespace Go.Proofs.Yteljlbgjpnfdjaa
open Go.RowKit Go.IntWalk
set_option linter.unusedSimpArgs false
set_option linter.unusedVariables false

set_option maxHeartbeats 4000000 in
theorem play_total (d : Bool) (l : List V3) (hl : ∀ v ∈ l, OKv v) : FnC Try.prog 3 [ND oTotal, bD d, .c (.vs (vc l))] (bD true) := by
  refine w3_total d (vc l) ⟨fun h => ⟨⟨by omega, by omega, by omega⟩, vc_sz l, ?_⟩, fun h => ?_⟩
  · rw [show ((100 : Int).toNat) = 100 from rfl, vc_take]
    have hM : ∀ v ∈ l.take 100, OKv v := fun v hv => hl v (List.mem_of_mem_take hv)
    have hn : (l.take 100).length ≤ 100 := by rw [List.length_take]; omega
    generalize l.take 100 = M at *
    clear h hl
    refine ⟨_, _, _, _, c_rNew oTotal d (by unfold IsOp; decide), knownB oTotal M.length, fun _ => by rw [vc_len]; exact c_Known oTotal _ (by unfold IsOp; decide), knownB oTotal M.length, fun _ => by rw [vc_len]; exact c_rKnown oTotal _ (by unfold IsOp; decide), knownB oTotal 1, fun _ => c_Known oTotal 1 (by unfold IsOp; decide), knownB oTotal 1, fun _ => c_rKnown oTotal 1 (by unfold IsOp; decide), fun hc => absurd hc (by simp), fun _ => ?_⟩
    refine ⟨_, _, _, _, c_Of_total d M hM (by omega), _, _, _, _, c_rOf oTotal d true (endS true) M (by unfold IsOp; decide) (by decide) hM (by omega) (fun K h1 h2 => c_rEndS true d K h1 h2), fun hc => absurd hc (by simp), fun _ => ?_⟩
    refine ⟨fun a1 a2 a3 a4 a5 a6 a7 a8 a9 x3 a b s xh k => ∃ (i : Nat) (K H : List V3), x3 = (i : Int) ∧ i ≤ M.length ∧ k = M.length - i ∧ a1 = oTotal ∧ d = a2 ∧ a3 = vc K ∧ (∀ v ∈ K, OKv v) ∧ K.length ≤ i ∧ RelH d K H ∧ xh = vc H ∧ a = sumN K / 18446744073709551616 ∧ b = sumN K % 18446744073709551616 ∧ s = !K.isEmpty, ⟨M.length, 0, [], [], rfl, by omega, rfl, rfl, rfl, rfl, (fun v h => by simp at h), by simp, relH_nil d, rfl, rfl, rfl, rfl⟩, ?_⟩
    rintro k _ _ _ _ _ _ _ _ _ _ _ _ _ _ ⟨i, K, H, rfl, hi, rfl, rfl, rfl, rfl, hK, hKl, hR, rfl, rfl, rfl, rfl⟩
    have hb := sum_bb K hK (by omega)
    refine ⟨fun hlt => ?_, fun _ => ⟨true, c_live, rfl⟩⟩
    have hil : i < M.length := by
      rcases hlt with h | h
      · rw [vc_len] at h; omega
      · cases h
    obtain ⟨e0, e1, e2⟩ := cells_v M i hil
    have hv := okv_at hM i
    have hwu := wrap_up i (by omega)
    have hix : 0 ≤ (i : Int) ∧ (i : Int) < ((vc M).length : Int) := ⟨by omega, by rw [vc_len]; omega⟩
    have hkk := vc_k M (i : Int) (by omega) (by omega)
    simp only [e0, e1, e2]
    clear e0 e1 e2 hlt
    generalize M.getD i nul = v at *
    refine ⟨hix, vc_sz M, hkk, checkV v, c_vCheck v, fun h1 => ?_, fun h1 => ⟨fun h2 => ?_, fun h2 => ?_⟩⟩
    · have hup := addL_bad (num := true) (d := d) (K := K) h1
      have hadd : FnC Try.prog 13 [aD oTotal d K, vD v] (.tup [aD oTotal d K, iD (checkV v)]) := by
        have := c_rAdd oTotal d true K v (by decide) hK hv.1 (by omega)
        rwa [hup] at this
      refine ⟨hix, vc_sz M, hkk, oTotal, d, vc K, (checkV v), hadd, ?_⟩
      have hE := c_rEndS true d K (hK) (by have := hKl; simp; omega)
      have hb' := sum_bb K (hK) (by have := hKl; simp; omega)
      refine ⟨fun hs => absurd hs.2 (by simp), fun _ => ?_⟩
      by_cases hK0 : K = []
      · have hs0 : sumN K = 0 := by rw [hK0]; rfl
        have hE' : endS true K = ((1, sumN K, []), 0) := by
          unfold endS
          rw [if_pos hK0, hs0]
          rfl
        rw [hE'] at hE
        refine ⟨fun hf => absurd ((fits_iff _ hb').2 (by rw [hs0]; omega)) hf, fun _ => ?_⟩
        rw [sum_low _ (by rw [hs0]; omega)]
        exact ⟨1, _, bs [], c_vNum _, 1, sumN K, bs [], 0, hE, fun hc => absurd hc cmp_ok, fun _ => ⟨M.length - (i + 1), by omega, i + 1, K, H, hwu, by omega, rfl, rfl, rfl, rfl, hK, by omega, hR, rfl, rfl, rfl, rfl⟩⟩
      · refine ⟨fun hf => ?_, fun hf => ?_⟩
        · have hE' : endS true K = (nul, 9) := by
            unfold endS
            rw [if_neg hK0, if_neg (fun h => hf ((fits_iff _ hb').2 h))]
          rw [hE'] at hE
          exact ⟨0, 0, bs [], 9, hE, fun hc => absurd hc cmp_ok, fun _ => ⟨M.length - (i + 1), by omega, i + 1, K, H, hwu, by omega, rfl, rfl, rfl, rfl, hK, by omega, hR, rfl, rfl, rfl, rfl⟩⟩
        · have hfit := (fits_iff _ hb').1 (Classical.not_not.1 hf)
          have hE' : endS true K = ((1, sumN K, []), 0) := by
            unfold endS
            rw [if_neg hK0, if_pos hfit]
          rw [hE'] at hE
          rw [sum_low _ hfit]
          exact ⟨1, _, bs [], c_vNum _, 1, sumN K, bs [], 0, hE, fun hc => absurd hc cmp_ok, fun _ => ⟨M.length - (i + 1), by omega, i + 1, K, H, hwu, by omega, rfl, rfl, rfl, rfl, hK, by omega, hR, rfl, rfl, rfl, rfl⟩⟩
    · have hup := addL_nul (num := true) (d := d) (K := K) h1 h2
      have hadd : FnC Try.prog 13 [aD oTotal d K, vD v] (.tup [aD oTotal d K, iD 0]) := by
        have := c_rAdd oTotal d true K v (by decide) hK hv.1 (by omega)
        rwa [hup] at this
      refine ⟨hix, vc_sz M, hkk, oTotal, d, vc K, 0, hadd, ?_⟩
      have hE := c_rEndS true d K (hK) (by have := hKl; simp; omega)
      have hb' := sum_bb K (hK) (by have := hKl; simp; omega)
      refine ⟨fun hs => absurd hs.2 (by simp), fun _ => ?_⟩
      by_cases hK0 : K = []
      · have hs0 : sumN K = 0 := by rw [hK0]; rfl
        have hE' : endS true K = ((1, sumN K, []), 0) := by
          unfold endS
          rw [if_pos hK0, hs0]
          rfl
        rw [hE'] at hE
        refine ⟨fun hf => absurd ((fits_iff _ hb').2 (by rw [hs0]; omega)) hf, fun _ => ?_⟩
        rw [sum_low _ (by rw [hs0]; omega)]
        exact ⟨1, _, bs [], c_vNum _, 1, sumN K, bs [], 0, hE, fun hc => absurd hc cmp_ok, fun _ => ⟨M.length - (i + 1), by omega, i + 1, K, H, hwu, by omega, rfl, rfl, rfl, rfl, hK, by omega, hR, rfl, rfl, rfl, rfl⟩⟩
      · refine ⟨fun hf => ?_, fun hf => ?_⟩
        · have hE' : endS true K = (nul, 9) := by
            unfold endS
            rw [if_neg hK0, if_neg (fun h => hf ((fits_iff _ hb').2 h))]
          rw [hE'] at hE
          exact ⟨0, 0, bs [], 9, hE, fun hc => absurd hc cmp_ok, fun _ => ⟨M.length - (i + 1), by omega, i + 1, K, H, hwu, by omega, rfl, rfl, rfl, rfl, hK, by omega, hR, rfl, rfl, rfl, rfl⟩⟩
        · have hfit := (fits_iff _ hb').1 (Classical.not_not.1 hf)
          have hE' : endS true K = ((1, sumN K, []), 0) := by
            unfold endS
            rw [if_neg hK0, if_pos hfit]
          rw [hE'] at hE
          rw [sum_low _ hfit]
          exact ⟨1, _, bs [], c_vNum _, 1, sumN K, bs [], 0, hE, fun hc => absurd hc cmp_ok, fun _ => ⟨M.length - (i + 1), by omega, i + 1, K, H, hwu, by omega, rfl, rfl, rfl, rfl, hK, by omega, hR, rfl, rfl, rfl, rfl⟩⟩
    refine ⟨fun h3 => ?_, fun h3 => ?_⟩
    · have hup := addL_num (d := d) (K := K) h1 h2 h3
      have hadd : FnC Try.prog 13 [aD oTotal d K, vD v] (.tup [aD oTotal d K, iD 11]) := by
        have := c_rAdd oTotal d true K v (by decide) hK hv.1 (by omega)
        rwa [hup] at this
      refine ⟨hix, vc_sz M, hkk, oTotal, d, vc K, 11, hadd, ?_⟩
      have hE := c_rEndS true d K (hK) (by have := hKl; simp; omega)
      have hb' := sum_bb K (hK) (by have := hKl; simp; omega)
      refine ⟨fun hs => absurd hs.2 (by simp), fun _ => ?_⟩
      by_cases hK0 : K = []
      · have hs0 : sumN K = 0 := by rw [hK0]; rfl
        have hE' : endS true K = ((1, sumN K, []), 0) := by
          unfold endS
          rw [if_pos hK0, hs0]
          rfl
        rw [hE'] at hE
        refine ⟨fun hf => absurd ((fits_iff _ hb').2 (by rw [hs0]; omega)) hf, fun _ => ?_⟩
        rw [sum_low _ (by rw [hs0]; omega)]
        exact ⟨1, _, bs [], c_vNum _, 1, sumN K, bs [], 0, hE, fun hc => absurd hc cmp_ok, fun _ => ⟨M.length - (i + 1), by omega, i + 1, K, H, hwu, by omega, rfl, rfl, rfl, rfl, hK, by omega, hR, rfl, rfl, rfl, rfl⟩⟩
      · refine ⟨fun hf => ?_, fun hf => ?_⟩
        · have hE' : endS true K = (nul, 9) := by
            unfold endS
            rw [if_neg hK0, if_neg (fun h => hf ((fits_iff _ hb').2 h))]
          rw [hE'] at hE
          exact ⟨0, 0, bs [], 9, hE, fun hc => absurd hc cmp_ok, fun _ => ⟨M.length - (i + 1), by omega, i + 1, K, H, hwu, by omega, rfl, rfl, rfl, rfl, hK, by omega, hR, rfl, rfl, rfl, rfl⟩⟩
        · have hfit := (fits_iff _ hb').1 (Classical.not_not.1 hf)
          have hE' : endS true K = ((1, sumN K, []), 0) := by
            unfold endS
            rw [if_neg hK0, if_pos hfit]
          rw [hE'] at hE
          rw [sum_low _ hfit]
          exact ⟨1, _, bs [], c_vNum _, 1, sumN K, bs [], 0, hE, fun hc => absurd hc cmp_ok, fun _ => ⟨M.length - (i + 1), by omega, i + 1, K, H, hwu, by omega, rfl, rfl, rfl, rfl, hK, by omega, hR, rfl, rfl, rfl, rfl⟩⟩
    have h3' : ¬ (true = true ∧ v.1 ≠ 1) := fun h => h.2 (Classical.not_not.1 h3)
    refine ⟨fun hd => ?_, fun hd => ?_⟩
    · subst hd
      obtain ⟨j, hj, p2, p3, hp⟩ := c_place H v hR.2.2 hv.1 (by have := hR.2.1; omega) (hR.1 rfl).1
      refine ⟨(j : Int), _, hp, fun hf => ?_, fun hf => ?_⟩
      · have hup := addL_dup (num := true) h1 h2 h3' (by rw [← (hR.1 rfl).2 v]; exact (found_iff (hR.1 rfl).1 p2 p3).1 (of_decide_eq_true hf))
        have hadd : FnC Try.prog 13 [aD oTotal true K, vD v] (.tup [aD oTotal true K, iD 0]) := by
          have := c_rAdd oTotal true true K v (by decide) hK hv.1 (by omega)
          rwa [hup] at this
        refine ⟨hix, vc_sz M, hkk, oTotal, true, vc K, 0, hadd, ?_⟩
        have hE := c_rEndS true true K (hK) (by have := hKl; simp; omega)
        have hb' := sum_bb K (hK) (by have := hKl; simp; omega)
        refine ⟨fun hs => absurd hs.2 (by simp), fun _ => ?_⟩
        by_cases hK0 : K = []
        · have hs0 : sumN K = 0 := by rw [hK0]; rfl
          have hE' : endS true K = ((1, sumN K, []), 0) := by
            unfold endS
            rw [if_pos hK0, hs0]
            rfl
          rw [hE'] at hE
          refine ⟨fun hf => absurd ((fits_iff _ hb').2 (by rw [hs0]; omega)) hf, fun _ => ?_⟩
          rw [sum_low _ (by rw [hs0]; omega)]
          exact ⟨1, _, bs [], c_vNum _, 1, sumN K, bs [], 0, hE, fun hc => absurd hc cmp_ok, fun _ => ⟨M.length - (i + 1), by omega, i + 1, K, H, hwu, by omega, rfl, rfl, rfl, rfl, hK, by omega, hR, rfl, rfl, rfl, rfl⟩⟩
        · refine ⟨fun hf => ?_, fun hf => ?_⟩
          · have hE' : endS true K = (nul, 9) := by
              unfold endS
              rw [if_neg hK0, if_neg (fun h => hf ((fits_iff _ hb').2 h))]
            rw [hE'] at hE
            exact ⟨0, 0, bs [], 9, hE, fun hc => absurd hc cmp_ok, fun _ => ⟨M.length - (i + 1), by omega, i + 1, K, H, hwu, by omega, rfl, rfl, rfl, rfl, hK, by omega, hR, rfl, rfl, rfl, rfl⟩⟩
          · have hfit := (fits_iff _ hb').1 (Classical.not_not.1 hf)
            have hE' : endS true K = ((1, sumN K, []), 0) := by
              unfold endS
              rw [if_neg hK0, if_pos hfit]
            rw [hE'] at hE
            rw [sum_low _ hfit]
            exact ⟨1, _, bs [], c_vNum _, 1, sumN K, bs [], 0, hE, fun hc => absurd hc cmp_ok, fun _ => ⟨M.length - (i + 1), by omega, i + 1, K, H, hwu, by omega, rfl, rfl, rfl, rfl, hK, by omega, hR, rfl, rfl, rfl, rfl⟩⟩
      · have hne : ¬ (j < H.length ∧ cmpV (H.getD j nul) v 0 = 0) := fun h => hf (decide_eq_true h)
        have hup := addL_putT (num := true) h1 h2 h3' (by rw [← (hR.1 rfl).2 v]; exact fun h => hne ((found_iff (hR.1 rfl).1 p2 p3).2 h))
        rintro _ rfl
        refine ⟨_, m_ins H v j hj (by have := hR.2.1; omega), ?_⟩
        have hR' := relH_ins hR hv hj p2 p3 hne
        generalize H.take j ++ [v] ++ H.drop j = H' at *
        obtain ⟨w1, w2⟩ := add_words (sumN K) v.2.1 hv.2 hb
        refine ⟨_, _, c_Add64 _ _ 0 (Int.emod_nonneg _ (by decide)) (by rw [wrU]; exact Int.emod_nonneg _ (by decide)) (by omega) (by omega), ?_⟩
        rw [w1, w2, ← sumN_snoc]
        have hadd : FnC Try.prog 13 [aD oTotal true K, vD v] (.tup [aD oTotal true (K ++ [v]), iD 0]) := by
          have := c_rAdd oTotal true true K v (by decide) hK hv.1 (by omega)
          rwa [hup] at this
        refine ⟨hix, vc_sz M, hkk, oTotal, true, vc (K ++ [v]), 0, hadd, ?_⟩
        have hE := c_rEndS true true (K ++ [v]) (ok_snoc hK hv) (by have := hKl; simp; omega)
        have hb' := sum_bb (K ++ [v]) (ok_snoc hK hv) (by have := hKl; simp; omega)
        have hK0 : (K ++ [v]) ≠ [] := by simp
        refine ⟨fun hf => ?_, fun hf => ?_⟩
        · have hE' : endS true (K ++ [v]) = (nul, 9) := by
            unfold endS
            rw [if_neg hK0, if_neg (fun h => hf ((fits_iff _ hb').2 h))]
          rw [hE'] at hE
          exact ⟨0, 0, bs [], 9, hE, fun hc => absurd hc cmp_ok, fun _ => ⟨M.length - (i + 1), by omega, i + 1, (K ++ [v]), H', hwu, by omega, rfl, rfl, rfl, rfl, ok_snoc hK hv, by simp; omega, hR', rfl, rfl, rfl, by simp⟩⟩
        · have hfit := (fits_iff _ hb').1 (Classical.not_not.1 hf)
          have hE' : endS true (K ++ [v]) = ((1, sumN (K ++ [v]), []), 0) := by
            unfold endS
            rw [if_neg hK0, if_pos hfit]
          rw [hE'] at hE
          rw [sum_low _ hfit]
          exact ⟨1, _, bs [], c_vNum _, 1, sumN (K ++ [v]), bs [], 0, hE, fun hc => absurd hc cmp_ok, fun _ => ⟨M.length - (i + 1), by omega, i + 1, (K ++ [v]), H', hwu, by omega, rfl, rfl, rfl, rfl, ok_snoc hK hv, by simp; omega, hR', rfl, rfl, rfl, by simp⟩⟩
    · have hd : d = false := by simpa using hd
      subst hd
      have hup := addL_putF (num := true) (K := K) (v := v) h1 h2 h3'
      have hR' := relH_put (v := v) hR
      obtain ⟨w1, w2⟩ := add_words (sumN K) v.2.1 hv.2 hb
      refine ⟨_, _, c_Add64 _ _ 0 (Int.emod_nonneg _ (by decide)) (by rw [wrU]; exact Int.emod_nonneg _ (by decide)) (by omega) (by omega), ?_⟩
      rw [w1, w2, ← sumN_snoc]
      have hadd : FnC Try.prog 13 [aD oTotal false K, vD v] (.tup [aD oTotal false (K ++ [v]), iD 0]) := by
        have := c_rAdd oTotal false true K v (by decide) hK hv.1 (by omega)
        rwa [hup] at this
      refine ⟨hix, vc_sz M, hkk, oTotal, false, vc (K ++ [v]), 0, hadd, ?_⟩
      have hE := c_rEndS true false (K ++ [v]) (ok_snoc hK hv) (by have := hKl; simp; omega)
      have hb' := sum_bb (K ++ [v]) (ok_snoc hK hv) (by have := hKl; simp; omega)
      have hK0 : (K ++ [v]) ≠ [] := by simp
      refine ⟨fun hf => ?_, fun hf => ?_⟩
      · have hE' : endS true (K ++ [v]) = (nul, 9) := by
          unfold endS
          rw [if_neg hK0, if_neg (fun h => hf ((fits_iff _ hb').2 h))]
        rw [hE'] at hE
        exact ⟨0, 0, bs [], 9, hE, fun hc => absurd hc cmp_ok, fun _ => ⟨M.length - (i + 1), by omega, i + 1, (K ++ [v]), H, hwu, by omega, rfl, rfl, rfl, rfl, ok_snoc hK hv, by simp; omega, hR', rfl, rfl, rfl, by simp⟩⟩
      · have hfit := (fits_iff _ hb').1 (Classical.not_not.1 hf)
        have hE' : endS true (K ++ [v]) = ((1, sumN (K ++ [v]), []), 0) := by
          unfold endS
          rw [if_neg hK0, if_pos hfit]
        rw [hE'] at hE
        rw [sum_low _ hfit]
        exact ⟨1, _, bs [], c_vNum _, 1, sumN (K ++ [v]), bs [], 0, hE, fun hc => absurd hc cmp_ok, fun _ => ⟨M.length - (i + 1), by omega, i + 1, (K ++ [v]), H, hwu, by omega, rfl, rfl, rfl, rfl, ok_snoc hK hv, by simp; omega, hR', rfl, rfl, rfl, by simp⟩⟩
  · have hn : l.length ≤ 100 := by rw [vc_len] at h; omega
    have hM := hl
    generalize l = M at *
    clear h hl
    refine ⟨_, _, _, _, c_rNew oTotal d (by unfold IsOp; decide), knownB oTotal M.length, fun _ => by rw [vc_len]; exact c_Known oTotal _ (by unfold IsOp; decide), knownB oTotal M.length, fun _ => by rw [vc_len]; exact c_rKnown oTotal _ (by unfold IsOp; decide), knownB oTotal 1, fun _ => c_Known oTotal 1 (by unfold IsOp; decide), knownB oTotal 1, fun _ => c_rKnown oTotal 1 (by unfold IsOp; decide), fun hc => absurd hc (by simp), fun _ => ?_⟩
    refine ⟨_, _, _, _, c_Of_total d M hM (by omega), _, _, _, _, c_rOf oTotal d true (endS true) M (by unfold IsOp; decide) (by decide) hM (by omega) (fun K h1 h2 => c_rEndS true d K h1 h2), fun hc => absurd hc (by simp), fun _ => ?_⟩
    refine ⟨fun a1 a2 a3 a4 a5 a6 a7 a8 a9 x3 a b s xh k => ∃ (i : Nat) (K H : List V3), x3 = (i : Int) ∧ i ≤ M.length ∧ k = M.length - i ∧ a1 = oTotal ∧ d = a2 ∧ a3 = vc K ∧ (∀ v ∈ K, OKv v) ∧ K.length ≤ i ∧ RelH d K H ∧ xh = vc H ∧ a = sumN K / 18446744073709551616 ∧ b = sumN K % 18446744073709551616 ∧ s = !K.isEmpty, ⟨M.length, 0, [], [], rfl, by omega, rfl, rfl, rfl, rfl, (fun v h => by simp at h), by simp, relH_nil d, rfl, rfl, rfl, rfl⟩, ?_⟩
    rintro k _ _ _ _ _ _ _ _ _ _ _ _ _ _ ⟨i, K, H, rfl, hi, rfl, rfl, rfl, rfl, hK, hKl, hR, rfl, rfl, rfl, rfl⟩
    have hb := sum_bb K hK (by omega)
    refine ⟨fun hlt => ?_, fun _ => ⟨true, c_live, rfl⟩⟩
    have hil : i < M.length := by
      rcases hlt with h | h
      · rw [vc_len] at h; omega
      · cases h
    obtain ⟨e0, e1, e2⟩ := cells_v M i hil
    have hv := okv_at hM i
    have hwu := wrap_up i (by omega)
    have hix : 0 ≤ (i : Int) ∧ (i : Int) < ((vc M).length : Int) := ⟨by omega, by rw [vc_len]; omega⟩
    have hkk := vc_k M (i : Int) (by omega) (by omega)
    simp only [e0, e1, e2]
    clear e0 e1 e2 hlt
    generalize M.getD i nul = v at *
    refine ⟨hix, vc_sz M, hkk, checkV v, c_vCheck v, fun h1 => ?_, fun h1 => ⟨fun h2 => ?_, fun h2 => ?_⟩⟩
    · have hup := addL_bad (num := true) (d := d) (K := K) h1
      have hadd : FnC Try.prog 13 [aD oTotal d K, vD v] (.tup [aD oTotal d K, iD (checkV v)]) := by
        have := c_rAdd oTotal d true K v (by decide) hK hv.1 (by omega)
        rwa [hup] at this
      refine ⟨hix, vc_sz M, hkk, oTotal, d, vc K, (checkV v), hadd, ?_⟩
      have hE := c_rEndS true d K (hK) (by have := hKl; simp; omega)
      have hb' := sum_bb K (hK) (by have := hKl; simp; omega)
      refine ⟨fun hs => absurd hs.2 (by simp), fun _ => ?_⟩
      by_cases hK0 : K = []
      · have hs0 : sumN K = 0 := by rw [hK0]; rfl
        have hE' : endS true K = ((1, sumN K, []), 0) := by
          unfold endS
          rw [if_pos hK0, hs0]
          rfl
        rw [hE'] at hE
        refine ⟨fun hf => absurd ((fits_iff _ hb').2 (by rw [hs0]; omega)) hf, fun _ => ?_⟩
        rw [sum_low _ (by rw [hs0]; omega)]
        exact ⟨1, _, bs [], c_vNum _, 1, sumN K, bs [], 0, hE, fun hc => absurd hc cmp_ok, fun _ => ⟨M.length - (i + 1), by omega, i + 1, K, H, hwu, by omega, rfl, rfl, rfl, rfl, hK, by omega, hR, rfl, rfl, rfl, rfl⟩⟩
      · refine ⟨fun hf => ?_, fun hf => ?_⟩
        · have hE' : endS true K = (nul, 9) := by
            unfold endS
            rw [if_neg hK0, if_neg (fun h => hf ((fits_iff _ hb').2 h))]
          rw [hE'] at hE
          exact ⟨0, 0, bs [], 9, hE, fun hc => absurd hc cmp_ok, fun _ => ⟨M.length - (i + 1), by omega, i + 1, K, H, hwu, by omega, rfl, rfl, rfl, rfl, hK, by omega, hR, rfl, rfl, rfl, rfl⟩⟩
        · have hfit := (fits_iff _ hb').1 (Classical.not_not.1 hf)
          have hE' : endS true K = ((1, sumN K, []), 0) := by
            unfold endS
            rw [if_neg hK0, if_pos hfit]
          rw [hE'] at hE
          rw [sum_low _ hfit]
          exact ⟨1, _, bs [], c_vNum _, 1, sumN K, bs [], 0, hE, fun hc => absurd hc cmp_ok, fun _ => ⟨M.length - (i + 1), by omega, i + 1, K, H, hwu, by omega, rfl, rfl, rfl, rfl, hK, by omega, hR, rfl, rfl, rfl, rfl⟩⟩
    · have hup := addL_nul (num := true) (d := d) (K := K) h1 h2
      have hadd : FnC Try.prog 13 [aD oTotal d K, vD v] (.tup [aD oTotal d K, iD 0]) := by
        have := c_rAdd oTotal d true K v (by decide) hK hv.1 (by omega)
        rwa [hup] at this
      refine ⟨hix, vc_sz M, hkk, oTotal, d, vc K, 0, hadd, ?_⟩
      have hE := c_rEndS true d K (hK) (by have := hKl; simp; omega)
      have hb' := sum_bb K (hK) (by have := hKl; simp; omega)
      refine ⟨fun hs => absurd hs.2 (by simp), fun _ => ?_⟩
      by_cases hK0 : K = []
      · have hs0 : sumN K = 0 := by rw [hK0]; rfl
        have hE' : endS true K = ((1, sumN K, []), 0) := by
          unfold endS
          rw [if_pos hK0, hs0]
          rfl
        rw [hE'] at hE
        refine ⟨fun hf => absurd ((fits_iff _ hb').2 (by rw [hs0]; omega)) hf, fun _ => ?_⟩
        rw [sum_low _ (by rw [hs0]; omega)]
        exact ⟨1, _, bs [], c_vNum _, 1, sumN K, bs [], 0, hE, fun hc => absurd hc cmp_ok, fun _ => ⟨M.length - (i + 1), by omega, i + 1, K, H, hwu, by omega, rfl, rfl, rfl, rfl, hK, by omega, hR, rfl, rfl, rfl, rfl⟩⟩
      · refine ⟨fun hf => ?_, fun hf => ?_⟩
        · have hE' : endS true K = (nul, 9) := by
            unfold endS
            rw [if_neg hK0, if_neg (fun h => hf ((fits_iff _ hb').2 h))]
          rw [hE'] at hE
          exact ⟨0, 0, bs [], 9, hE, fun hc => absurd hc cmp_ok, fun _ => ⟨M.length - (i + 1), by omega, i + 1, K, H, hwu, by omega, rfl, rfl, rfl, rfl, hK, by omega, hR, rfl, rfl, rfl, rfl⟩⟩
        · have hfit := (fits_iff _ hb').1 (Classical.not_not.1 hf)
          have hE' : endS true K = ((1, sumN K, []), 0) := by
            unfold endS
            rw [if_neg hK0, if_pos hfit]
          rw [hE'] at hE
          rw [sum_low _ hfit]
          exact ⟨1, _, bs [], c_vNum _, 1, sumN K, bs [], 0, hE, fun hc => absurd hc cmp_ok, fun _ => ⟨M.length - (i + 1), by omega, i + 1, K, H, hwu, by omega, rfl, rfl, rfl, rfl, hK, by omega, hR, rfl, rfl, rfl, rfl⟩⟩
    refine ⟨fun h3 => ?_, fun h3 => ?_⟩
    · have hup := addL_num (d := d) (K := K) h1 h2 h3
      have hadd : FnC Try.prog 13 [aD oTotal d K, vD v] (.tup [aD oTotal d K, iD 11]) := by
        have := c_rAdd oTotal d true K v (by decide) hK hv.1 (by omega)
        rwa [hup] at this
      refine ⟨hix, vc_sz M, hkk, oTotal, d, vc K, 11, hadd, ?_⟩
      have hE := c_rEndS true d K (hK) (by have := hKl; simp; omega)
      have hb' := sum_bb K (hK) (by have := hKl; simp; omega)
      refine ⟨fun hs => absurd hs.2 (by simp), fun _ => ?_⟩
      by_cases hK0 : K = []
      · have hs0 : sumN K = 0 := by rw [hK0]; rfl
        have hE' : endS true K = ((1, sumN K, []), 0) := by
          unfold endS
          rw [if_pos hK0, hs0]
          rfl
        rw [hE'] at hE
        refine ⟨fun hf => absurd ((fits_iff _ hb').2 (by rw [hs0]; omega)) hf, fun _ => ?_⟩
        rw [sum_low _ (by rw [hs0]; omega)]
        exact ⟨1, _, bs [], c_vNum _, 1, sumN K, bs [], 0, hE, fun hc => absurd hc cmp_ok, fun _ => ⟨M.length - (i + 1), by omega, i + 1, K, H, hwu, by omega, rfl, rfl, rfl, rfl, hK, by omega, hR, rfl, rfl, rfl, rfl⟩⟩
      · refine ⟨fun hf => ?_, fun hf => ?_⟩
        · have hE' : endS true K = (nul, 9) := by
            unfold endS
            rw [if_neg hK0, if_neg (fun h => hf ((fits_iff _ hb').2 h))]
          rw [hE'] at hE
          exact ⟨0, 0, bs [], 9, hE, fun hc => absurd hc cmp_ok, fun _ => ⟨M.length - (i + 1), by omega, i + 1, K, H, hwu, by omega, rfl, rfl, rfl, rfl, hK, by omega, hR, rfl, rfl, rfl, rfl⟩⟩
        · have hfit := (fits_iff _ hb').1 (Classical.not_not.1 hf)
          have hE' : endS true K = ((1, sumN K, []), 0) := by
            unfold endS
            rw [if_neg hK0, if_pos hfit]
          rw [hE'] at hE
          rw [sum_low _ hfit]
          exact ⟨1, _, bs [], c_vNum _, 1, sumN K, bs [], 0, hE, fun hc => absurd hc cmp_ok, fun _ => ⟨M.length - (i + 1), by omega, i + 1, K, H, hwu, by omega, rfl, rfl, rfl, rfl, hK, by omega, hR, rfl, rfl, rfl, rfl⟩⟩
    have h3' : ¬ (true = true ∧ v.1 ≠ 1) := fun h => h.2 (Classical.not_not.1 h3)
    refine ⟨fun hd => ?_, fun hd => ?_⟩
    · subst hd
      obtain ⟨j, hj, p2, p3, hp⟩ := c_place H v hR.2.2 hv.1 (by have := hR.2.1; omega) (hR.1 rfl).1
      refine ⟨(j : Int), _, hp, fun hf => ?_, fun hf => ?_⟩
      · have hup := addL_dup (num := true) h1 h2 h3' (by rw [← (hR.1 rfl).2 v]; exact (found_iff (hR.1 rfl).1 p2 p3).1 (of_decide_eq_true hf))
        have hadd : FnC Try.prog 13 [aD oTotal true K, vD v] (.tup [aD oTotal true K, iD 0]) := by
          have := c_rAdd oTotal true true K v (by decide) hK hv.1 (by omega)
          rwa [hup] at this
        refine ⟨hix, vc_sz M, hkk, oTotal, true, vc K, 0, hadd, ?_⟩
        have hE := c_rEndS true true K (hK) (by have := hKl; simp; omega)
        have hb' := sum_bb K (hK) (by have := hKl; simp; omega)
        refine ⟨fun hs => absurd hs.2 (by simp), fun _ => ?_⟩
        by_cases hK0 : K = []
        · have hs0 : sumN K = 0 := by rw [hK0]; rfl
          have hE' : endS true K = ((1, sumN K, []), 0) := by
            unfold endS
            rw [if_pos hK0, hs0]
            rfl
          rw [hE'] at hE
          refine ⟨fun hf => absurd ((fits_iff _ hb').2 (by rw [hs0]; omega)) hf, fun _ => ?_⟩
          rw [sum_low _ (by rw [hs0]; omega)]
          exact ⟨1, _, bs [], c_vNum _, 1, sumN K, bs [], 0, hE, fun hc => absurd hc cmp_ok, fun _ => ⟨M.length - (i + 1), by omega, i + 1, K, H, hwu, by omega, rfl, rfl, rfl, rfl, hK, by omega, hR, rfl, rfl, rfl, rfl⟩⟩
        · refine ⟨fun hf => ?_, fun hf => ?_⟩
          · have hE' : endS true K = (nul, 9) := by
              unfold endS
              rw [if_neg hK0, if_neg (fun h => hf ((fits_iff _ hb').2 h))]
            rw [hE'] at hE
            exact ⟨0, 0, bs [], 9, hE, fun hc => absurd hc cmp_ok, fun _ => ⟨M.length - (i + 1), by omega, i + 1, K, H, hwu, by omega, rfl, rfl, rfl, rfl, hK, by omega, hR, rfl, rfl, rfl, rfl⟩⟩
          · have hfit := (fits_iff _ hb').1 (Classical.not_not.1 hf)
            have hE' : endS true K = ((1, sumN K, []), 0) := by
              unfold endS
              rw [if_neg hK0, if_pos hfit]
            rw [hE'] at hE
            rw [sum_low _ hfit]
            exact ⟨1, _, bs [], c_vNum _, 1, sumN K, bs [], 0, hE, fun hc => absurd hc cmp_ok, fun _ => ⟨M.length - (i + 1), by omega, i + 1, K, H, hwu, by omega, rfl, rfl, rfl, rfl, hK, by omega, hR, rfl, rfl, rfl, rfl⟩⟩
      · have hne : ¬ (j < H.length ∧ cmpV (H.getD j nul) v 0 = 0) := fun h => hf (decide_eq_true h)
        have hup := addL_putT (num := true) h1 h2 h3' (by rw [← (hR.1 rfl).2 v]; exact fun h => hne ((found_iff (hR.1 rfl).1 p2 p3).2 h))
        rintro _ rfl
        refine ⟨_, m_ins H v j hj (by have := hR.2.1; omega), ?_⟩
        have hR' := relH_ins hR hv hj p2 p3 hne
        generalize H.take j ++ [v] ++ H.drop j = H' at *
        obtain ⟨w1, w2⟩ := add_words (sumN K) v.2.1 hv.2 hb
        refine ⟨_, _, c_Add64 _ _ 0 (Int.emod_nonneg _ (by decide)) (by rw [wrU]; exact Int.emod_nonneg _ (by decide)) (by omega) (by omega), ?_⟩
        rw [w1, w2, ← sumN_snoc]
        have hadd : FnC Try.prog 13 [aD oTotal true K, vD v] (.tup [aD oTotal true (K ++ [v]), iD 0]) := by
          have := c_rAdd oTotal true true K v (by decide) hK hv.1 (by omega)
          rwa [hup] at this
        refine ⟨hix, vc_sz M, hkk, oTotal, true, vc (K ++ [v]), 0, hadd, ?_⟩
        have hE := c_rEndS true true (K ++ [v]) (ok_snoc hK hv) (by have := hKl; simp; omega)
        have hb' := sum_bb (K ++ [v]) (ok_snoc hK hv) (by have := hKl; simp; omega)
        have hK0 : (K ++ [v]) ≠ [] := by simp
        refine ⟨fun hf => ?_, fun hf => ?_⟩
        · have hE' : endS true (K ++ [v]) = (nul, 9) := by
            unfold endS
            rw [if_neg hK0, if_neg (fun h => hf ((fits_iff _ hb').2 h))]
          rw [hE'] at hE
          exact ⟨0, 0, bs [], 9, hE, fun hc => absurd hc cmp_ok, fun _ => ⟨M.length - (i + 1), by omega, i + 1, (K ++ [v]), H', hwu, by omega, rfl, rfl, rfl, rfl, ok_snoc hK hv, by simp; omega, hR', rfl, rfl, rfl, by simp⟩⟩
        · have hfit := (fits_iff _ hb').1 (Classical.not_not.1 hf)
          have hE' : endS true (K ++ [v]) = ((1, sumN (K ++ [v]), []), 0) := by
            unfold endS
            rw [if_neg hK0, if_pos hfit]
          rw [hE'] at hE
          rw [sum_low _ hfit]
          exact ⟨1, _, bs [], c_vNum _, 1, sumN (K ++ [v]), bs [], 0, hE, fun hc => absurd hc cmp_ok, fun _ => ⟨M.length - (i + 1), by omega, i + 1, (K ++ [v]), H', hwu, by omega, rfl, rfl, rfl, rfl, ok_snoc hK hv, by simp; omega, hR', rfl, rfl, rfl, by simp⟩⟩
    · have hd : d = false := by simpa using hd
      subst hd
      have hup := addL_putF (num := true) (K := K) (v := v) h1 h2 h3'
      have hR' := relH_put (v := v) hR
      obtain ⟨w1, w2⟩ := add_words (sumN K) v.2.1 hv.2 hb
      refine ⟨_, _, c_Add64 _ _ 0 (Int.emod_nonneg _ (by decide)) (by rw [wrU]; exact Int.emod_nonneg _ (by decide)) (by omega) (by omega), ?_⟩
      rw [w1, w2, ← sumN_snoc]
      have hadd : FnC Try.prog 13 [aD oTotal false K, vD v] (.tup [aD oTotal false (K ++ [v]), iD 0]) := by
        have := c_rAdd oTotal false true K v (by decide) hK hv.1 (by omega)
        rwa [hup] at this
      refine ⟨hix, vc_sz M, hkk, oTotal, false, vc (K ++ [v]), 0, hadd, ?_⟩
      have hE := c_rEndS true false (K ++ [v]) (ok_snoc hK hv) (by have := hKl; simp; omega)
      have hb' := sum_bb (K ++ [v]) (ok_snoc hK hv) (by have := hKl; simp; omega)
      have hK0 : (K ++ [v]) ≠ [] := by simp
      refine ⟨fun hf => ?_, fun hf => ?_⟩
      · have hE' : endS true (K ++ [v]) = (nul, 9) := by
          unfold endS
          rw [if_neg hK0, if_neg (fun h => hf ((fits_iff _ hb').2 h))]
        rw [hE'] at hE
        exact ⟨0, 0, bs [], 9, hE, fun hc => absurd hc cmp_ok, fun _ => ⟨M.length - (i + 1), by omega, i + 1, (K ++ [v]), H, hwu, by omega, rfl, rfl, rfl, rfl, ok_snoc hK hv, by simp; omega, hR', rfl, rfl, rfl, by simp⟩⟩
      · have hfit := (fits_iff _ hb').1 (Classical.not_not.1 hf)
        have hE' : endS true (K ++ [v]) = ((1, sumN (K ++ [v]), []), 0) := by
          unfold endS
          rw [if_neg hK0, if_pos hfit]
        rw [hE'] at hE
        rw [sum_low _ hfit]
        exact ⟨1, _, bs [], c_vNum _, 1, sumN (K ++ [v]), bs [], 0, hE, fun hc => absurd hc cmp_ok, fun _ => ⟨M.length - (i + 1), by omega, i + 1, (K ++ [v]), H, hwu, by omega, rfl, rfl, rfl, rfl, ok_snoc hK hv, by simp; omega, hR', rfl, rfl, rfl, by simp⟩⟩
end Go.Proofs.Yteljlbgjpnfdjaa
namespace Go.Proofs.Yteljlbgjpnfdjaa
open Go.RowKit Go.IntWalk
set_option linter.unusedSimpArgs false
set_option linter.unusedVariables false

set_option maxHeartbeats 4000000 in
theorem play_avg_true (l : List V3) (hl : ∀ v ∈ l, OKv v) : FnC Try.prog 3 [ND oAvg, bD true, .c (.vs (vc l))] (bD true) := by
  refine w3_avg_true (vc l) ⟨fun h => ⟨⟨by omega, by omega, by omega⟩, vc_sz l, ?_⟩, fun h => ?_⟩
  · rw [show ((100 : Int).toNat) = 100 from rfl, vc_take]
    have hM : ∀ v ∈ l.take 100, OKv v := fun v hv => hl v (List.mem_of_mem_take hv)
    have hn : (l.take 100).length ≤ 100 := by rw [List.length_take]; omega
    generalize l.take 100 = M at *
    clear h hl
    refine ⟨_, _, _, _, c_rNew oAvg true (by unfold IsOp; decide), knownB oAvg M.length, fun _ => by rw [vc_len]; exact c_Known oAvg _ (by unfold IsOp; decide), knownB oAvg M.length, fun _ => by rw [vc_len]; exact c_rKnown oAvg _ (by unfold IsOp; decide), knownB oAvg 1, fun _ => c_Known oAvg 1 (by unfold IsOp; decide), knownB oAvg 1, fun _ => c_rKnown oAvg 1 (by unfold IsOp; decide), fun hc => absurd hc (by simp), fun _ => ?_⟩
    refine ⟨_, _, _, _, c_Of_avg true M hM (by omega), _, _, _, _, c_rOf oAvg true true endA M (by unfold IsOp; decide) (by decide) hM (by omega) (fun K h1 h2 => c_rEndA true K h1 h2), fun hc => absurd hc (by simp), fun _ => ?_⟩
    refine ⟨fun a1 a2 a3 a4 a5 a6 a7 a8 a9 x3 a b n xh k => ∃ (i : Nat) (K H : List V3), x3 = (i : Int) ∧ i ≤ M.length ∧ k = M.length - i ∧ a1 = oAvg ∧ true = a2 ∧ a3 = vc K ∧ (∀ v ∈ K, OKv v) ∧ K.length ≤ i ∧ RelH true K H ∧ xh = vc H ∧ a = sumN K / 18446744073709551616 ∧ b = sumN K % 18446744073709551616 ∧ n = (K.length : Int), ⟨M.length, 0, [], [], rfl, by omega, rfl, rfl, rfl, rfl, (fun v h => by simp at h), by simp, relH_nil true, rfl, rfl, rfl, rfl⟩, ?_⟩
    rintro k _ _ _ _ _ _ _ _ _ _ _ _ _ _ ⟨i, K, H, rfl, hi, rfl, rfl, rfl, rfl, hK, hKl, hR, rfl, rfl, rfl, rfl⟩
    have hb := sum_bb K hK (by omega)
    refine ⟨fun hlt => ?_, fun _ => ⟨true, c_live, rfl⟩⟩
    have hil : i < M.length := by
      rcases hlt with h | h
      · rw [vc_len] at h; omega
      · cases h
    obtain ⟨e0, e1, e2⟩ := cells_v M i hil
    have hv := okv_at hM i
    have hwu := wrap_up i (by omega)
    have hix : 0 ≤ (i : Int) ∧ (i : Int) < ((vc M).length : Int) := ⟨by omega, by rw [vc_len]; omega⟩
    have hkk := vc_k M (i : Int) (by omega) (by omega)
    simp only [e0, e1, e2]
    clear e0 e1 e2 hlt
    generalize M.getD i nul = v at *
    refine ⟨hix, vc_sz M, hkk, checkV v, c_vCheck v, fun h1 => ?_, fun h1 => ⟨fun h2 => ?_, fun h2 => ?_⟩⟩
    · have hup := addL_bad (num := true) (d := true) (K := K) h1
      have hadd : FnC Try.prog 13 [aD oAvg true K, vD v] (.tup [aD oAvg true K, iD (checkV v)]) := by
        have := c_rAdd oAvg true true K v (by decide) hK hv.1 (by omega)
        rwa [hup] at this
      refine ⟨hix, vc_sz M, hkk, oAvg, true, vc K, (checkV v), hadd, ?_⟩
      have hE := c_rEndA true (K) (hK) (by have := hKl; simp; omega)
      refine ⟨fun h0 => ?_, fun h0 => ?_⟩
      · have hK0 : K = [] := List.length_eq_zero_iff.1 (by omega)
        have hE' : endA K = (nul, 0) := by
          unfold endA
          rw [if_pos hK0]
        rw [hE'] at hE
        exact ⟨0, 0, bs [], 0, hE, fun hc => absurd hc cmp_ok, fun _ => ⟨M.length - (i + 1), by omega, i + 1, K, H, hwu, by omega, rfl, rfl, rfl, rfl, hK, by omega, hR, rfl, rfl, rfl, rfl⟩⟩
      · have hpos : 0 < K.length := by omega
        have hsb := sum_b K (hK) (by have := hKl; simp; omega)
        have hE' : endA K = ((1, (sumN K).tdiv ((K).length : Int), []), 0) := by
          unfold endA
          rw [if_neg (List.length_pos_iff.1 hpos)]
        rw [hE'] at hE
        have hl9 : (K).length ≤ 1048576 := by have := hKl; simp; omega
        refine ⟨fun hneg => ?_, fun hneg => ?_⟩
        · obtain ⟨_, _, _, _, _, _, s1, s2, s3, s4⟩ := avg_neg (sumN K) (K).length hsb.1 (by omega) hpos hl9
          refine ⟨_, _, s1, _, _, s2, _, _, s3, fun _ => ⟨1, _, bs [], c_vNum _, 1, _, bs [], 0, hE, fun hc => ?_, fun _ => ⟨M.length - (i + 1), by omega, i + 1, K, H, hwu, by omega, rfl, rfl, rfl, rfl, hK, by omega, hR, rfl, rfl, rfl, rfl⟩⟩, fun h => absurd hneg h⟩
          rw [s4] at hc
          exact absurd hc cmp_ok
        · obtain ⟨_, _, s1, s2⟩ := avg_pos (sumN K) (K).length hsb.2 (by omega) hpos hl9
          refine ⟨_, _, s1, fun h => absurd h hneg, fun _ => ⟨1, _, bs [], c_vNum _, 1, _, bs [], 0, hE, fun hc => ?_, fun _ => ⟨M.length - (i + 1), by omega, i + 1, K, H, hwu, by omega, rfl, rfl, rfl, rfl, hK, by omega, hR, rfl, rfl, rfl, rfl⟩⟩⟩
          rw [s2] at hc
          exact absurd hc cmp_ok
    · have hup := addL_nul (num := true) (d := true) (K := K) h1 h2
      have hadd : FnC Try.prog 13 [aD oAvg true K, vD v] (.tup [aD oAvg true K, iD 0]) := by
        have := c_rAdd oAvg true true K v (by decide) hK hv.1 (by omega)
        rwa [hup] at this
      refine ⟨hix, vc_sz M, hkk, oAvg, true, vc K, 0, hadd, ?_⟩
      have hE := c_rEndA true (K) (hK) (by have := hKl; simp; omega)
      refine ⟨fun h0 => ?_, fun h0 => ?_⟩
      · have hK0 : K = [] := List.length_eq_zero_iff.1 (by omega)
        have hE' : endA K = (nul, 0) := by
          unfold endA
          rw [if_pos hK0]
        rw [hE'] at hE
        exact ⟨0, 0, bs [], 0, hE, fun hc => absurd hc cmp_ok, fun _ => ⟨M.length - (i + 1), by omega, i + 1, K, H, hwu, by omega, rfl, rfl, rfl, rfl, hK, by omega, hR, rfl, rfl, rfl, rfl⟩⟩
      · have hpos : 0 < K.length := by omega
        have hsb := sum_b K (hK) (by have := hKl; simp; omega)
        have hE' : endA K = ((1, (sumN K).tdiv ((K).length : Int), []), 0) := by
          unfold endA
          rw [if_neg (List.length_pos_iff.1 hpos)]
        rw [hE'] at hE
        have hl9 : (K).length ≤ 1048576 := by have := hKl; simp; omega
        refine ⟨fun hneg => ?_, fun hneg => ?_⟩
        · obtain ⟨_, _, _, _, _, _, s1, s2, s3, s4⟩ := avg_neg (sumN K) (K).length hsb.1 (by omega) hpos hl9
          refine ⟨_, _, s1, _, _, s2, _, _, s3, fun _ => ⟨1, _, bs [], c_vNum _, 1, _, bs [], 0, hE, fun hc => ?_, fun _ => ⟨M.length - (i + 1), by omega, i + 1, K, H, hwu, by omega, rfl, rfl, rfl, rfl, hK, by omega, hR, rfl, rfl, rfl, rfl⟩⟩, fun h => absurd hneg h⟩
          rw [s4] at hc
          exact absurd hc cmp_ok
        · obtain ⟨_, _, s1, s2⟩ := avg_pos (sumN K) (K).length hsb.2 (by omega) hpos hl9
          refine ⟨_, _, s1, fun h => absurd h hneg, fun _ => ⟨1, _, bs [], c_vNum _, 1, _, bs [], 0, hE, fun hc => ?_, fun _ => ⟨M.length - (i + 1), by omega, i + 1, K, H, hwu, by omega, rfl, rfl, rfl, rfl, hK, by omega, hR, rfl, rfl, rfl, rfl⟩⟩⟩
          rw [s2] at hc
          exact absurd hc cmp_ok
    refine ⟨fun h3 => ?_, fun h3 => ?_⟩
    · have hup := addL_num (d := true) (K := K) h1 h2 h3
      have hadd : FnC Try.prog 13 [aD oAvg true K, vD v] (.tup [aD oAvg true K, iD 11]) := by
        have := c_rAdd oAvg true true K v (by decide) hK hv.1 (by omega)
        rwa [hup] at this
      refine ⟨hix, vc_sz M, hkk, oAvg, true, vc K, 11, hadd, ?_⟩
      have hE := c_rEndA true (K) (hK) (by have := hKl; simp; omega)
      refine ⟨fun h0 => ?_, fun h0 => ?_⟩
      · have hK0 : K = [] := List.length_eq_zero_iff.1 (by omega)
        have hE' : endA K = (nul, 0) := by
          unfold endA
          rw [if_pos hK0]
        rw [hE'] at hE
        exact ⟨0, 0, bs [], 0, hE, fun hc => absurd hc cmp_ok, fun _ => ⟨M.length - (i + 1), by omega, i + 1, K, H, hwu, by omega, rfl, rfl, rfl, rfl, hK, by omega, hR, rfl, rfl, rfl, rfl⟩⟩
      · have hpos : 0 < K.length := by omega
        have hsb := sum_b K (hK) (by have := hKl; simp; omega)
        have hE' : endA K = ((1, (sumN K).tdiv ((K).length : Int), []), 0) := by
          unfold endA
          rw [if_neg (List.length_pos_iff.1 hpos)]
        rw [hE'] at hE
        have hl9 : (K).length ≤ 1048576 := by have := hKl; simp; omega
        refine ⟨fun hneg => ?_, fun hneg => ?_⟩
        · obtain ⟨_, _, _, _, _, _, s1, s2, s3, s4⟩ := avg_neg (sumN K) (K).length hsb.1 (by omega) hpos hl9
          refine ⟨_, _, s1, _, _, s2, _, _, s3, fun _ => ⟨1, _, bs [], c_vNum _, 1, _, bs [], 0, hE, fun hc => ?_, fun _ => ⟨M.length - (i + 1), by omega, i + 1, K, H, hwu, by omega, rfl, rfl, rfl, rfl, hK, by omega, hR, rfl, rfl, rfl, rfl⟩⟩, fun h => absurd hneg h⟩
          rw [s4] at hc
          exact absurd hc cmp_ok
        · obtain ⟨_, _, s1, s2⟩ := avg_pos (sumN K) (K).length hsb.2 (by omega) hpos hl9
          refine ⟨_, _, s1, fun h => absurd h hneg, fun _ => ⟨1, _, bs [], c_vNum _, 1, _, bs [], 0, hE, fun hc => ?_, fun _ => ⟨M.length - (i + 1), by omega, i + 1, K, H, hwu, by omega, rfl, rfl, rfl, rfl, hK, by omega, hR, rfl, rfl, rfl, rfl⟩⟩⟩
          rw [s2] at hc
          exact absurd hc cmp_ok
    have h3' : ¬ (true = true ∧ v.1 ≠ 1) := fun h => h.2 (Classical.not_not.1 h3)
    obtain ⟨j, hj, p2, p3, hp⟩ := c_place H v hR.2.2 hv.1 (by have := hR.2.1; omega) (hR.1 rfl).1
    refine ⟨(j : Int), _, hp, fun hf => ?_, fun hf => ?_⟩
    · have hup := addL_dup (num := true) h1 h2 h3' (by rw [← (hR.1 rfl).2 v]; exact (found_iff (hR.1 rfl).1 p2 p3).1 (of_decide_eq_true hf))
      have hadd : FnC Try.prog 13 [aD oAvg true K, vD v] (.tup [aD oAvg true K, iD 0]) := by
        have := c_rAdd oAvg true true K v (by decide) hK hv.1 (by omega)
        rwa [hup] at this
      refine ⟨hix, vc_sz M, hkk, oAvg, true, vc K, 0, hadd, ?_⟩
      have hE := c_rEndA true (K) (hK) (by have := hKl; simp; omega)
      refine ⟨fun h0 => ?_, fun h0 => ?_⟩
      · have hK0 : K = [] := List.length_eq_zero_iff.1 (by omega)
        have hE' : endA K = (nul, 0) := by
          unfold endA
          rw [if_pos hK0]
        rw [hE'] at hE
        exact ⟨0, 0, bs [], 0, hE, fun hc => absurd hc cmp_ok, fun _ => ⟨M.length - (i + 1), by omega, i + 1, K, H, hwu, by omega, rfl, rfl, rfl, rfl, hK, by omega, hR, rfl, rfl, rfl, rfl⟩⟩
      · have hpos : 0 < K.length := by omega
        have hsb := sum_b K (hK) (by have := hKl; simp; omega)
        have hE' : endA K = ((1, (sumN K).tdiv ((K).length : Int), []), 0) := by
          unfold endA
          rw [if_neg (List.length_pos_iff.1 hpos)]
        rw [hE'] at hE
        have hl9 : (K).length ≤ 1048576 := by have := hKl; simp; omega
        refine ⟨fun hneg => ?_, fun hneg => ?_⟩
        · obtain ⟨_, _, _, _, _, _, s1, s2, s3, s4⟩ := avg_neg (sumN K) (K).length hsb.1 (by omega) hpos hl9
          refine ⟨_, _, s1, _, _, s2, _, _, s3, fun _ => ⟨1, _, bs [], c_vNum _, 1, _, bs [], 0, hE, fun hc => ?_, fun _ => ⟨M.length - (i + 1), by omega, i + 1, K, H, hwu, by omega, rfl, rfl, rfl, rfl, hK, by omega, hR, rfl, rfl, rfl, rfl⟩⟩, fun h => absurd hneg h⟩
          rw [s4] at hc
          exact absurd hc cmp_ok
        · obtain ⟨_, _, s1, s2⟩ := avg_pos (sumN K) (K).length hsb.2 (by omega) hpos hl9
          refine ⟨_, _, s1, fun h => absurd h hneg, fun _ => ⟨1, _, bs [], c_vNum _, 1, _, bs [], 0, hE, fun hc => ?_, fun _ => ⟨M.length - (i + 1), by omega, i + 1, K, H, hwu, by omega, rfl, rfl, rfl, rfl, hK, by omega, hR, rfl, rfl, rfl, rfl⟩⟩⟩
          rw [s2] at hc
          exact absurd hc cmp_ok
    · have hne : ¬ (j < H.length ∧ cmpV (H.getD j nul) v 0 = 0) := fun h => hf (decide_eq_true h)
      have hup := addL_putT (num := true) h1 h2 h3' (by rw [← (hR.1 rfl).2 v]; exact fun h => hne ((found_iff (hR.1 rfl).1 p2 p3).2 h))
      rintro _ rfl
      refine ⟨_, m_ins H v j hj (by have := hR.2.1; omega), ?_⟩
      have hR' := relH_ins hR hv hj p2 p3 hne
      generalize H.take j ++ [v] ++ H.drop j = H' at *
      obtain ⟨w1, w2⟩ := add_words (sumN K) v.2.1 hv.2 hb
      refine ⟨_, _, c_Add64 _ _ 0 (Int.emod_nonneg _ (by decide)) (by rw [wrU]; exact Int.emod_nonneg _ (by decide)) (by omega) (by omega), ?_⟩
      rw [w1, w2, ← sumN_snoc]
      rw [show IntKind.wrap .i64 ((K.length : Int) + 1) = (((K ++ [v]).length : Nat) : Int) by rw [wrap_up K.length (by omega)]; simp]
      have hadd : FnC Try.prog 13 [aD oAvg true K, vD v] (.tup [aD oAvg true (K ++ [v]), iD 0]) := by
        have := c_rAdd oAvg true true K v (by decide) hK hv.1 (by omega)
        rwa [hup] at this
      refine ⟨hix, vc_sz M, hkk, oAvg, true, vc (K ++ [v]), 0, hadd, ?_⟩
      have hE := c_rEndA true ((K ++ [v])) (ok_snoc hK hv) (by have := hKl; simp; omega)
      have hpos : 0 < ((K ++ [v])).length := by simp
      refine ⟨fun h0 => absurd h0 (by omega), fun _ => ?_⟩
      have hsb := sum_b (K ++ [v]) (ok_snoc hK hv) (by have := hKl; simp; omega)
      have hE' : endA (K ++ [v]) = ((1, (sumN (K ++ [v])).tdiv (((K ++ [v])).length : Int), []), 0) := by
        unfold endA
        rw [if_neg (List.length_pos_iff.1 hpos)]
      rw [hE'] at hE
      have hl9 : ((K ++ [v])).length ≤ 1048576 := by have := hKl; simp; omega
      refine ⟨fun hneg => ?_, fun hneg => ?_⟩
      · obtain ⟨_, _, _, _, _, _, s1, s2, s3, s4⟩ := avg_neg (sumN (K ++ [v])) ((K ++ [v])).length hsb.1 (by omega) hpos hl9
        refine ⟨_, _, s1, _, _, s2, _, _, s3, fun _ => ⟨1, _, bs [], c_vNum _, 1, _, bs [], 0, hE, fun hc => ?_, fun _ => ⟨M.length - (i + 1), by omega, i + 1, (K ++ [v]), H', hwu, by omega, rfl, rfl, rfl, rfl, ok_snoc hK hv, by simp; omega, hR', rfl, rfl, rfl, rfl⟩⟩, fun h => absurd hneg h⟩
        rw [s4] at hc
        exact absurd hc cmp_ok
      · obtain ⟨_, _, s1, s2⟩ := avg_pos (sumN (K ++ [v])) ((K ++ [v])).length hsb.2 (by omega) hpos hl9
        refine ⟨_, _, s1, fun h => absurd h hneg, fun _ => ⟨1, _, bs [], c_vNum _, 1, _, bs [], 0, hE, fun hc => ?_, fun _ => ⟨M.length - (i + 1), by omega, i + 1, (K ++ [v]), H', hwu, by omega, rfl, rfl, rfl, rfl, ok_snoc hK hv, by simp; omega, hR', rfl, rfl, rfl, rfl⟩⟩⟩
        rw [s2] at hc
        exact absurd hc cmp_ok
  · have hn : l.length ≤ 100 := by rw [vc_len] at h; omega
    have hM := hl
    generalize l = M at *
    clear h hl
    refine ⟨_, _, _, _, c_rNew oAvg true (by unfold IsOp; decide), knownB oAvg M.length, fun _ => by rw [vc_len]; exact c_Known oAvg _ (by unfold IsOp; decide), knownB oAvg M.length, fun _ => by rw [vc_len]; exact c_rKnown oAvg _ (by unfold IsOp; decide), knownB oAvg 1, fun _ => c_Known oAvg 1 (by unfold IsOp; decide), knownB oAvg 1, fun _ => c_rKnown oAvg 1 (by unfold IsOp; decide), fun hc => absurd hc (by simp), fun _ => ?_⟩
    refine ⟨_, _, _, _, c_Of_avg true M hM (by omega), _, _, _, _, c_rOf oAvg true true endA M (by unfold IsOp; decide) (by decide) hM (by omega) (fun K h1 h2 => c_rEndA true K h1 h2), fun hc => absurd hc (by simp), fun _ => ?_⟩
    refine ⟨fun a1 a2 a3 a4 a5 a6 a7 a8 a9 x3 a b n xh k => ∃ (i : Nat) (K H : List V3), x3 = (i : Int) ∧ i ≤ M.length ∧ k = M.length - i ∧ a1 = oAvg ∧ true = a2 ∧ a3 = vc K ∧ (∀ v ∈ K, OKv v) ∧ K.length ≤ i ∧ RelH true K H ∧ xh = vc H ∧ a = sumN K / 18446744073709551616 ∧ b = sumN K % 18446744073709551616 ∧ n = (K.length : Int), ⟨M.length, 0, [], [], rfl, by omega, rfl, rfl, rfl, rfl, (fun v h => by simp at h), by simp, relH_nil true, rfl, rfl, rfl, rfl⟩, ?_⟩
    rintro k _ _ _ _ _ _ _ _ _ _ _ _ _ _ ⟨i, K, H, rfl, hi, rfl, rfl, rfl, rfl, hK, hKl, hR, rfl, rfl, rfl, rfl⟩
    have hb := sum_bb K hK (by omega)
    refine ⟨fun hlt => ?_, fun _ => ⟨true, c_live, rfl⟩⟩
    have hil : i < M.length := by
      rcases hlt with h | h
      · rw [vc_len] at h; omega
      · cases h
    obtain ⟨e0, e1, e2⟩ := cells_v M i hil
    have hv := okv_at hM i
    have hwu := wrap_up i (by omega)
    have hix : 0 ≤ (i : Int) ∧ (i : Int) < ((vc M).length : Int) := ⟨by omega, by rw [vc_len]; omega⟩
    have hkk := vc_k M (i : Int) (by omega) (by omega)
    simp only [e0, e1, e2]
    clear e0 e1 e2 hlt
    generalize M.getD i nul = v at *
    refine ⟨hix, vc_sz M, hkk, checkV v, c_vCheck v, fun h1 => ?_, fun h1 => ⟨fun h2 => ?_, fun h2 => ?_⟩⟩
    · have hup := addL_bad (num := true) (d := true) (K := K) h1
      have hadd : FnC Try.prog 13 [aD oAvg true K, vD v] (.tup [aD oAvg true K, iD (checkV v)]) := by
        have := c_rAdd oAvg true true K v (by decide) hK hv.1 (by omega)
        rwa [hup] at this
      refine ⟨hix, vc_sz M, hkk, oAvg, true, vc K, (checkV v), hadd, ?_⟩
      have hE := c_rEndA true (K) (hK) (by have := hKl; simp; omega)
      refine ⟨fun h0 => ?_, fun h0 => ?_⟩
      · have hK0 : K = [] := List.length_eq_zero_iff.1 (by omega)
        have hE' : endA K = (nul, 0) := by
          unfold endA
          rw [if_pos hK0]
        rw [hE'] at hE
        exact ⟨0, 0, bs [], 0, hE, fun hc => absurd hc cmp_ok, fun _ => ⟨M.length - (i + 1), by omega, i + 1, K, H, hwu, by omega, rfl, rfl, rfl, rfl, hK, by omega, hR, rfl, rfl, rfl, rfl⟩⟩
      · have hpos : 0 < K.length := by omega
        have hsb := sum_b K (hK) (by have := hKl; simp; omega)
        have hE' : endA K = ((1, (sumN K).tdiv ((K).length : Int), []), 0) := by
          unfold endA
          rw [if_neg (List.length_pos_iff.1 hpos)]
        rw [hE'] at hE
        have hl9 : (K).length ≤ 1048576 := by have := hKl; simp; omega
        refine ⟨fun hneg => ?_, fun hneg => ?_⟩
        · obtain ⟨_, _, _, _, _, _, s1, s2, s3, s4⟩ := avg_neg (sumN K) (K).length hsb.1 (by omega) hpos hl9
          refine ⟨_, _, s1, _, _, s2, _, _, s3, fun _ => ⟨1, _, bs [], c_vNum _, 1, _, bs [], 0, hE, fun hc => ?_, fun _ => ⟨M.length - (i + 1), by omega, i + 1, K, H, hwu, by omega, rfl, rfl, rfl, rfl, hK, by omega, hR, rfl, rfl, rfl, rfl⟩⟩, fun h => absurd hneg h⟩
          rw [s4] at hc
          exact absurd hc cmp_ok
        · obtain ⟨_, _, s1, s2⟩ := avg_pos (sumN K) (K).length hsb.2 (by omega) hpos hl9
          refine ⟨_, _, s1, fun h => absurd h hneg, fun _ => ⟨1, _, bs [], c_vNum _, 1, _, bs [], 0, hE, fun hc => ?_, fun _ => ⟨M.length - (i + 1), by omega, i + 1, K, H, hwu, by omega, rfl, rfl, rfl, rfl, hK, by omega, hR, rfl, rfl, rfl, rfl⟩⟩⟩
          rw [s2] at hc
          exact absurd hc cmp_ok
    · have hup := addL_nul (num := true) (d := true) (K := K) h1 h2
      have hadd : FnC Try.prog 13 [aD oAvg true K, vD v] (.tup [aD oAvg true K, iD 0]) := by
        have := c_rAdd oAvg true true K v (by decide) hK hv.1 (by omega)
        rwa [hup] at this
      refine ⟨hix, vc_sz M, hkk, oAvg, true, vc K, 0, hadd, ?_⟩
      have hE := c_rEndA true (K) (hK) (by have := hKl; simp; omega)
      refine ⟨fun h0 => ?_, fun h0 => ?_⟩
      · have hK0 : K = [] := List.length_eq_zero_iff.1 (by omega)
        have hE' : endA K = (nul, 0) := by
          unfold endA
          rw [if_pos hK0]
        rw [hE'] at hE
        exact ⟨0, 0, bs [], 0, hE, fun hc => absurd hc cmp_ok, fun _ => ⟨M.length - (i + 1), by omega, i + 1, K, H, hwu, by omega, rfl, rfl, rfl, rfl, hK, by omega, hR, rfl, rfl, rfl, rfl⟩⟩
      · have hpos : 0 < K.length := by omega
        have hsb := sum_b K (hK) (by have := hKl; simp; omega)
        have hE' : endA K = ((1, (sumN K).tdiv ((K).length : Int), []), 0) := by
          unfold endA
          rw [if_neg (List.length_pos_iff.1 hpos)]
        rw [hE'] at hE
        have hl9 : (K).length ≤ 1048576 := by have := hKl; simp; omega
        refine ⟨fun hneg => ?_, fun hneg => ?_⟩
        · obtain ⟨_, _, _, _, _, _, s1, s2, s3, s4⟩ := avg_neg (sumN K) (K).length hsb.1 (by omega) hpos hl9
          refine ⟨_, _, s1, _, _, s2, _, _, s3, fun _ => ⟨1, _, bs [], c_vNum _, 1, _, bs [], 0, hE, fun hc => ?_, fun _ => ⟨M.length - (i + 1), by omega, i + 1, K, H, hwu, by omega, rfl, rfl, rfl, rfl, hK, by omega, hR, rfl, rfl, rfl, rfl⟩⟩, fun h => absurd hneg h⟩
          rw [s4] at hc
          exact absurd hc cmp_ok
        · obtain ⟨_, _, s1, s2⟩ := avg_pos (sumN K) (K).length hsb.2 (by omega) hpos hl9
          refine ⟨_, _, s1, fun h => absurd h hneg, fun _ => ⟨1, _, bs [], c_vNum _, 1, _, bs [], 0, hE, fun hc => ?_, fun _ => ⟨M.length - (i + 1), by omega, i + 1, K, H, hwu, by omega, rfl, rfl, rfl, rfl, hK, by omega, hR, rfl, rfl, rfl, rfl⟩⟩⟩
          rw [s2] at hc
          exact absurd hc cmp_ok
    refine ⟨fun h3 => ?_, fun h3 => ?_⟩
    · have hup := addL_num (d := true) (K := K) h1 h2 h3
      have hadd : FnC Try.prog 13 [aD oAvg true K, vD v] (.tup [aD oAvg true K, iD 11]) := by
        have := c_rAdd oAvg true true K v (by decide) hK hv.1 (by omega)
        rwa [hup] at this
      refine ⟨hix, vc_sz M, hkk, oAvg, true, vc K, 11, hadd, ?_⟩
      have hE := c_rEndA true (K) (hK) (by have := hKl; simp; omega)
      refine ⟨fun h0 => ?_, fun h0 => ?_⟩
      · have hK0 : K = [] := List.length_eq_zero_iff.1 (by omega)
        have hE' : endA K = (nul, 0) := by
          unfold endA
          rw [if_pos hK0]
        rw [hE'] at hE
        exact ⟨0, 0, bs [], 0, hE, fun hc => absurd hc cmp_ok, fun _ => ⟨M.length - (i + 1), by omega, i + 1, K, H, hwu, by omega, rfl, rfl, rfl, rfl, hK, by omega, hR, rfl, rfl, rfl, rfl⟩⟩
      · have hpos : 0 < K.length := by omega
        have hsb := sum_b K (hK) (by have := hKl; simp; omega)
        have hE' : endA K = ((1, (sumN K).tdiv ((K).length : Int), []), 0) := by
          unfold endA
          rw [if_neg (List.length_pos_iff.1 hpos)]
        rw [hE'] at hE
        have hl9 : (K).length ≤ 1048576 := by have := hKl; simp; omega
        refine ⟨fun hneg => ?_, fun hneg => ?_⟩
        · obtain ⟨_, _, _, _, _, _, s1, s2, s3, s4⟩ := avg_neg (sumN K) (K).length hsb.1 (by omega) hpos hl9
          refine ⟨_, _, s1, _, _, s2, _, _, s3, fun _ => ⟨1, _, bs [], c_vNum _, 1, _, bs [], 0, hE, fun hc => ?_, fun _ => ⟨M.length - (i + 1), by omega, i + 1, K, H, hwu, by omega, rfl, rfl, rfl, rfl, hK, by omega, hR, rfl, rfl, rfl, rfl⟩⟩, fun h => absurd hneg h⟩
          rw [s4] at hc
          exact absurd hc cmp_ok
        · obtain ⟨_, _, s1, s2⟩ := avg_pos (sumN K) (K).length hsb.2 (by omega) hpos hl9
          refine ⟨_, _, s1, fun h => absurd h hneg, fun _ => ⟨1, _, bs [], c_vNum _, 1, _, bs [], 0, hE, fun hc => ?_, fun _ => ⟨M.length - (i + 1), by omega, i + 1, K, H, hwu, by omega, rfl, rfl, rfl, rfl, hK, by omega, hR, rfl, rfl, rfl, rfl⟩⟩⟩
          rw [s2] at hc
          exact absurd hc cmp_ok
    have h3' : ¬ (true = true ∧ v.1 ≠ 1) := fun h => h.2 (Classical.not_not.1 h3)
    obtain ⟨j, hj, p2, p3, hp⟩ := c_place H v hR.2.2 hv.1 (by have := hR.2.1; omega) (hR.1 rfl).1
    refine ⟨(j : Int), _, hp, fun hf => ?_, fun hf => ?_⟩
    · have hup := addL_dup (num := true) h1 h2 h3' (by rw [← (hR.1 rfl).2 v]; exact (found_iff (hR.1 rfl).1 p2 p3).1 (of_decide_eq_true hf))
      have hadd : FnC Try.prog 13 [aD oAvg true K, vD v] (.tup [aD oAvg true K, iD 0]) := by
        have := c_rAdd oAvg true true K v (by decide) hK hv.1 (by omega)
        rwa [hup] at this
      refine ⟨hix, vc_sz M, hkk, oAvg, true, vc K, 0, hadd, ?_⟩
      have hE := c_rEndA true (K) (hK) (by have := hKl; simp; omega)
      refine ⟨fun h0 => ?_, fun h0 => ?_⟩
      · have hK0 : K = [] := List.length_eq_zero_iff.1 (by omega)
        have hE' : endA K = (nul, 0) := by
          unfold endA
          rw [if_pos hK0]
        rw [hE'] at hE
        exact ⟨0, 0, bs [], 0, hE, fun hc => absurd hc cmp_ok, fun _ => ⟨M.length - (i + 1), by omega, i + 1, K, H, hwu, by omega, rfl, rfl, rfl, rfl, hK, by omega, hR, rfl, rfl, rfl, rfl⟩⟩
      · have hpos : 0 < K.length := by omega
        have hsb := sum_b K (hK) (by have := hKl; simp; omega)
        have hE' : endA K = ((1, (sumN K).tdiv ((K).length : Int), []), 0) := by
          unfold endA
          rw [if_neg (List.length_pos_iff.1 hpos)]
        rw [hE'] at hE
        have hl9 : (K).length ≤ 1048576 := by have := hKl; simp; omega
        refine ⟨fun hneg => ?_, fun hneg => ?_⟩
        · obtain ⟨_, _, _, _, _, _, s1, s2, s3, s4⟩ := avg_neg (sumN K) (K).length hsb.1 (by omega) hpos hl9
          refine ⟨_, _, s1, _, _, s2, _, _, s3, fun _ => ⟨1, _, bs [], c_vNum _, 1, _, bs [], 0, hE, fun hc => ?_, fun _ => ⟨M.length - (i + 1), by omega, i + 1, K, H, hwu, by omega, rfl, rfl, rfl, rfl, hK, by omega, hR, rfl, rfl, rfl, rfl⟩⟩, fun h => absurd hneg h⟩
          rw [s4] at hc
          exact absurd hc cmp_ok
        · obtain ⟨_, _, s1, s2⟩ := avg_pos (sumN K) (K).length hsb.2 (by omega) hpos hl9
          refine ⟨_, _, s1, fun h => absurd h hneg, fun _ => ⟨1, _, bs [], c_vNum _, 1, _, bs [], 0, hE, fun hc => ?_, fun _ => ⟨M.length - (i + 1), by omega, i + 1, K, H, hwu, by omega, rfl, rfl, rfl, rfl, hK, by omega, hR, rfl, rfl, rfl, rfl⟩⟩⟩
          rw [s2] at hc
          exact absurd hc cmp_ok
    · have hne : ¬ (j < H.length ∧ cmpV (H.getD j nul) v 0 = 0) := fun h => hf (decide_eq_true h)
      have hup := addL_putT (num := true) h1 h2 h3' (by rw [← (hR.1 rfl).2 v]; exact fun h => hne ((found_iff (hR.1 rfl).1 p2 p3).2 h))
      rintro _ rfl
      refine ⟨_, m_ins H v j hj (by have := hR.2.1; omega), ?_⟩
      have hR' := relH_ins hR hv hj p2 p3 hne
      generalize H.take j ++ [v] ++ H.drop j = H' at *
      obtain ⟨w1, w2⟩ := add_words (sumN K) v.2.1 hv.2 hb
      refine ⟨_, _, c_Add64 _ _ 0 (Int.emod_nonneg _ (by decide)) (by rw [wrU]; exact Int.emod_nonneg _ (by decide)) (by omega) (by omega), ?_⟩
      rw [w1, w2, ← sumN_snoc]
      rw [show IntKind.wrap .i64 ((K.length : Int) + 1) = (((K ++ [v]).length : Nat) : Int) by rw [wrap_up K.length (by omega)]; simp]
      have hadd : FnC Try.prog 13 [aD oAvg true K, vD v] (.tup [aD oAvg true (K ++ [v]), iD 0]) := by
        have := c_rAdd oAvg true true K v (by decide) hK hv.1 (by omega)
        rwa [hup] at this
      refine ⟨hix, vc_sz M, hkk, oAvg, true, vc (K ++ [v]), 0, hadd, ?_⟩
      have hE := c_rEndA true ((K ++ [v])) (ok_snoc hK hv) (by have := hKl; simp; omega)
      have hpos : 0 < ((K ++ [v])).length := by simp
      refine ⟨fun h0 => absurd h0 (by omega), fun _ => ?_⟩
      have hsb := sum_b (K ++ [v]) (ok_snoc hK hv) (by have := hKl; simp; omega)
      have hE' : endA (K ++ [v]) = ((1, (sumN (K ++ [v])).tdiv (((K ++ [v])).length : Int), []), 0) := by
        unfold endA
        rw [if_neg (List.length_pos_iff.1 hpos)]
      rw [hE'] at hE
      have hl9 : ((K ++ [v])).length ≤ 1048576 := by have := hKl; simp; omega
      refine ⟨fun hneg => ?_, fun hneg => ?_⟩
      · obtain ⟨_, _, _, _, _, _, s1, s2, s3, s4⟩ := avg_neg (sumN (K ++ [v])) ((K ++ [v])).length hsb.1 (by omega) hpos hl9
        refine ⟨_, _, s1, _, _, s2, _, _, s3, fun _ => ⟨1, _, bs [], c_vNum _, 1, _, bs [], 0, hE, fun hc => ?_, fun _ => ⟨M.length - (i + 1), by omega, i + 1, (K ++ [v]), H', hwu, by omega, rfl, rfl, rfl, rfl, ok_snoc hK hv, by simp; omega, hR', rfl, rfl, rfl, rfl⟩⟩, fun h => absurd hneg h⟩
        rw [s4] at hc
        exact absurd hc cmp_ok
      · obtain ⟨_, _, s1, s2⟩ := avg_pos (sumN (K ++ [v])) ((K ++ [v])).length hsb.2 (by omega) hpos hl9
        refine ⟨_, _, s1, fun h => absurd h hneg, fun _ => ⟨1, _, bs [], c_vNum _, 1, _, bs [], 0, hE, fun hc => ?_, fun _ => ⟨M.length - (i + 1), by omega, i + 1, (K ++ [v]), H', hwu, by omega, rfl, rfl, rfl, rfl, ok_snoc hK hv, by simp; omega, hR', rfl, rfl, rfl, rfl⟩⟩⟩
        rw [s2] at hc
        exact absurd hc cmp_ok
end Go.Proofs.Yteljlbgjpnfdjaa
namespace Go.Proofs.Yteljlbgjpnfdjaa
open Go.RowKit Go.IntWalk
set_option linter.unusedSimpArgs false
set_option linter.unusedVariables false

set_option maxHeartbeats 4000000 in
theorem play_min (d : Bool) (l : List V3) (hl : ∀ v ∈ l, OKv v) : FnC Try.prog 3 [ND oMin, bD d, .c (.vs (vc l))] (bD true) := by
  refine w3_min d (vc l) ⟨fun h => ⟨⟨by omega, by omega, by omega⟩, vc_sz l, ?_⟩, fun h => ?_⟩
  · rw [show ((100 : Int).toNat) = 100 from rfl, vc_take]
    have hM : ∀ v ∈ l.take 100, OKv v := fun v hv => hl v (List.mem_of_mem_take hv)
    have hn : (l.take 100).length ≤ 100 := by rw [List.length_take]; omega
    generalize l.take 100 = M at *
    clear h hl
    refine ⟨_, _, _, _, c_rNew oMin d (by unfold IsOp; decide), knownB oMin M.length, fun _ => by rw [vc_len]; exact c_Known oMin _ (by unfold IsOp; decide), knownB oMin M.length, fun _ => by rw [vc_len]; exact c_rKnown oMin _ (by unfold IsOp; decide), knownB oMin 1, fun _ => c_Known oMin 1 (by unfold IsOp; decide), knownB oMin 1, fun _ => c_rKnown oMin 1 (by unfold IsOp; decide), fun hc => absurd hc (by simp), fun _ => ?_⟩
    refine ⟨_, _, _, _, c_Of_min d M hM (by omega), _, _, _, _, c_rOf oMin d false (endB false) M (by unfold IsOp; decide) (by decide) hM (by omega) (fun K h1 h2 => c_rEndB false d K h1 h2), fun hc => absurd hc (by simp), fun _ => ?_⟩
    refine ⟨fun a1 a2 a3 a4 a5 a6 a7 a8 a9 x3 a b c s xh k => ∃ (i : Nat) (K H : List V3), x3 = (i : Int) ∧ i ≤ M.length ∧ k = M.length - i ∧ a1 = oMin ∧ d = a2 ∧ a3 = vc K ∧ (∀ v ∈ K, OKv v) ∧ K.length ≤ i ∧ RelH d K H ∧ xh = vc H ∧ a = (bestL false K).1 ∧ b = (bestL false K).2.1 ∧ c = bs (bestL false K).2.2 ∧ s = !K.isEmpty, ⟨M.length, 0, [], [], rfl, by omega, rfl, rfl, rfl, rfl, (fun v h => by simp at h), by simp, relH_nil d, rfl, rfl, rfl, rfl, rfl⟩, ?_⟩
    rintro k _ _ _ _ _ _ _ _ _ _ _ _ _ _ _ ⟨i, K, H, rfl, hi, rfl, rfl, rfl, rfl, hK, hKl, hR, rfl, rfl, rfl, rfl, rfl⟩
    refine ⟨fun hlt => ?_, fun _ => ⟨true, c_live, rfl⟩⟩
    have hil : i < M.length := by
      rcases hlt with h | h
      · rw [vc_len] at h; omega
      · cases h
    obtain ⟨e0, e1, e2⟩ := cells_v M i hil
    have hv := okv_at hM i
    have hwu := wrap_up i (by omega)
    have hix : 0 ≤ (i : Int) ∧ (i : Int) < ((vc M).length : Int) := ⟨by omega, by rw [vc_len]; omega⟩
    have hkk := vc_k M (i : Int) (by omega) (by omega)
    simp only [e0, e1, e2]
    clear e0 e1 e2 hlt
    generalize M.getD i nul = v at *
    refine ⟨hix, vc_sz M, hkk, checkV v, c_vCheck v, fun h1 => ?_, fun h1 => ⟨fun h2 => ?_, fun h2 => ?_⟩⟩
    · have hup := addL_bad (num := false) (d := d) (K := K) h1
      have hadd : FnC Try.prog 13 [aD oMin d K, vD v] (.tup [aD oMin d K, iD (checkV v)]) := by
        have := c_rAdd oMin d false K v (by decide) hK hv.1 (by omega)
        rwa [hup] at this
      refine ⟨hix, vc_sz M, hkk, oMin, d, vc K, (checkV v), hadd, ?_⟩
      exact ⟨_, _, _, _, c_rEndB false d (K) (hK) (by have := hKl; simp; omega), fun hc => absurd hc cmp_ok, fun _ => ⟨M.length - (i + 1), by omega, i + 1, K, H, hwu, by omega, rfl, rfl, rfl, rfl, hK, by omega, hR, rfl, rfl, rfl, rfl, rfl⟩⟩
    · have hup := addL_nul (num := false) (d := d) (K := K) h1 h2
      have hadd : FnC Try.prog 13 [aD oMin d K, vD v] (.tup [aD oMin d K, iD 0]) := by
        have := c_rAdd oMin d false K v (by decide) hK hv.1 (by omega)
        rwa [hup] at this
      refine ⟨hix, vc_sz M, hkk, oMin, d, vc K, 0, hadd, ?_⟩
      exact ⟨_, _, _, _, c_rEndB false d (K) (hK) (by have := hKl; simp; omega), fun hc => absurd hc cmp_ok, fun _ => ⟨M.length - (i + 1), by omega, i + 1, K, H, hwu, by omega, rfl, rfl, rfl, rfl, hK, by omega, hR, rfl, rfl, rfl, rfl, rfl⟩⟩
    have h3' : ¬ (false = true ∧ v.1 ≠ 1) := fun h => by cases h.1
    refine ⟨fun _ => ?_, fun _ => ?_⟩
    all_goals
      refine ⟨fun hd => ?_, fun hd => ?_⟩
      · subst hd
        obtain ⟨j, hj, p2, p3, hp⟩ := c_place H v hR.2.2 hv.1 (by have := hR.2.1; omega) (hR.1 rfl).1
        refine ⟨(j : Int), _, hp, fun hf => ?_, fun hf => ?_⟩
        · have hup := addL_dup (num := false) h1 h2 h3' (by rw [← (hR.1 rfl).2 v]; exact (found_iff (hR.1 rfl).1 p2 p3).1 (of_decide_eq_true hf))
          have hadd : FnC Try.prog 13 [aD oMin true K, vD v] (.tup [aD oMin true K, iD 0]) := by
            have := c_rAdd oMin true false K v (by decide) hK hv.1 (by omega)
            rwa [hup] at this
          refine ⟨hix, vc_sz M, hkk, oMin, true, vc K, 0, hadd, ?_⟩
          exact ⟨_, _, _, _, c_rEndB false true (K) (hK) (by have := hKl; simp; omega), fun hc => absurd hc cmp_ok, fun _ => ⟨M.length - (i + 1), by omega, i + 1, K, H, hwu, by omega, rfl, rfl, rfl, rfl, hK, by omega, hR, rfl, rfl, rfl, rfl, rfl⟩⟩
        · have hne : ¬ (j < H.length ∧ cmpV (H.getD j nul) v 0 = 0) := fun h => hf (decide_eq_true h)
          have hup := addL_putT (num := false) h1 h2 h3' (by rw [← (hR.1 rfl).2 v]; exact fun h => hne ((found_iff (hR.1 rfl).1 p2 p3).2 h))
          rintro _ rfl
          refine ⟨_, m_ins H v j hj (by have := hR.2.1; omega), ?_⟩
          have hR' := relH_ins hR hv hj p2 p3 hne
          generalize H.take j ++ [v] ++ H.drop j = H' at *
          refine ⟨cmpV v (bestL false K) 0, c_vCompare v (bestL false K) 0 hv.1 (best_sz false K hK), fun hc => ?_, fun hc => ?_⟩
          · have hbp : bestL false (K ++ [v]) = v := by
              rw [best_put, if_pos]
              simpa using hc
            have hadd : FnC Try.prog 13 [aD oMin true K, vD v] (.tup [aD oMin true (K ++ [v]), iD 0]) := by
              have := c_rAdd oMin true false K v (by decide) hK hv.1 (by omega)
              rwa [hup] at this
            refine ⟨hix, vc_sz M, hkk, oMin, true, vc (K ++ [v]), 0, hadd, ?_⟩
            exact ⟨_, _, _, _, c_rEndB false true ((K ++ [v])) (ok_snoc hK hv) (by have := hKl; simp; omega), fun hc => absurd hc (by simp [endB, hbp]), fun _ => ⟨M.length - (i + 1), by omega, i + 1, (K ++ [v]), H', hwu, by omega, rfl, rfl, rfl, rfl, ok_snoc hK hv, by simp; omega, hR', rfl, by rw [hbp], by rw [hbp], by rw [hbp], by simp⟩⟩
          · have hbp : bestL false (K ++ [v]) = bestL false K := by
              rw [best_put, if_neg]
              simpa using hc
            have hK0 : K ≠ [] := by
              intro e
              subst e
              simp at hc
            have hadd : FnC Try.prog 13 [aD oMin true K, vD v] (.tup [aD oMin true (K ++ [v]), iD 0]) := by
              have := c_rAdd oMin true false K v (by decide) hK hv.1 (by omega)
              rwa [hup] at this
            refine ⟨hix, vc_sz M, hkk, oMin, true, vc (K ++ [v]), 0, hadd, ?_⟩
            exact ⟨_, _, _, _, c_rEndB false true ((K ++ [v])) (ok_snoc hK hv) (by have := hKl; simp; omega), fun hc => absurd hc (by simp [endB, hbp]), fun _ => ⟨M.length - (i + 1), by omega, i + 1, (K ++ [v]), H', hwu, by omega, rfl, rfl, rfl, rfl, ok_snoc hK hv, by simp; omega, hR', rfl, by rw [hbp], by rw [hbp], by rw [hbp], some_put hK0⟩⟩
      · have hd : d = false := by simpa using hd
        subst hd
        have hup := addL_putF (num := false) (K := K) (v := v) h1 h2 h3'
        have hR' := relH_put (v := v) hR
        refine ⟨cmpV v (bestL false K) 0, c_vCompare v (bestL false K) 0 hv.1 (best_sz false K hK), fun hc => ?_, fun hc => ?_⟩
        · have hbp : bestL false (K ++ [v]) = v := by
            rw [best_put, if_pos]
            simpa using hc
          have hadd : FnC Try.prog 13 [aD oMin false K, vD v] (.tup [aD oMin false (K ++ [v]), iD 0]) := by
            have := c_rAdd oMin false false K v (by decide) hK hv.1 (by omega)
            rwa [hup] at this
          refine ⟨hix, vc_sz M, hkk, oMin, false, vc (K ++ [v]), 0, hadd, ?_⟩
          exact ⟨_, _, _, _, c_rEndB false false ((K ++ [v])) (ok_snoc hK hv) (by have := hKl; simp; omega), fun hc => absurd hc (by simp [endB, hbp]), fun _ => ⟨M.length - (i + 1), by omega, i + 1, (K ++ [v]), H, hwu, by omega, rfl, rfl, rfl, rfl, ok_snoc hK hv, by simp; omega, hR', rfl, by rw [hbp], by rw [hbp], by rw [hbp], by simp⟩⟩
        · have hbp : bestL false (K ++ [v]) = bestL false K := by
            rw [best_put, if_neg]
            simpa using hc
          have hK0 : K ≠ [] := by
            intro e
            subst e
            simp at hc
          have hadd : FnC Try.prog 13 [aD oMin false K, vD v] (.tup [aD oMin false (K ++ [v]), iD 0]) := by
            have := c_rAdd oMin false false K v (by decide) hK hv.1 (by omega)
            rwa [hup] at this
          refine ⟨hix, vc_sz M, hkk, oMin, false, vc (K ++ [v]), 0, hadd, ?_⟩
          exact ⟨_, _, _, _, c_rEndB false false ((K ++ [v])) (ok_snoc hK hv) (by have := hKl; simp; omega), fun hc => absurd hc (by simp [endB, hbp]), fun _ => ⟨M.length - (i + 1), by omega, i + 1, (K ++ [v]), H, hwu, by omega, rfl, rfl, rfl, rfl, ok_snoc hK hv, by simp; omega, hR', rfl, by rw [hbp], by rw [hbp], by rw [hbp], some_put hK0⟩⟩
  · have hn : l.length ≤ 100 := by rw [vc_len] at h; omega
    have hM := hl
    generalize l = M at *
    clear h hl
    refine ⟨_, _, _, _, c_rNew oMin d (by unfold IsOp; decide), knownB oMin M.length, fun _ => by rw [vc_len]; exact c_Known oMin _ (by unfold IsOp; decide), knownB oMin M.length, fun _ => by rw [vc_len]; exact c_rKnown oMin _ (by unfold IsOp; decide), knownB oMin 1, fun _ => c_Known oMin 1 (by unfold IsOp; decide), knownB oMin 1, fun _ => c_rKnown oMin 1 (by unfold IsOp; decide), fun hc => absurd hc (by simp), fun _ => ?_⟩
    refine ⟨_, _, _, _, c_Of_min d M hM (by omega), _, _, _, _, c_rOf oMin d false (endB false) M (by unfold IsOp; decide) (by decide) hM (by omega) (fun K h1 h2 => c_rEndB false d K h1 h2), fun hc => absurd hc (by simp), fun _ => ?_⟩
    refine ⟨fun a1 a2 a3 a4 a5 a6 a7 a8 a9 x3 a b c s xh k => ∃ (i : Nat) (K H : List V3), x3 = (i : Int) ∧ i ≤ M.length ∧ k = M.length - i ∧ a1 = oMin ∧ d = a2 ∧ a3 = vc K ∧ (∀ v ∈ K, OKv v) ∧ K.length ≤ i ∧ RelH d K H ∧ xh = vc H ∧ a = (bestL false K).1 ∧ b = (bestL false K).2.1 ∧ c = bs (bestL false K).2.2 ∧ s = !K.isEmpty, ⟨M.length, 0, [], [], rfl, by omega, rfl, rfl, rfl, rfl, (fun v h => by simp at h), by simp, relH_nil d, rfl, rfl, rfl, rfl, rfl⟩, ?_⟩
    rintro k _ _ _ _ _ _ _ _ _ _ _ _ _ _ _ ⟨i, K, H, rfl, hi, rfl, rfl, rfl, rfl, hK, hKl, hR, rfl, rfl, rfl, rfl, rfl⟩
    refine ⟨fun hlt => ?_, fun _ => ⟨true, c_live, rfl⟩⟩
    have hil : i < M.length := by
      rcases hlt with h | h
      · rw [vc_len] at h; omega
      · cases h
    obtain ⟨e0, e1, e2⟩ := cells_v M i hil
    have hv := okv_at hM i
    have hwu := wrap_up i (by omega)
    have hix : 0 ≤ (i : Int) ∧ (i : Int) < ((vc M).length : Int) := ⟨by omega, by rw [vc_len]; omega⟩
    have hkk := vc_k M (i : Int) (by omega) (by omega)
    simp only [e0, e1, e2]
    clear e0 e1 e2 hlt
    generalize M.getD i nul = v at *
    refine ⟨hix, vc_sz M, hkk, checkV v, c_vCheck v, fun h1 => ?_, fun h1 => ⟨fun h2 => ?_, fun h2 => ?_⟩⟩
    · have hup := addL_bad (num := false) (d := d) (K := K) h1
      have hadd : FnC Try.prog 13 [aD oMin d K, vD v] (.tup [aD oMin d K, iD (checkV v)]) := by
        have := c_rAdd oMin d false K v (by decide) hK hv.1 (by omega)
        rwa [hup] at this
      refine ⟨hix, vc_sz M, hkk, oMin, d, vc K, (checkV v), hadd, ?_⟩
      exact ⟨_, _, _, _, c_rEndB false d (K) (hK) (by have := hKl; simp; omega), fun hc => absurd hc cmp_ok, fun _ => ⟨M.length - (i + 1), by omega, i + 1, K, H, hwu, by omega, rfl, rfl, rfl, rfl, hK, by omega, hR, rfl, rfl, rfl, rfl, rfl⟩⟩
    · have hup := addL_nul (num := false) (d := d) (K := K) h1 h2
      have hadd : FnC Try.prog 13 [aD oMin d K, vD v] (.tup [aD oMin d K, iD 0]) := by
        have := c_rAdd oMin d false K v (by decide) hK hv.1 (by omega)
        rwa [hup] at this
      refine ⟨hix, vc_sz M, hkk, oMin, d, vc K, 0, hadd, ?_⟩
      exact ⟨_, _, _, _, c_rEndB false d (K) (hK) (by have := hKl; simp; omega), fun hc => absurd hc cmp_ok, fun _ => ⟨M.length - (i + 1), by omega, i + 1, K, H, hwu, by omega, rfl, rfl, rfl, rfl, hK, by omega, hR, rfl, rfl, rfl, rfl, rfl⟩⟩
    have h3' : ¬ (false = true ∧ v.1 ≠ 1) := fun h => by cases h.1
    refine ⟨fun _ => ?_, fun _ => ?_⟩
    all_goals
      refine ⟨fun hd => ?_, fun hd => ?_⟩
      · subst hd
        obtain ⟨j, hj, p2, p3, hp⟩ := c_place H v hR.2.2 hv.1 (by have := hR.2.1; omega) (hR.1 rfl).1
        refine ⟨(j : Int), _, hp, fun hf => ?_, fun hf => ?_⟩
        · have hup := addL_dup (num := false) h1 h2 h3' (by rw [← (hR.1 rfl).2 v]; exact (found_iff (hR.1 rfl).1 p2 p3).1 (of_decide_eq_true hf))
          have hadd : FnC Try.prog 13 [aD oMin true K, vD v] (.tup [aD oMin true K, iD 0]) := by
            have := c_rAdd oMin true false K v (by decide) hK hv.1 (by omega)
            rwa [hup] at this
          refine ⟨hix, vc_sz M, hkk, oMin, true, vc K, 0, hadd, ?_⟩
          exact ⟨_, _, _, _, c_rEndB false true (K) (hK) (by have := hKl; simp; omega), fun hc => absurd hc cmp_ok, fun _ => ⟨M.length - (i + 1), by omega, i + 1, K, H, hwu, by omega, rfl, rfl, rfl, rfl, hK, by omega, hR, rfl, rfl, rfl, rfl, rfl⟩⟩
        · have hne : ¬ (j < H.length ∧ cmpV (H.getD j nul) v 0 = 0) := fun h => hf (decide_eq_true h)
          have hup := addL_putT (num := false) h1 h2 h3' (by rw [← (hR.1 rfl).2 v]; exact fun h => hne ((found_iff (hR.1 rfl).1 p2 p3).2 h))
          rintro _ rfl
          refine ⟨_, m_ins H v j hj (by have := hR.2.1; omega), ?_⟩
          have hR' := relH_ins hR hv hj p2 p3 hne
          generalize H.take j ++ [v] ++ H.drop j = H' at *
          refine ⟨cmpV v (bestL false K) 0, c_vCompare v (bestL false K) 0 hv.1 (best_sz false K hK), fun hc => ?_, fun hc => ?_⟩
          · have hbp : bestL false (K ++ [v]) = v := by
              rw [best_put, if_pos]
              simpa using hc
            have hadd : FnC Try.prog 13 [aD oMin true K, vD v] (.tup [aD oMin true (K ++ [v]), iD 0]) := by
              have := c_rAdd oMin true false K v (by decide) hK hv.1 (by omega)
              rwa [hup] at this
            refine ⟨hix, vc_sz M, hkk, oMin, true, vc (K ++ [v]), 0, hadd, ?_⟩
            exact ⟨_, _, _, _, c_rEndB false true ((K ++ [v])) (ok_snoc hK hv) (by have := hKl; simp; omega), fun hc => absurd hc (by simp [endB, hbp]), fun _ => ⟨M.length - (i + 1), by omega, i + 1, (K ++ [v]), H', hwu, by omega, rfl, rfl, rfl, rfl, ok_snoc hK hv, by simp; omega, hR', rfl, by rw [hbp], by rw [hbp], by rw [hbp], by simp⟩⟩
          · have hbp : bestL false (K ++ [v]) = bestL false K := by
              rw [best_put, if_neg]
              simpa using hc
            have hK0 : K ≠ [] := by
              intro e
              subst e
              simp at hc
            have hadd : FnC Try.prog 13 [aD oMin true K, vD v] (.tup [aD oMin true (K ++ [v]), iD 0]) := by
              have := c_rAdd oMin true false K v (by decide) hK hv.1 (by omega)
              rwa [hup] at this
            refine ⟨hix, vc_sz M, hkk, oMin, true, vc (K ++ [v]), 0, hadd, ?_⟩
            exact ⟨_, _, _, _, c_rEndB false true ((K ++ [v])) (ok_snoc hK hv) (by have := hKl; simp; omega), fun hc => absurd hc (by simp [endB, hbp]), fun _ => ⟨M.length - (i + 1), by omega, i + 1, (K ++ [v]), H', hwu, by omega, rfl, rfl, rfl, rfl, ok_snoc hK hv, by simp; omega, hR', rfl, by rw [hbp], by rw [hbp], by rw [hbp], some_put hK0⟩⟩
      · have hd : d = false := by simpa using hd
        subst hd
        have hup := addL_putF (num := false) (K := K) (v := v) h1 h2 h3'
        have hR' := relH_put (v := v) hR
        refine ⟨cmpV v (bestL false K) 0, c_vCompare v (bestL false K) 0 hv.1 (best_sz false K hK), fun hc => ?_, fun hc => ?_⟩
        · have hbp : bestL false (K ++ [v]) = v := by
            rw [best_put, if_pos]
            simpa using hc
          have hadd : FnC Try.prog 13 [aD oMin false K, vD v] (.tup [aD oMin false (K ++ [v]), iD 0]) := by
            have := c_rAdd oMin false false K v (by decide) hK hv.1 (by omega)
            rwa [hup] at this
          refine ⟨hix, vc_sz M, hkk, oMin, false, vc (K ++ [v]), 0, hadd, ?_⟩
          exact ⟨_, _, _, _, c_rEndB false false ((K ++ [v])) (ok_snoc hK hv) (by have := hKl; simp; omega), fun hc => absurd hc (by simp [endB, hbp]), fun _ => ⟨M.length - (i + 1), by omega, i + 1, (K ++ [v]), H, hwu, by omega, rfl, rfl, rfl, rfl, ok_snoc hK hv, by simp; omega, hR', rfl, by rw [hbp], by rw [hbp], by rw [hbp], by simp⟩⟩
        · have hbp : bestL false (K ++ [v]) = bestL false K := by
            rw [best_put, if_neg]
            simpa using hc
          have hK0 : K ≠ [] := by
            intro e
            subst e
            simp at hc
          have hadd : FnC Try.prog 13 [aD oMin false K, vD v] (.tup [aD oMin false (K ++ [v]), iD 0]) := by
            have := c_rAdd oMin false false K v (by decide) hK hv.1 (by omega)
            rwa [hup] at this
          refine ⟨hix, vc_sz M, hkk, oMin, false, vc (K ++ [v]), 0, hadd, ?_⟩
          exact ⟨_, _, _, _, c_rEndB false false ((K ++ [v])) (ok_snoc hK hv) (by have := hKl; simp; omega), fun hc => absurd hc (by simp [endB, hbp]), fun _ => ⟨M.length - (i + 1), by omega, i + 1, (K ++ [v]), H, hwu, by omega, rfl, rfl, rfl, rfl, ok_snoc hK hv, by simp; omega, hR', rfl, by rw [hbp], by rw [hbp], by rw [hbp], some_put hK0⟩⟩
end Go.Proofs.Yteljlbgjpnfdjaa
namespace Go.Proofs.Yteljlbgjpnfdjaa
open Go.RowKit Go.IntWalk
set_option linter.unusedSimpArgs false
set_option linter.unusedVariables false

set_option maxHeartbeats 4000000 in
theorem play_max (d : Bool) (l : List V3) (hl : ∀ v ∈ l, OKv v) : FnC Try.prog 3 [ND oMax, bD d, .c (.vs (vc l))] (bD true) := by
  refine w3_max d (vc l) ⟨fun h => ⟨⟨by omega, by omega, by omega⟩, vc_sz l, ?_⟩, fun h => ?_⟩
  · rw [show ((100 : Int).toNat) = 100 from rfl, vc_take]
    have hM : ∀ v ∈ l.take 100, OKv v := fun v hv => hl v (List.mem_of_mem_take hv)
    have hn : (l.take 100).length ≤ 100 := by rw [List.length_take]; omega
    generalize l.take 100 = M at *
    clear h hl
    refine ⟨_, _, _, _, c_rNew oMax d (by unfold IsOp; decide), knownB oMax M.length, fun _ => by rw [vc_len]; exact c_Known oMax _ (by unfold IsOp; decide), knownB oMax M.length, fun _ => by rw [vc_len]; exact c_rKnown oMax _ (by unfold IsOp; decide), knownB oMax 1, fun _ => c_Known oMax 1 (by unfold IsOp; decide), knownB oMax 1, fun _ => c_rKnown oMax 1 (by unfold IsOp; decide), fun hc => absurd hc (by simp), fun _ => ?_⟩
    refine ⟨_, _, _, _, c_Of_max d M hM (by omega), _, _, _, _, c_rOf oMax d false (endB true) M (by unfold IsOp; decide) (by decide) hM (by omega) (fun K h1 h2 => c_rEndB true d K h1 h2), fun hc => absurd hc (by simp), fun _ => ?_⟩
    refine ⟨fun a1 a2 a3 a4 a5 a6 a7 a8 a9 x3 a b c s xh k => ∃ (i : Nat) (K H : List V3), x3 = (i : Int) ∧ i ≤ M.length ∧ k = M.length - i ∧ a1 = oMax ∧ d = a2 ∧ a3 = vc K ∧ (∀ v ∈ K, OKv v) ∧ K.length ≤ i ∧ RelH d K H ∧ xh = vc H ∧ a = (bestL true K).1 ∧ b = (bestL true K).2.1 ∧ c = bs (bestL true K).2.2 ∧ s = !K.isEmpty, ⟨M.length, 0, [], [], rfl, by omega, rfl, rfl, rfl, rfl, (fun v h => by simp at h), by simp, relH_nil d, rfl, rfl, rfl, rfl, rfl⟩, ?_⟩
    rintro k _ _ _ _ _ _ _ _ _ _ _ _ _ _ _ ⟨i, K, H, rfl, hi, rfl, rfl, rfl, rfl, hK, hKl, hR, rfl, rfl, rfl, rfl, rfl⟩
    refine ⟨fun hlt => ?_, fun _ => ⟨true, c_live, rfl⟩⟩
    have hil : i < M.length := by
      rcases hlt with h | h
      · rw [vc_len] at h; omega
      · cases h
    obtain ⟨e0, e1, e2⟩ := cells_v M i hil
    have hv := okv_at hM i
    have hwu := wrap_up i (by omega)
    have hix : 0 ≤ (i : Int) ∧ (i : Int) < ((vc M).length : Int) := ⟨by omega, by rw [vc_len]; omega⟩
    have hkk := vc_k M (i : Int) (by omega) (by omega)
    simp only [e0, e1, e2]
    clear e0 e1 e2 hlt
    generalize M.getD i nul = v at *
    refine ⟨hix, vc_sz M, hkk, checkV v, c_vCheck v, fun h1 => ?_, fun h1 => ⟨fun h2 => ?_, fun h2 => ?_⟩⟩
    · have hup := addL_bad (num := false) (d := d) (K := K) h1
      have hadd : FnC Try.prog 13 [aD oMax d K, vD v] (.tup [aD oMax d K, iD (checkV v)]) := by
        have := c_rAdd oMax d false K v (by decide) hK hv.1 (by omega)
        rwa [hup] at this
      refine ⟨hix, vc_sz M, hkk, oMax, d, vc K, (checkV v), hadd, ?_⟩
      exact ⟨_, _, _, _, c_rEndB true d (K) (hK) (by have := hKl; simp; omega), fun hc => absurd hc cmp_ok, fun _ => ⟨M.length - (i + 1), by omega, i + 1, K, H, hwu, by omega, rfl, rfl, rfl, rfl, hK, by omega, hR, rfl, rfl, rfl, rfl, rfl⟩⟩
    · have hup := addL_nul (num := false) (d := d) (K := K) h1 h2
      have hadd : FnC Try.prog 13 [aD oMax d K, vD v] (.tup [aD oMax d K, iD 0]) := by
        have := c_rAdd oMax d false K v (by decide) hK hv.1 (by omega)
        rwa [hup] at this
      refine ⟨hix, vc_sz M, hkk, oMax, d, vc K, 0, hadd, ?_⟩
      exact ⟨_, _, _, _, c_rEndB true d (K) (hK) (by have := hKl; simp; omega), fun hc => absurd hc cmp_ok, fun _ => ⟨M.length - (i + 1), by omega, i + 1, K, H, hwu, by omega, rfl, rfl, rfl, rfl, hK, by omega, hR, rfl, rfl, rfl, rfl, rfl⟩⟩
    have h3' : ¬ (false = true ∧ v.1 ≠ 1) := fun h => by cases h.1
    refine ⟨fun _ => ?_, fun _ => ?_⟩
    all_goals
      refine ⟨fun hd => ?_, fun hd => ?_⟩
      · subst hd
        obtain ⟨j, hj, p2, p3, hp⟩ := c_place H v hR.2.2 hv.1 (by have := hR.2.1; omega) (hR.1 rfl).1
        refine ⟨(j : Int), _, hp, fun hf => ?_, fun hf => ?_⟩
        · have hup := addL_dup (num := false) h1 h2 h3' (by rw [← (hR.1 rfl).2 v]; exact (found_iff (hR.1 rfl).1 p2 p3).1 (of_decide_eq_true hf))
          have hadd : FnC Try.prog 13 [aD oMax true K, vD v] (.tup [aD oMax true K, iD 0]) := by
            have := c_rAdd oMax true false K v (by decide) hK hv.1 (by omega)
            rwa [hup] at this
          refine ⟨hix, vc_sz M, hkk, oMax, true, vc K, 0, hadd, ?_⟩
          exact ⟨_, _, _, _, c_rEndB true true (K) (hK) (by have := hKl; simp; omega), fun hc => absurd hc cmp_ok, fun _ => ⟨M.length - (i + 1), by omega, i + 1, K, H, hwu, by omega, rfl, rfl, rfl, rfl, hK, by omega, hR, rfl, rfl, rfl, rfl, rfl⟩⟩
        · have hne : ¬ (j < H.length ∧ cmpV (H.getD j nul) v 0 = 0) := fun h => hf (decide_eq_true h)
          have hup := addL_putT (num := false) h1 h2 h3' (by rw [← (hR.1 rfl).2 v]; exact fun h => hne ((found_iff (hR.1 rfl).1 p2 p3).2 h))
          rintro _ rfl
          refine ⟨_, m_ins H v j hj (by have := hR.2.1; omega), ?_⟩
          have hR' := relH_ins hR hv hj p2 p3 hne
          generalize H.take j ++ [v] ++ H.drop j = H' at *
          refine ⟨cmpV v (bestL true K) 0, c_vCompare v (bestL true K) 0 hv.1 (best_sz true K hK), fun hc => ?_, fun hc => ?_⟩
          · have hbp : bestL true (K ++ [v]) = v := by
              rw [best_put, if_pos]
              simpa using hc
            have hadd : FnC Try.prog 13 [aD oMax true K, vD v] (.tup [aD oMax true (K ++ [v]), iD 0]) := by
              have := c_rAdd oMax true false K v (by decide) hK hv.1 (by omega)
              rwa [hup] at this
            refine ⟨hix, vc_sz M, hkk, oMax, true, vc (K ++ [v]), 0, hadd, ?_⟩
            exact ⟨_, _, _, _, c_rEndB true true ((K ++ [v])) (ok_snoc hK hv) (by have := hKl; simp; omega), fun hc => absurd hc (by simp [endB, hbp]), fun _ => ⟨M.length - (i + 1), by omega, i + 1, (K ++ [v]), H', hwu, by omega, rfl, rfl, rfl, rfl, ok_snoc hK hv, by simp; omega, hR', rfl, by rw [hbp], by rw [hbp], by rw [hbp], by simp⟩⟩
          · have hbp : bestL true (K ++ [v]) = bestL true K := by
              rw [best_put, if_neg]
              simpa using hc
            have hK0 : K ≠ [] := by
              intro e
              subst e
              simp at hc
            have hadd : FnC Try.prog 13 [aD oMax true K, vD v] (.tup [aD oMax true (K ++ [v]), iD 0]) := by
              have := c_rAdd oMax true false K v (by decide) hK hv.1 (by omega)
              rwa [hup] at this
            refine ⟨hix, vc_sz M, hkk, oMax, true, vc (K ++ [v]), 0, hadd, ?_⟩
            exact ⟨_, _, _, _, c_rEndB true true ((K ++ [v])) (ok_snoc hK hv) (by have := hKl; simp; omega), fun hc => absurd hc (by simp [endB, hbp]), fun _ => ⟨M.length - (i + 1), by omega, i + 1, (K ++ [v]), H', hwu, by omega, rfl, rfl, rfl, rfl, ok_snoc hK hv, by simp; omega, hR', rfl, by rw [hbp], by rw [hbp], by rw [hbp], some_put hK0⟩⟩
      · have hd : d = false := by simpa using hd
        subst hd
        have hup := addL_putF (num := false) (K := K) (v := v) h1 h2 h3'
        have hR' := relH_put (v := v) hR
        refine ⟨cmpV v (bestL true K) 0, c_vCompare v (bestL true K) 0 hv.1 (best_sz true K hK), fun hc => ?_, fun hc => ?_⟩
        · have hbp : bestL true (K ++ [v]) = v := by
            rw [best_put, if_pos]
            simpa using hc
          have hadd : FnC Try.prog 13 [aD oMax false K, vD v] (.tup [aD oMax false (K ++ [v]), iD 0]) := by
            have := c_rAdd oMax false false K v (by decide) hK hv.1 (by omega)
            rwa [hup] at this
          refine ⟨hix, vc_sz M, hkk, oMax, false, vc (K ++ [v]), 0, hadd, ?_⟩
          exact ⟨_, _, _, _, c_rEndB true false ((K ++ [v])) (ok_snoc hK hv) (by have := hKl; simp; omega), fun hc => absurd hc (by simp [endB, hbp]), fun _ => ⟨M.length - (i + 1), by omega, i + 1, (K ++ [v]), H, hwu, by omega, rfl, rfl, rfl, rfl, ok_snoc hK hv, by simp; omega, hR', rfl, by rw [hbp], by rw [hbp], by rw [hbp], by simp⟩⟩
        · have hbp : bestL true (K ++ [v]) = bestL true K := by
            rw [best_put, if_neg]
            simpa using hc
          have hK0 : K ≠ [] := by
            intro e
            subst e
            simp at hc
          have hadd : FnC Try.prog 13 [aD oMax false K, vD v] (.tup [aD oMax false (K ++ [v]), iD 0]) := by
            have := c_rAdd oMax false false K v (by decide) hK hv.1 (by omega)
            rwa [hup] at this
          refine ⟨hix, vc_sz M, hkk, oMax, false, vc (K ++ [v]), 0, hadd, ?_⟩
          exact ⟨_, _, _, _, c_rEndB true false ((K ++ [v])) (ok_snoc hK hv) (by have := hKl; simp; omega), fun hc => absurd hc (by simp [endB, hbp]), fun _ => ⟨M.length - (i + 1), by omega, i + 1, (K ++ [v]), H, hwu, by omega, rfl, rfl, rfl, rfl, ok_snoc hK hv, by simp; omega, hR', rfl, by rw [hbp], by rw [hbp], by rw [hbp], some_put hK0⟩⟩
  · have hn : l.length ≤ 100 := by rw [vc_len] at h; omega
    have hM := hl
    generalize l = M at *
    clear h hl
    refine ⟨_, _, _, _, c_rNew oMax d (by unfold IsOp; decide), knownB oMax M.length, fun _ => by rw [vc_len]; exact c_Known oMax _ (by unfold IsOp; decide), knownB oMax M.length, fun _ => by rw [vc_len]; exact c_rKnown oMax _ (by unfold IsOp; decide), knownB oMax 1, fun _ => c_Known oMax 1 (by unfold IsOp; decide), knownB oMax 1, fun _ => c_rKnown oMax 1 (by unfold IsOp; decide), fun hc => absurd hc (by simp), fun _ => ?_⟩
    refine ⟨_, _, _, _, c_Of_max d M hM (by omega), _, _, _, _, c_rOf oMax d false (endB true) M (by unfold IsOp; decide) (by decide) hM (by omega) (fun K h1 h2 => c_rEndB true d K h1 h2), fun hc => absurd hc (by simp), fun _ => ?_⟩
    refine ⟨fun a1 a2 a3 a4 a5 a6 a7 a8 a9 x3 a b c s xh k => ∃ (i : Nat) (K H : List V3), x3 = (i : Int) ∧ i ≤ M.length ∧ k = M.length - i ∧ a1 = oMax ∧ d = a2 ∧ a3 = vc K ∧ (∀ v ∈ K, OKv v) ∧ K.length ≤ i ∧ RelH d K H ∧ xh = vc H ∧ a = (bestL true K).1 ∧ b = (bestL true K).2.1 ∧ c = bs (bestL true K).2.2 ∧ s = !K.isEmpty, ⟨M.length, 0, [], [], rfl, by omega, rfl, rfl, rfl, rfl, (fun v h => by simp at h), by simp, relH_nil d, rfl, rfl, rfl, rfl, rfl⟩, ?_⟩
    rintro k _ _ _ _ _ _ _ _ _ _ _ _ _ _ _ ⟨i, K, H, rfl, hi, rfl, rfl, rfl, rfl, hK, hKl, hR, rfl, rfl, rfl, rfl, rfl⟩
    refine ⟨fun hlt => ?_, fun _ => ⟨true, c_live, rfl⟩⟩
    have hil : i < M.length := by
      rcases hlt with h | h
      · rw [vc_len] at h; omega
      · cases h
    obtain ⟨e0, e1, e2⟩ := cells_v M i hil
    have hv := okv_at hM i
    have hwu := wrap_up i (by omega)
    have hix : 0 ≤ (i : Int) ∧ (i : Int) < ((vc M).length : Int) := ⟨by omega, by rw [vc_len]; omega⟩
    have hkk := vc_k M (i : Int) (by omega) (by omega)
    simp only [e0, e1, e2]
    clear e0 e1 e2 hlt
    generalize M.getD i nul = v at *
    refine ⟨hix, vc_sz M, hkk, checkV v, c_vCheck v, fun h1 => ?_, fun h1 => ⟨fun h2 => ?_, fun h2 => ?_⟩⟩
    · have hup := addL_bad (num := false) (d := d) (K := K) h1
      have hadd : FnC Try.prog 13 [aD oMax d K, vD v] (.tup [aD oMax d K, iD (checkV v)]) := by
        have := c_rAdd oMax d false K v (by decide) hK hv.1 (by omega)
        rwa [hup] at this
      refine ⟨hix, vc_sz M, hkk, oMax, d, vc K, (checkV v), hadd, ?_⟩
      exact ⟨_, _, _, _, c_rEndB true d (K) (hK) (by have := hKl; simp; omega), fun hc => absurd hc cmp_ok, fun _ => ⟨M.length - (i + 1), by omega, i + 1, K, H, hwu, by omega, rfl, rfl, rfl, rfl, hK, by omega, hR, rfl, rfl, rfl, rfl, rfl⟩⟩
    · have hup := addL_nul (num := false) (d := d) (K := K) h1 h2
      have hadd : FnC Try.prog 13 [aD oMax d K, vD v] (.tup [aD oMax d K, iD 0]) := by
        have := c_rAdd oMax d false K v (by decide) hK hv.1 (by omega)
        rwa [hup] at this
      refine ⟨hix, vc_sz M, hkk, oMax, d, vc K, 0, hadd, ?_⟩
      exact ⟨_, _, _, _, c_rEndB true d (K) (hK) (by have := hKl; simp; omega), fun hc => absurd hc cmp_ok, fun _ => ⟨M.length - (i + 1), by omega, i + 1, K, H, hwu, by omega, rfl, rfl, rfl, rfl, hK, by omega, hR, rfl, rfl, rfl, rfl, rfl⟩⟩
    have h3' : ¬ (false = true ∧ v.1 ≠ 1) := fun h => by cases h.1
    refine ⟨fun _ => ?_, fun _ => ?_⟩
    all_goals
      refine ⟨fun hd => ?_, fun hd => ?_⟩
      · subst hd
        obtain ⟨j, hj, p2, p3, hp⟩ := c_place H v hR.2.2 hv.1 (by have := hR.2.1; omega) (hR.1 rfl).1
        refine ⟨(j : Int), _, hp, fun hf => ?_, fun hf => ?_⟩
        · have hup := addL_dup (num := false) h1 h2 h3' (by rw [← (hR.1 rfl).2 v]; exact (found_iff (hR.1 rfl).1 p2 p3).1 (of_decide_eq_true hf))
          have hadd : FnC Try.prog 13 [aD oMax true K, vD v] (.tup [aD oMax true K, iD 0]) := by
            have := c_rAdd oMax true false K v (by decide) hK hv.1 (by omega)
            rwa [hup] at this
          refine ⟨hix, vc_sz M, hkk, oMax, true, vc K, 0, hadd, ?_⟩
          exact ⟨_, _, _, _, c_rEndB true true (K) (hK) (by have := hKl; simp; omega), fun hc => absurd hc cmp_ok, fun _ => ⟨M.length - (i + 1), by omega, i + 1, K, H, hwu, by omega, rfl, rfl, rfl, rfl, hK, by omega, hR, rfl, rfl, rfl, rfl, rfl⟩⟩
        · have hne : ¬ (j < H.length ∧ cmpV (H.getD j nul) v 0 = 0) := fun h => hf (decide_eq_true h)
          have hup := addL_putT (num := false) h1 h2 h3' (by rw [← (hR.1 rfl).2 v]; exact fun h => hne ((found_iff (hR.1 rfl).1 p2 p3).2 h))
          rintro _ rfl
          refine ⟨_, m_ins H v j hj (by have := hR.2.1; omega), ?_⟩
          have hR' := relH_ins hR hv hj p2 p3 hne
          generalize H.take j ++ [v] ++ H.drop j = H' at *
          refine ⟨cmpV v (bestL true K) 0, c_vCompare v (bestL true K) 0 hv.1 (best_sz true K hK), fun hc => ?_, fun hc => ?_⟩
          · have hbp : bestL true (K ++ [v]) = v := by
              rw [best_put, if_pos]
              simpa using hc
            have hadd : FnC Try.prog 13 [aD oMax true K, vD v] (.tup [aD oMax true (K ++ [v]), iD 0]) := by
              have := c_rAdd oMax true false K v (by decide) hK hv.1 (by omega)
              rwa [hup] at this
            refine ⟨hix, vc_sz M, hkk, oMax, true, vc (K ++ [v]), 0, hadd, ?_⟩
            exact ⟨_, _, _, _, c_rEndB true true ((K ++ [v])) (ok_snoc hK hv) (by have := hKl; simp; omega), fun hc => absurd hc (by simp [endB, hbp]), fun _ => ⟨M.length - (i + 1), by omega, i + 1, (K ++ [v]), H', hwu, by omega, rfl, rfl, rfl, rfl, ok_snoc hK hv, by simp; omega, hR', rfl, by rw [hbp], by rw [hbp], by rw [hbp], by simp⟩⟩
          · have hbp : bestL true (K ++ [v]) = bestL true K := by
              rw [best_put, if_neg]
              simpa using hc
            have hK0 : K ≠ [] := by
              intro e
              subst e
              simp at hc
            have hadd : FnC Try.prog 13 [aD oMax true K, vD v] (.tup [aD oMax true (K ++ [v]), iD 0]) := by
              have := c_rAdd oMax true false K v (by decide) hK hv.1 (by omega)
              rwa [hup] at this
            refine ⟨hix, vc_sz M, hkk, oMax, true, vc (K ++ [v]), 0, hadd, ?_⟩
            exact ⟨_, _, _, _, c_rEndB true true ((K ++ [v])) (ok_snoc hK hv) (by have := hKl; simp; omega), fun hc => absurd hc (by simp [endB, hbp]), fun _ => ⟨M.length - (i + 1), by omega, i + 1, (K ++ [v]), H', hwu, by omega, rfl, rfl, rfl, rfl, ok_snoc hK hv, by simp; omega, hR', rfl, by rw [hbp], by rw [hbp], by rw [hbp], some_put hK0⟩⟩
      · have hd : d = false := by simpa using hd
        subst hd
        have hup := addL_putF (num := false) (K := K) (v := v) h1 h2 h3'
        have hR' := relH_put (v := v) hR
        refine ⟨cmpV v (bestL true K) 0, c_vCompare v (bestL true K) 0 hv.1 (best_sz true K hK), fun hc => ?_, fun hc => ?_⟩
        · have hbp : bestL true (K ++ [v]) = v := by
            rw [best_put, if_pos]
            simpa using hc
          have hadd : FnC Try.prog 13 [aD oMax false K, vD v] (.tup [aD oMax false (K ++ [v]), iD 0]) := by
            have := c_rAdd oMax false false K v (by decide) hK hv.1 (by omega)
            rwa [hup] at this
          refine ⟨hix, vc_sz M, hkk, oMax, false, vc (K ++ [v]), 0, hadd, ?_⟩
          exact ⟨_, _, _, _, c_rEndB true false ((K ++ [v])) (ok_snoc hK hv) (by have := hKl; simp; omega), fun hc => absurd hc (by simp [endB, hbp]), fun _ => ⟨M.length - (i + 1), by omega, i + 1, (K ++ [v]), H, hwu, by omega, rfl, rfl, rfl, rfl, ok_snoc hK hv, by simp; omega, hR', rfl, by rw [hbp], by rw [hbp], by rw [hbp], by simp⟩⟩
        · have hbp : bestL true (K ++ [v]) = bestL true K := by
            rw [best_put, if_neg]
            simpa using hc
          have hK0 : K ≠ [] := by
            intro e
            subst e
            simp at hc
          have hadd : FnC Try.prog 13 [aD oMax false K, vD v] (.tup [aD oMax false (K ++ [v]), iD 0]) := by
            have := c_rAdd oMax false false K v (by decide) hK hv.1 (by omega)
            rwa [hup] at this
          refine ⟨hix, vc_sz M, hkk, oMax, false, vc (K ++ [v]), 0, hadd, ?_⟩
          exact ⟨_, _, _, _, c_rEndB true false ((K ++ [v])) (ok_snoc hK hv) (by have := hKl; simp; omega), fun hc => absurd hc (by simp [endB, hbp]), fun _ => ⟨M.length - (i + 1), by omega, i + 1, (K ++ [v]), H, hwu, by omega, rfl, rfl, rfl, rfl, ok_snoc hK hv, by simp; omega, hR', rfl, by rw [hbp], by rw [hbp], by rw [hbp], some_put hK0⟩⟩
end Go.Proofs.Yteljlbgjpnfdjaa
namespace Go.Proofs.Yteljlbgjpnfdjaa
open Go.RowKit Go.IntWalk
set_option linter.unusedSimpArgs false
set_option linter.unusedVariables false

set_option maxHeartbeats 4000000 in
theorem play_avg_false (l : List V3) (hl : ∀ v ∈ l, OKv v) : FnC Try.prog 3 [ND oAvg, bD false, .c (.vs (vc l))] (bD true) := by
  refine w3_avg_false (vc l) ⟨fun h => ⟨⟨by omega, by omega, by omega⟩, vc_sz l, ?_⟩, fun h => ?_⟩
  · rw [show ((100 : Int).toNat) = 100 from rfl, vc_take]
    have hM : ∀ v ∈ l.take 100, OKv v := fun v hv => hl v (List.mem_of_mem_take hv)
    have hn : (l.take 100).length ≤ 100 := by rw [List.length_take]; omega
    generalize l.take 100 = M at *
    clear h hl
    refine ⟨_, _, _, _, c_rNew oAvg false (by unfold IsOp; decide), knownB oAvg M.length, fun _ => by rw [vc_len]; exact c_Known oAvg _ (by unfold IsOp; decide), knownB oAvg M.length, fun _ => by rw [vc_len]; exact c_rKnown oAvg _ (by unfold IsOp; decide), knownB oAvg 1, fun _ => c_Known oAvg 1 (by unfold IsOp; decide), knownB oAvg 1, fun _ => c_rKnown oAvg 1 (by unfold IsOp; decide), fun hc => absurd hc (by simp), fun _ => ?_⟩
    refine ⟨_, _, _, _, c_Of_avg false M hM (by omega), _, _, _, _, c_rOf oAvg false true endA M (by unfold IsOp; decide) (by decide) hM (by omega) (fun K h1 h2 => c_rEndA false K h1 h2), fun hc => absurd hc (by simp), fun _ => ?_⟩
    refine ⟨fun a1 a2 a3 a4 a5 a6 a7 a8 a9 x3 a b n k => ∃ (i : Nat) (K H : List V3), x3 = (i : Int) ∧ i ≤ M.length ∧ k = M.length - i ∧ a1 = oAvg ∧ false = a2 ∧ a3 = vc K ∧ (∀ v ∈ K, OKv v) ∧ K.length ≤ i ∧ RelH false K H ∧ a = sumN K / 18446744073709551616 ∧ b = sumN K % 18446744073709551616 ∧ n = (K.length : Int), ⟨M.length, 0, [], [], rfl, by omega, rfl, rfl, rfl, rfl, (fun v h => by simp at h), by simp, relH_nil false, rfl, rfl, rfl⟩, ?_⟩
    rintro k _ _ _ _ _ _ _ _ _ _ _ _ _ ⟨i, K, H, rfl, hi, rfl, rfl, rfl, rfl, hK, hKl, hR, rfl, rfl, rfl⟩
    have hb := sum_bb K hK (by omega)
    refine ⟨fun hlt => ?_, fun _ => ⟨true, c_live, rfl⟩⟩
    have hil : i < M.length := by
      rcases hlt with h | h
      · rw [vc_len] at h; omega
      · cases h
    obtain ⟨e0, e1, e2⟩ := cells_v M i hil
    have hv := okv_at hM i
    have hwu := wrap_up i (by omega)
    have hix : 0 ≤ (i : Int) ∧ (i : Int) < ((vc M).length : Int) := ⟨by omega, by rw [vc_len]; omega⟩
    have hkk := vc_k M (i : Int) (by omega) (by omega)
    simp only [e0, e1, e2]
    clear e0 e1 e2 hlt
    generalize M.getD i nul = v at *
    refine ⟨hix, vc_sz M, hkk, checkV v, c_vCheck v, fun h1 => ?_, fun h1 => ⟨fun h2 => ?_, fun h2 => ?_⟩⟩
    · have hup := addL_bad (num := true) (d := false) (K := K) h1
      have hadd : FnC Try.prog 13 [aD oAvg false K, vD v] (.tup [aD oAvg false K, iD (checkV v)]) := by
        have := c_rAdd oAvg false true K v (by decide) hK hv.1 (by omega)
        rwa [hup] at this
      refine ⟨hix, vc_sz M, hkk, oAvg, false, vc K, (checkV v), hadd, ?_⟩
      have hE := c_rEndA false (K) (hK) (by have := hKl; simp; omega)
      refine ⟨fun h0 => ?_, fun h0 => ?_⟩
      · have hK0 : K = [] := List.length_eq_zero_iff.1 (by omega)
        have hE' : endA K = (nul, 0) := by
          unfold endA
          rw [if_pos hK0]
        rw [hE'] at hE
        exact ⟨0, 0, bs [], 0, hE, fun hc => absurd hc cmp_ok, fun _ => ⟨M.length - (i + 1), by omega, i + 1, K, H, hwu, by omega, rfl, rfl, rfl, rfl, hK, by omega, hR, rfl, rfl, rfl⟩⟩
      · have hpos : 0 < K.length := by omega
        have hsb := sum_b K (hK) (by have := hKl; simp; omega)
        have hE' : endA K = ((1, (sumN K).tdiv ((K).length : Int), []), 0) := by
          unfold endA
          rw [if_neg (List.length_pos_iff.1 hpos)]
        rw [hE'] at hE
        have hl9 : (K).length ≤ 1048576 := by have := hKl; simp; omega
        refine ⟨fun hneg => ?_, fun hneg => ?_⟩
        · obtain ⟨_, _, _, _, _, _, s1, s2, s3, s4⟩ := avg_neg (sumN K) (K).length hsb.1 (by omega) hpos hl9
          refine ⟨_, _, s1, _, _, s2, _, _, s3, fun _ => ⟨1, _, bs [], c_vNum _, 1, _, bs [], 0, hE, fun hc => ?_, fun _ => ⟨M.length - (i + 1), by omega, i + 1, K, H, hwu, by omega, rfl, rfl, rfl, rfl, hK, by omega, hR, rfl, rfl, rfl⟩⟩, fun h => absurd hneg h⟩
          rw [s4] at hc
          exact absurd hc cmp_ok
        · obtain ⟨_, _, s1, s2⟩ := avg_pos (sumN K) (K).length hsb.2 (by omega) hpos hl9
          refine ⟨_, _, s1, fun h => absurd h hneg, fun _ => ⟨1, _, bs [], c_vNum _, 1, _, bs [], 0, hE, fun hc => ?_, fun _ => ⟨M.length - (i + 1), by omega, i + 1, K, H, hwu, by omega, rfl, rfl, rfl, rfl, hK, by omega, hR, rfl, rfl, rfl⟩⟩⟩
          rw [s2] at hc
          exact absurd hc cmp_ok
    · have hup := addL_nul (num := true) (d := false) (K := K) h1 h2
      have hadd : FnC Try.prog 13 [aD oAvg false K, vD v] (.tup [aD oAvg false K, iD 0]) := by
        have := c_rAdd oAvg false true K v (by decide) hK hv.1 (by omega)
        rwa [hup] at this
      refine ⟨hix, vc_sz M, hkk, oAvg, false, vc K, 0, hadd, ?_⟩
      have hE := c_rEndA false (K) (hK) (by have := hKl; simp; omega)
      refine ⟨fun h0 => ?_, fun h0 => ?_⟩
      · have hK0 : K = [] := List.length_eq_zero_iff.1 (by omega)
        have hE' : endA K = (nul, 0) := by
          unfold endA
          rw [if_pos hK0]
        rw [hE'] at hE
        exact ⟨0, 0, bs [], 0, hE, fun hc => absurd hc cmp_ok, fun _ => ⟨M.length - (i + 1), by omega, i + 1, K, H, hwu, by omega, rfl, rfl, rfl, rfl, hK, by omega, hR, rfl, rfl, rfl⟩⟩
      · have hpos : 0 < K.length := by omega
        have hsb := sum_b K (hK) (by have := hKl; simp; omega)
        have hE' : endA K = ((1, (sumN K).tdiv ((K).length : Int), []), 0) := by
          unfold endA
          rw [if_neg (List.length_pos_iff.1 hpos)]
        rw [hE'] at hE
        have hl9 : (K).length ≤ 1048576 := by have := hKl; simp; omega
        refine ⟨fun hneg => ?_, fun hneg => ?_⟩
        · obtain ⟨_, _, _, _, _, _, s1, s2, s3, s4⟩ := avg_neg (sumN K) (K).length hsb.1 (by omega) hpos hl9
          refine ⟨_, _, s1, _, _, s2, _, _, s3, fun _ => ⟨1, _, bs [], c_vNum _, 1, _, bs [], 0, hE, fun hc => ?_, fun _ => ⟨M.length - (i + 1), by omega, i + 1, K, H, hwu, by omega, rfl, rfl, rfl, rfl, hK, by omega, hR, rfl, rfl, rfl⟩⟩, fun h => absurd hneg h⟩
          rw [s4] at hc
          exact absurd hc cmp_ok
        · obtain ⟨_, _, s1, s2⟩ := avg_pos (sumN K) (K).length hsb.2 (by omega) hpos hl9
          refine ⟨_, _, s1, fun h => absurd h hneg, fun _ => ⟨1, _, bs [], c_vNum _, 1, _, bs [], 0, hE, fun hc => ?_, fun _ => ⟨M.length - (i + 1), by omega, i + 1, K, H, hwu, by omega, rfl, rfl, rfl, rfl, hK, by omega, hR, rfl, rfl, rfl⟩⟩⟩
          rw [s2] at hc
          exact absurd hc cmp_ok
    refine ⟨fun h3 => ?_, fun h3 => ?_⟩
    · have hup := addL_num (d := false) (K := K) h1 h2 h3
      have hadd : FnC Try.prog 13 [aD oAvg false K, vD v] (.tup [aD oAvg false K, iD 11]) := by
        have := c_rAdd oAvg false true K v (by decide) hK hv.1 (by omega)
        rwa [hup] at this
      refine ⟨hix, vc_sz M, hkk, oAvg, false, vc K, 11, hadd, ?_⟩
      have hE := c_rEndA false (K) (hK) (by have := hKl; simp; omega)
      refine ⟨fun h0 => ?_, fun h0 => ?_⟩
      · have hK0 : K = [] := List.length_eq_zero_iff.1 (by omega)
        have hE' : endA K = (nul, 0) := by
          unfold endA
          rw [if_pos hK0]
        rw [hE'] at hE
        exact ⟨0, 0, bs [], 0, hE, fun hc => absurd hc cmp_ok, fun _ => ⟨M.length - (i + 1), by omega, i + 1, K, H, hwu, by omega, rfl, rfl, rfl, rfl, hK, by omega, hR, rfl, rfl, rfl⟩⟩
      · have hpos : 0 < K.length := by omega
        have hsb := sum_b K (hK) (by have := hKl; simp; omega)
        have hE' : endA K = ((1, (sumN K).tdiv ((K).length : Int), []), 0) := by
          unfold endA
          rw [if_neg (List.length_pos_iff.1 hpos)]
        rw [hE'] at hE
        have hl9 : (K).length ≤ 1048576 := by have := hKl; simp; omega
        refine ⟨fun hneg => ?_, fun hneg => ?_⟩
        · obtain ⟨_, _, _, _, _, _, s1, s2, s3, s4⟩ := avg_neg (sumN K) (K).length hsb.1 (by omega) hpos hl9
          refine ⟨_, _, s1, _, _, s2, _, _, s3, fun _ => ⟨1, _, bs [], c_vNum _, 1, _, bs [], 0, hE, fun hc => ?_, fun _ => ⟨M.length - (i + 1), by omega, i + 1, K, H, hwu, by omega, rfl, rfl, rfl, rfl, hK, by omega, hR, rfl, rfl, rfl⟩⟩, fun h => absurd hneg h⟩
          rw [s4] at hc
          exact absurd hc cmp_ok
        · obtain ⟨_, _, s1, s2⟩ := avg_pos (sumN K) (K).length hsb.2 (by omega) hpos hl9
          refine ⟨_, _, s1, fun h => absurd h hneg, fun _ => ⟨1, _, bs [], c_vNum _, 1, _, bs [], 0, hE, fun hc => ?_, fun _ => ⟨M.length - (i + 1), by omega, i + 1, K, H, hwu, by omega, rfl, rfl, rfl, rfl, hK, by omega, hR, rfl, rfl, rfl⟩⟩⟩
          rw [s2] at hc
          exact absurd hc cmp_ok
    have h3' : ¬ (true = true ∧ v.1 ≠ 1) := fun h => h.2 (Classical.not_not.1 h3)
    have hup := addL_putF (num := true) (K := K) (v := v) h1 h2 h3'
    have hR' := relH_put (v := v) hR
    obtain ⟨w1, w2⟩ := add_words (sumN K) v.2.1 hv.2 hb
    refine ⟨_, _, c_Add64 _ _ 0 (Int.emod_nonneg _ (by decide)) (by rw [wrU]; exact Int.emod_nonneg _ (by decide)) (by omega) (by omega), ?_⟩
    rw [w1, w2, ← sumN_snoc]
    rw [show IntKind.wrap .i64 ((K.length : Int) + 1) = (((K ++ [v]).length : Nat) : Int) by rw [wrap_up K.length (by omega)]; simp]
    have hadd : FnC Try.prog 13 [aD oAvg false K, vD v] (.tup [aD oAvg false (K ++ [v]), iD 0]) := by
      have := c_rAdd oAvg false true K v (by decide) hK hv.1 (by omega)
      rwa [hup] at this
    refine ⟨hix, vc_sz M, hkk, oAvg, false, vc (K ++ [v]), 0, hadd, ?_⟩
    have hE := c_rEndA false ((K ++ [v])) (ok_snoc hK hv) (by have := hKl; simp; omega)
    have hpos : 0 < ((K ++ [v])).length := by simp
    refine ⟨fun h0 => absurd h0 (by omega), fun _ => ?_⟩
    have hsb := sum_b (K ++ [v]) (ok_snoc hK hv) (by have := hKl; simp; omega)
    have hE' : endA (K ++ [v]) = ((1, (sumN (K ++ [v])).tdiv (((K ++ [v])).length : Int), []), 0) := by
      unfold endA
      rw [if_neg (List.length_pos_iff.1 hpos)]
    rw [hE'] at hE
    have hl9 : ((K ++ [v])).length ≤ 1048576 := by have := hKl; simp; omega
    refine ⟨fun hneg => ?_, fun hneg => ?_⟩
    · obtain ⟨_, _, _, _, _, _, s1, s2, s3, s4⟩ := avg_neg (sumN (K ++ [v])) ((K ++ [v])).length hsb.1 (by omega) hpos hl9
      refine ⟨_, _, s1, _, _, s2, _, _, s3, fun _ => ⟨1, _, bs [], c_vNum _, 1, _, bs [], 0, hE, fun hc => ?_, fun _ => ⟨M.length - (i + 1), by omega, i + 1, (K ++ [v]), H, hwu, by omega, rfl, rfl, rfl, rfl, ok_snoc hK hv, by simp; omega, hR', rfl, rfl, rfl⟩⟩, fun h => absurd hneg h⟩
      rw [s4] at hc
      exact absurd hc cmp_ok
    · obtain ⟨_, _, s1, s2⟩ := avg_pos (sumN (K ++ [v])) ((K ++ [v])).length hsb.2 (by omega) hpos hl9
      refine ⟨_, _, s1, fun h => absurd h hneg, fun _ => ⟨1, _, bs [], c_vNum _, 1, _, bs [], 0, hE, fun hc => ?_, fun _ => ⟨M.length - (i + 1), by omega, i + 1, (K ++ [v]), H, hwu, by omega, rfl, rfl, rfl, rfl, ok_snoc hK hv, by simp; omega, hR', rfl, rfl, rfl⟩⟩⟩
      rw [s2] at hc
      exact absurd hc cmp_ok
  · have hn : l.length ≤ 100 := by rw [vc_len] at h; omega
    have hM := hl
    generalize l = M at *
    clear h hl
    refine ⟨_, _, _, _, c_rNew oAvg false (by unfold IsOp; decide), knownB oAvg M.length, fun _ => by rw [vc_len]; exact c_Known oAvg _ (by unfold IsOp; decide), knownB oAvg M.length, fun _ => by rw [vc_len]; exact c_rKnown oAvg _ (by unfold IsOp; decide), knownB oAvg 1, fun _ => c_Known oAvg 1 (by unfold IsOp; decide), knownB oAvg 1, fun _ => c_rKnown oAvg 1 (by unfold IsOp; decide), fun hc => absurd hc (by simp), fun _ => ?_⟩
    refine ⟨_, _, _, _, c_Of_avg false M hM (by omega), _, _, _, _, c_rOf oAvg false true endA M (by unfold IsOp; decide) (by decide) hM (by omega) (fun K h1 h2 => c_rEndA false K h1 h2), fun hc => absurd hc (by simp), fun _ => ?_⟩
    refine ⟨fun a1 a2 a3 a4 a5 a6 a7 a8 a9 x3 a b n k => ∃ (i : Nat) (K H : List V3), x3 = (i : Int) ∧ i ≤ M.length ∧ k = M.length - i ∧ a1 = oAvg ∧ false = a2 ∧ a3 = vc K ∧ (∀ v ∈ K, OKv v) ∧ K.length ≤ i ∧ RelH false K H ∧ a = sumN K / 18446744073709551616 ∧ b = sumN K % 18446744073709551616 ∧ n = (K.length : Int), ⟨M.length, 0, [], [], rfl, by omega, rfl, rfl, rfl, rfl, (fun v h => by simp at h), by simp, relH_nil false, rfl, rfl, rfl⟩, ?_⟩
    rintro k _ _ _ _ _ _ _ _ _ _ _ _ _ ⟨i, K, H, rfl, hi, rfl, rfl, rfl, rfl, hK, hKl, hR, rfl, rfl, rfl⟩
    have hb := sum_bb K hK (by omega)
    refine ⟨fun hlt => ?_, fun _ => ⟨true, c_live, rfl⟩⟩
    have hil : i < M.length := by
      rcases hlt with h | h
      · rw [vc_len] at h; omega
      · cases h
    obtain ⟨e0, e1, e2⟩ := cells_v M i hil
    have hv := okv_at hM i
    have hwu := wrap_up i (by omega)
    have hix : 0 ≤ (i : Int) ∧ (i : Int) < ((vc M).length : Int) := ⟨by omega, by rw [vc_len]; omega⟩
    have hkk := vc_k M (i : Int) (by omega) (by omega)
    simp only [e0, e1, e2]
    clear e0 e1 e2 hlt
    generalize M.getD i nul = v at *
    refine ⟨hix, vc_sz M, hkk, checkV v, c_vCheck v, fun h1 => ?_, fun h1 => ⟨fun h2 => ?_, fun h2 => ?_⟩⟩
    · have hup := addL_bad (num := true) (d := false) (K := K) h1
      have hadd : FnC Try.prog 13 [aD oAvg false K, vD v] (.tup [aD oAvg false K, iD (checkV v)]) := by
        have := c_rAdd oAvg false true K v (by decide) hK hv.1 (by omega)
        rwa [hup] at this
      refine ⟨hix, vc_sz M, hkk, oAvg, false, vc K, (checkV v), hadd, ?_⟩
      have hE := c_rEndA false (K) (hK) (by have := hKl; simp; omega)
      refine ⟨fun h0 => ?_, fun h0 => ?_⟩
      · have hK0 : K = [] := List.length_eq_zero_iff.1 (by omega)
        have hE' : endA K = (nul, 0) := by
          unfold endA
          rw [if_pos hK0]
        rw [hE'] at hE
        exact ⟨0, 0, bs [], 0, hE, fun hc => absurd hc cmp_ok, fun _ => ⟨M.length - (i + 1), by omega, i + 1, K, H, hwu, by omega, rfl, rfl, rfl, rfl, hK, by omega, hR, rfl, rfl, rfl⟩⟩
      · have hpos : 0 < K.length := by omega
        have hsb := sum_b K (hK) (by have := hKl; simp; omega)
        have hE' : endA K = ((1, (sumN K).tdiv ((K).length : Int), []), 0) := by
          unfold endA
          rw [if_neg (List.length_pos_iff.1 hpos)]
        rw [hE'] at hE
        have hl9 : (K).length ≤ 1048576 := by have := hKl; simp; omega
        refine ⟨fun hneg => ?_, fun hneg => ?_⟩
        · obtain ⟨_, _, _, _, _, _, s1, s2, s3, s4⟩ := avg_neg (sumN K) (K).length hsb.1 (by omega) hpos hl9
          refine ⟨_, _, s1, _, _, s2, _, _, s3, fun _ => ⟨1, _, bs [], c_vNum _, 1, _, bs [], 0, hE, fun hc => ?_, fun _ => ⟨M.length - (i + 1), by omega, i + 1, K, H, hwu, by omega, rfl, rfl, rfl, rfl, hK, by omega, hR, rfl, rfl, rfl⟩⟩, fun h => absurd hneg h⟩
          rw [s4] at hc
          exact absurd hc cmp_ok
        · obtain ⟨_, _, s1, s2⟩ := avg_pos (sumN K) (K).length hsb.2 (by omega) hpos hl9
          refine ⟨_, _, s1, fun h => absurd h hneg, fun _ => ⟨1, _, bs [], c_vNum _, 1, _, bs [], 0, hE, fun hc => ?_, fun _ => ⟨M.length - (i + 1), by omega, i + 1, K, H, hwu, by omega, rfl, rfl, rfl, rfl, hK, by omega, hR, rfl, rfl, rfl⟩⟩⟩
          rw [s2] at hc
          exact absurd hc cmp_ok
    · have hup := addL_nul (num := true) (d := false) (K := K) h1 h2
      have hadd : FnC Try.prog 13 [aD oAvg false K, vD v] (.tup [aD oAvg false K, iD 0]) := by
        have := c_rAdd oAvg false true K v (by decide) hK hv.1 (by omega)
        rwa [hup] at this
      refine ⟨hix, vc_sz M, hkk, oAvg, false, vc K, 0, hadd, ?_⟩
      have hE := c_rEndA false (K) (hK) (by have := hKl; simp; omega)
      refine ⟨fun h0 => ?_, fun h0 => ?_⟩
      · have hK0 : K = [] := List.length_eq_zero_iff.1 (by omega)
        have hE' : endA K = (nul, 0) := by
          unfold endA
          rw [if_pos hK0]
        rw [hE'] at hE
        exact ⟨0, 0, bs [], 0, hE, fun hc => absurd hc cmp_ok, fun _ => ⟨M.length - (i + 1), by omega, i + 1, K, H, hwu, by omega, rfl, rfl, rfl, rfl, hK, by omega, hR, rfl, rfl, rfl⟩⟩
      · have hpos : 0 < K.length := by omega
        have hsb := sum_b K (hK) (by have := hKl; simp; omega)
        have hE' : endA K = ((1, (sumN K).tdiv ((K).length : Int), []), 0) := by
          unfold endA
          rw [if_neg (List.length_pos_iff.1 hpos)]
        rw [hE'] at hE
        have hl9 : (K).length ≤ 1048576 := by have := hKl; simp; omega
        refine ⟨fun hneg => ?_, fun hneg => ?_⟩
        · obtain ⟨_, _, _, _, _, _, s1, s2, s3, s4⟩ := avg_neg (sumN K) (K).length hsb.1 (by omega) hpos hl9
          refine ⟨_, _, s1, _, _, s2, _, _, s3, fun _ => ⟨1, _, bs [], c_vNum _, 1, _, bs [], 0, hE, fun hc => ?_, fun _ => ⟨M.length - (i + 1), by omega, i + 1, K, H, hwu, by omega, rfl, rfl, rfl, rfl, hK, by omega, hR, rfl, rfl, rfl⟩⟩, fun h => absurd hneg h⟩
          rw [s4] at hc
          exact absurd hc cmp_ok
        · obtain ⟨_, _, s1, s2⟩ := avg_pos (sumN K) (K).length hsb.2 (by omega) hpos hl9
          refine ⟨_, _, s1, fun h => absurd h hneg, fun _ => ⟨1, _, bs [], c_vNum _, 1, _, bs [], 0, hE, fun hc => ?_, fun _ => ⟨M.length - (i + 1), by omega, i + 1, K, H, hwu, by omega, rfl, rfl, rfl, rfl, hK, by omega, hR, rfl, rfl, rfl⟩⟩⟩
          rw [s2] at hc
          exact absurd hc cmp_ok
    refine ⟨fun h3 => ?_, fun h3 => ?_⟩
    · have hup := addL_num (d := false) (K := K) h1 h2 h3
      have hadd : FnC Try.prog 13 [aD oAvg false K, vD v] (.tup [aD oAvg false K, iD 11]) := by
        have := c_rAdd oAvg false true K v (by decide) hK hv.1 (by omega)
        rwa [hup] at this
      refine ⟨hix, vc_sz M, hkk, oAvg, false, vc K, 11, hadd, ?_⟩
      have hE := c_rEndA false (K) (hK) (by have := hKl; simp; omega)
      refine ⟨fun h0 => ?_, fun h0 => ?_⟩
      · have hK0 : K = [] := List.length_eq_zero_iff.1 (by omega)
        have hE' : endA K = (nul, 0) := by
          unfold endA
          rw [if_pos hK0]
        rw [hE'] at hE
        exact ⟨0, 0, bs [], 0, hE, fun hc => absurd hc cmp_ok, fun _ => ⟨M.length - (i + 1), by omega, i + 1, K, H, hwu, by omega, rfl, rfl, rfl, rfl, hK, by omega, hR, rfl, rfl, rfl⟩⟩
      · have hpos : 0 < K.length := by omega
        have hsb := sum_b K (hK) (by have := hKl; simp; omega)
        have hE' : endA K = ((1, (sumN K).tdiv ((K).length : Int), []), 0) := by
          unfold endA
          rw [if_neg (List.length_pos_iff.1 hpos)]
        rw [hE'] at hE
        have hl9 : (K).length ≤ 1048576 := by have := hKl; simp; omega
        refine ⟨fun hneg => ?_, fun hneg => ?_⟩
        · obtain ⟨_, _, _, _, _, _, s1, s2, s3, s4⟩ := avg_neg (sumN K) (K).length hsb.1 (by omega) hpos hl9
          refine ⟨_, _, s1, _, _, s2, _, _, s3, fun _ => ⟨1, _, bs [], c_vNum _, 1, _, bs [], 0, hE, fun hc => ?_, fun _ => ⟨M.length - (i + 1), by omega, i + 1, K, H, hwu, by omega, rfl, rfl, rfl, rfl, hK, by omega, hR, rfl, rfl, rfl⟩⟩, fun h => absurd hneg h⟩
          rw [s4] at hc
          exact absurd hc cmp_ok
        · obtain ⟨_, _, s1, s2⟩ := avg_pos (sumN K) (K).length hsb.2 (by omega) hpos hl9
          refine ⟨_, _, s1, fun h => absurd h hneg, fun _ => ⟨1, _, bs [], c_vNum _, 1, _, bs [], 0, hE, fun hc => ?_, fun _ => ⟨M.length - (i + 1), by omega, i + 1, K, H, hwu, by omega, rfl, rfl, rfl, rfl, hK, by omega, hR, rfl, rfl, rfl⟩⟩⟩
          rw [s2] at hc
          exact absurd hc cmp_ok
    have h3' : ¬ (true = true ∧ v.1 ≠ 1) := fun h => h.2 (Classical.not_not.1 h3)
    have hup := addL_putF (num := true) (K := K) (v := v) h1 h2 h3'
    have hR' := relH_put (v := v) hR
    obtain ⟨w1, w2⟩ := add_words (sumN K) v.2.1 hv.2 hb
    refine ⟨_, _, c_Add64 _ _ 0 (Int.emod_nonneg _ (by decide)) (by rw [wrU]; exact Int.emod_nonneg _ (by decide)) (by omega) (by omega), ?_⟩
    rw [w1, w2, ← sumN_snoc]
    rw [show IntKind.wrap .i64 ((K.length : Int) + 1) = (((K ++ [v]).length : Nat) : Int) by rw [wrap_up K.length (by omega)]; simp]
    have hadd : FnC Try.prog 13 [aD oAvg false K, vD v] (.tup [aD oAvg false (K ++ [v]), iD 0]) := by
      have := c_rAdd oAvg false true K v (by decide) hK hv.1 (by omega)
      rwa [hup] at this
    refine ⟨hix, vc_sz M, hkk, oAvg, false, vc (K ++ [v]), 0, hadd, ?_⟩
    have hE := c_rEndA false ((K ++ [v])) (ok_snoc hK hv) (by have := hKl; simp; omega)
    have hpos : 0 < ((K ++ [v])).length := by simp
    refine ⟨fun h0 => absurd h0 (by omega), fun _ => ?_⟩
    have hsb := sum_b (K ++ [v]) (ok_snoc hK hv) (by have := hKl; simp; omega)
    have hE' : endA (K ++ [v]) = ((1, (sumN (K ++ [v])).tdiv (((K ++ [v])).length : Int), []), 0) := by
      unfold endA
      rw [if_neg (List.length_pos_iff.1 hpos)]
    rw [hE'] at hE
    have hl9 : ((K ++ [v])).length ≤ 1048576 := by have := hKl; simp; omega
    refine ⟨fun hneg => ?_, fun hneg => ?_⟩
    · obtain ⟨_, _, _, _, _, _, s1, s2, s3, s4⟩ := avg_neg (sumN (K ++ [v])) ((K ++ [v])).length hsb.1 (by omega) hpos hl9
      refine ⟨_, _, s1, _, _, s2, _, _, s3, fun _ => ⟨1, _, bs [], c_vNum _, 1, _, bs [], 0, hE, fun hc => ?_, fun _ => ⟨M.length - (i + 1), by omega, i + 1, (K ++ [v]), H, hwu, by omega, rfl, rfl, rfl, rfl, ok_snoc hK hv, by simp; omega, hR', rfl, rfl, rfl⟩⟩, fun h => absurd hneg h⟩
      rw [s4] at hc
      exact absurd hc cmp_ok
    · obtain ⟨_, _, s1, s2⟩ := avg_pos (sumN (K ++ [v])) ((K ++ [v])).length hsb.2 (by omega) hpos hl9
      refine ⟨_, _, s1, fun h => absurd h hneg, fun _ => ⟨1, _, bs [], c_vNum _, 1, _, bs [], 0, hE, fun hc => ?_, fun _ => ⟨M.length - (i + 1), by omega, i + 1, (K ++ [v]), H, hwu, by omega, rfl, rfl, rfl, rfl, ok_snoc hK hv, by simp; omega, hR', rfl, rfl, rfl⟩⟩⟩
      rw [s2] at hc
      exact absurd hc cmp_ok
end Go.Proofs.Yteljlbgjpnfdjaa
namespace Go.Proofs.Yteljlbgjpnfdjaa
open Go.RowKit Go.IntWalk
set_option linter.unusedSimpArgs false
set_option linter.unusedVariables false

theorem play_other (o : ByteArray) (d : Bool) (l : List V3) (hl : ∀ v ∈ l, OKv v) (ho : ¬ IsOp o) : FnC Try.prog 3 [ND o, bD d, .c (.vs (vc l))] (bD true) := by
  have ho' := ho
  unfold IsOp at ho'
  have n1 : ¬ o = oCount := fun h => ho' (.inl h)
  have n2 : ¬ o = oSum := fun h => ho' (.inr (.inl h))
  have n3 : ¬ o = oTotal := fun h => ho' (.inr (.inr (.inr (.inr (.inr h)))))
  have n4 : ¬ o = oAvg := fun h => ho' (.inr (.inr (.inr (.inr (.inl h)))))
  have n5 : ¬ o = oMin := fun h => ho' (.inr (.inr (.inl h)))
  have n6 : ¬ o = oMax := fun h => ho' (.inr (.inr (.inr (.inl h))))
  refine w3 o d (vc l) ⟨fun h => ⟨⟨by omega, by omega, by omega⟩, vc_sz l, ?_⟩, fun h => ?_⟩
  · rw [show ((100 : Int).toNat) = 100 from rfl, vc_take]
    generalize l.take 100 = M
    refine ⟨fun h => absurd h n1, fun _ => ⟨fun h => absurd h n2, fun _ => ⟨fun h => absurd h n3, fun _ => ⟨fun h => absurd h n4, fun _ => ⟨fun h => absurd h n5, fun _ => ⟨fun h => absurd h n6, fun _ => ⟨_, _, _, _, c_rNew0 o d ho, fun _ => ?_, fun hc => absurd (by simp) hc⟩⟩⟩⟩⟩⟩⟩
    refine ⟨fun h => absurd h n1, fun _ => ⟨fun h => absurd h n2, fun _ => ⟨fun h => absurd h n3, fun _ => ⟨fun h => absurd h n4, fun _ => ⟨fun h => absurd h n5, fun _ => ⟨fun h => absurd h n6, fun _ => ⟨false, by rw [vc_len]; exact c_rKnown0 o _ ho, fun _ => ?_, fun hc => absurd rfl hc⟩⟩⟩⟩⟩⟩⟩
    refine ⟨fun h => absurd h n1, fun _ => ⟨fun h => absurd h n2, fun _ => ⟨fun h => absurd h n3, fun _ => ⟨fun h => absurd h n4, fun _ => ⟨fun h => absurd h n5, fun _ => ⟨fun h => absurd h n6, fun _ => ⟨false, c_rKnown0 o _ ho, fun hc => absurd rfl hc, fun _ => ?_⟩⟩⟩⟩⟩⟩⟩
    refine ⟨_, _, _, _, c_Of0 o d M ho, _, _, _, _, c_rOf0 o d M ho, fun hc => absurd hc (by simp), fun _ => ⟨fun _ _ _ _ _ _ _ _ _ _ _ => True, ⟨0, trivial⟩, ?_⟩⟩
    intro k _ _ _ _ _ _ _ _ _ _ _
    exact ⟨fun h => absurd h.2 (by simp), fun _ => ⟨true, c_live, rfl⟩⟩
  · generalize l = M
    refine ⟨fun h => absurd h n1, fun _ => ⟨fun h => absurd h n2, fun _ => ⟨fun h => absurd h n3, fun _ => ⟨fun h => absurd h n4, fun _ => ⟨fun h => absurd h n5, fun _ => ⟨fun h => absurd h n6, fun _ => ⟨_, _, _, _, c_rNew0 o d ho, fun _ => ?_, fun hc => absurd (by simp) hc⟩⟩⟩⟩⟩⟩⟩
    refine ⟨fun h => absurd h n1, fun _ => ⟨fun h => absurd h n2, fun _ => ⟨fun h => absurd h n3, fun _ => ⟨fun h => absurd h n4, fun _ => ⟨fun h => absurd h n5, fun _ => ⟨fun h => absurd h n6, fun _ => ⟨false, by rw [vc_len]; exact c_rKnown0 o _ ho, fun _ => ?_, fun hc => absurd rfl hc⟩⟩⟩⟩⟩⟩⟩
    refine ⟨fun h => absurd h n1, fun _ => ⟨fun h => absurd h n2, fun _ => ⟨fun h => absurd h n3, fun _ => ⟨fun h => absurd h n4, fun _ => ⟨fun h => absurd h n5, fun _ => ⟨fun h => absurd h n6, fun _ => ⟨false, c_rKnown0 o _ ho, fun hc => absurd rfl hc, fun _ => ?_⟩⟩⟩⟩⟩⟩⟩
    refine ⟨_, _, _, _, c_Of0 o d M ho, _, _, _, _, c_rOf0 o d M ho, fun hc => absurd hc (by simp), fun _ => ⟨fun _ _ _ _ _ _ _ _ _ _ _ => True, ⟨0, trivial⟩, ?_⟩⟩
    intro k _ _ _ _ _ _ _ _ _ _ _
    exact ⟨fun h => absurd h.2 (by simp), fun _ => ⟨true, c_live, rfl⟩⟩
theorem play_all (o : ByteArray) (d : Bool) (l : List V3) (hl : ∀ v ∈ l, OKv v) : FnC Try.prog 3 [ND o, bD d, .c (.vs (vc l))] (bD true) := by
  by_cases ho : IsOp o
  · rcases ho with rfl | rfl | rfl | rfl | rfl | rfl
    · exact play_count d l hl
    · exact play_sum d l hl
    · exact play_min d l hl
    · exact play_max d l hl
    · cases d
      · exact play_avg_false l hl
      · exact play_avg_true l hl
    · exact play_total d l hl
  · exact play_other o d l hl ho
end Go.Proofs.Yteljlbgjpnfdjaa
