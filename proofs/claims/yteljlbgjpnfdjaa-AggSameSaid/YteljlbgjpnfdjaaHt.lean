/- AggSame: repeated values; counts; the least and the greatest. Condition: values that a machine can hold. -/
import Derived.Test.YteljlbgjpnfdjaaHs
namespace Go.Proofs.Yteljlbgjpnfdjaa
open Go.RowKit Go.IntWalk
set_option linter.unusedSimpArgs false
set_option linter.unusedVariables false

set_option maxHeartbeats 4000000 in
theorem walkSame (l : List V3) (hl : ∀ v ∈ l, OKv v) : FnC Try.prog 5 [.c (.vs (vc l))] (bD true) := by
  refine w5 (vc l) ⟨fun h => ⟨⟨by omega, by omega, by omega⟩, vc_sz l, ?_⟩, fun h => ?_⟩
  · rw [show ((60 : Int).toNat) = 60 from rfl, vc_take]
    have hM : ∀ v ∈ l.take 60, OKv v := fun v hv => hl v (List.mem_of_mem_take hv)
    have hn : (l.take 60).length ≤ 60 := by rw [List.length_take]; omega
    generalize l.take 60 = M at *
    clear h hl
    refine ⟨fun x1 x2 k => ∃ i : Nat, x2 = (i : Int) ∧ i ≤ M.length ∧ k = M.length - i ∧ (∀ j, j < i → checkV (M.getD j nul) = 0) ∧ x1 = ((kAll false (M.take i)).length : Int), ⟨M.length, 0, rfl, by omega, rfl, (fun j h => by omega), rfl⟩, ?_⟩
    rintro k _ _ ⟨i, rfl, hi, rfl, hch, rfl⟩
    refine ⟨fun hlt => ?_, fun hlt => ?_⟩
    · have hil : i < M.length := by rw [vc_len] at hlt; omega
      obtain ⟨e0, e1, e2⟩ := cells_v M i hil
      have hv := okv_at hM i
      have hwu := wrap_up i (by omega)
      have hix : 0 ≤ (i : Int) ∧ (i : Int) < ((vc M).length : Int) := ⟨by omega, hlt⟩
      have hkk := vc_k M (i : Int) (by omega) (by omega)
      have hk0 := vc_k0 M (i : Int) (by omega) (by omega)
      have hstep : kAll false (M.take (i + 1)) = kStep false (kAll false (M.take i)) (M.getD i nul) := by rw [take_up hil]; simp [kAll]
      have hlen : (kAll false (M.take i)).length ≤ i := by
        rw [kAll_false]
        exact Nat.le_trans (List.length_filter_le _ _) (by rw [List.length_take]; omega)
      simp only [e0, e1, e2]
      refine ⟨hix, vc_sz M, hkk, checkV (M.getD i nul), c_vCheck _, fun h1 => ⟨true, c_live, rfl⟩, fun h1 => ⟨hix, vc_sz M, hk0, fun h2 => ?_, fun h2 => ?_⟩⟩
      · refine ⟨M.length - (i + 1), by omega, i + 1, hwu, by omega, rfl, fun j hj => ?_, ?_⟩
        · by_cases e : j = i
          · subst e; exact Classical.not_not.1 h1
          · exact hch j (by omega)
        · rw [hstep, wrap_up _ (by omega)]
          unfold kStep
          rw [if_neg h2, if_neg (by simp)]
          simp
      · refine ⟨M.length - (i + 1), by omega, i + 1, hwu, by omega, rfl, fun j hj => ?_, ?_⟩
        · by_cases e : j = i
          · subst e; exact Classical.not_not.1 h1
          · exact hch j (by omega)
        · rw [hstep]
          unfold kStep
          rw [if_pos (Classical.not_not.1 h2)]
    have hil : i = M.length := by rw [vc_len] at hlt; omega
    subst hil
    have hC : ∀ x ∈ M, checkV x = 0 := fun x hx => by
      obtain ⟨j, hj, e⟩ := List.getElem_of_mem hx
      have := hch j hj
      rw [List.getD_eq_getElem?_getD, List.getElem?_eq_getElem hj, Option.getD_some, e] at this
      exact this
    rw [List.take_length]
    have hCC : ∀ x ∈ M ++ M, checkV x = 0 := fun x hx => by
      rcases List.mem_append.1 hx with h | h <;> exact hC x h
    have hMM : ∀ x ∈ M ++ M, OKv x := fun x hx => by
      rcases List.mem_append.1 hx with h | h <;> exact hM x h
    have f1 : Fine false M := fun x hx => ⟨hC x hx, fun h => by cases h⟩
    have f2 : Fine false (M ++ M) := fun x hx => ⟨hCC x hx, fun h => by cases h⟩
    have hl2 : (M ++ M).length ≤ 1048576 := by rw [List.length_append]; omega
    clear hch hlt hi
    rintro _ rfl
    refine ⟨vc_sz M, ⟨by simp [vc_len], by simp [vc_len]; omega, by simp [vc_len]; omega⟩, ?_⟩
    rintro _ rfl
    refine ⟨vc_sz M, ⟨by simp [vc_len]; omega, by simp [vc_len]; omega, by simp [vc_len]; omega⟩, ?_⟩
    rintro _ rfl
    rw [List.nil_append, show vc M ++ vc M = vc (M ++ M) by simp [vc]]
    rintro _ rfl
    refine ⟨by simp, by simp, ?_⟩
    rintro _ rfl
    refine ⟨fun x8 k => ∃ i : Nat, x8 = (i : Int) ∧ i ≤ 3 ∧ k = 3 - i, ⟨3, 0, rfl, by omega, rfl⟩, ?_⟩
    rintro k _ ⟨i, rfl, hi, rfl⟩
    refine ⟨fun hlt => ?_, fun _ => ?_⟩
    · have hi3 : i = 0 ∨ i = 1 ∨ i = 2 := by omega
      rcases hi3 with rfl | rfl | rfl
      · have a := c_Of_count true (M ++ M) hMM hl2
        have b := c_Of_count true M hM (by omega)
        rw [ofL_fine f2, kAll_twice M hC] at a
        rw [ofL_fine f1] at b
        exact ⟨⟨by omega, by omega⟩, rfl, _, _, _, _, a, ⟨by omega, by omega⟩, rfl, _, _, _, _, b, fun hc => absurd hc (by simp [endC]), fun _ => ⟨2, by omega, 1, rfl, by omega, rfl⟩⟩
      · have a := c_Of_min true (M ++ M) hMM hl2
        have b := c_Of_min true M hM (by omega)
        rw [ofL_fine f2, kAll_twice M hC] at a
        rw [ofL_fine f1] at b
        exact ⟨⟨by omega, by omega⟩, rfl, _, _, _, _, a, ⟨by omega, by omega⟩, rfl, _, _, _, _, b, fun hc => absurd hc (by simp [endB]), fun _ => ⟨1, by omega, 2, rfl, by omega, rfl⟩⟩
      · have a := c_Of_max true (M ++ M) hMM hl2
        have b := c_Of_max true M hM (by omega)
        rw [ofL_fine f2, kAll_twice M hC] at a
        rw [ofL_fine f1] at b
        exact ⟨⟨by omega, by omega⟩, rfl, _, _, _, _, a, ⟨by omega, by omega⟩, rfl, _, _, _, _, b, fun hc => absurd hc (by simp [endB]), fun _ => ⟨0, by omega, 3, rfl, by omega, rfl⟩⟩
    have a := c_Of_count false M hM (by omega)
    have b := c_Of_min false M hM (by omega)
    have c := c_Of_max false M hM (by omega)
    rw [ofL_fine f1] at a b c
    have hKm := kAll_mem false M hC
    have hKl : (kAll false M).length ≤ M.length := by
      rw [kAll_false]
      exact List.length_filter_le _ _
    generalize kAll false M = K at *
    have hK0 : ((bestL false K).1 == 0) = ((K.length : Int) == 0) := by
      by_cases h : K = []
      · subst h; rfl
      · have h1 := ((hKm _).1 (best_mem false K h)).2
        have h2 : 0 < K.length := List.length_pos_iff.2 h
        rw [show ((bestL false K).1 == 0) = false by simpa using h1, show ((K.length : Int) == 0) = false by simp; exact h]
    refine ⟨_, _, _, _, a, _, _, _, _, b, _, _, _, _, c, 1, (K.length : Int), bs [], fun _ => c_vNum _, fun hc => absurd hc (by simp [endC, endB, hK0]), fun _ => ?_⟩
    rintro _ rfl
    refine ⟨by simp, by simp, ?_⟩
    rintro _ rfl
    have lo := best_least false K
    have hi' := best_least true K
    have lom : K ≠ [] → bestL false K ∈ M := fun h => ((hKm _).1 (best_mem false K h)).1
    have him : K ≠ [] → bestL true K ∈ M := fun h => ((hKm _).1 (best_mem true K h)).1
    have los : Sz (bestL false K).2.2 := best_sz false K (fun x hx => hM x ((hKm x).1 hx).1)
    have his : Sz (bestL true K).2.2 := best_sz true K (fun x hx => hM x ((hKm x).1 hx).1)
    show ∃ I0 : List (List CV) → Int → Nat → Prop, _
    simp only [endB]
    generalize bestL false K = p at *
    generalize bestL true K = q at *
    refine ⟨fun x26 x27 k => ∃ (i : Nat) (u v : Bool), x27 = (i : Int) ∧ i ≤ M.length ∧ k = M.length - i ∧ x26 = [[.v (.bool u)], [.v (.bool v)]] ∧ (u = true ↔ K = [] ∨ ∃ j, j < i ∧ M.getD j nul = p) ∧ (v = true ↔ K = [] ∨ ∃ j, j < i ∧ M.getD j nul = q), ⟨M.length, 0, _, _, rfl, by omega, rfl, rfl, ?_, ?_⟩, ?_⟩
    · simp
    · simp
    rintro k _ _ ⟨i, u, v, rfl, hi, rfl, rfl, hu, hv'⟩
    refine ⟨fun hlt => ?_, fun hlt => ?_⟩
    · have hil : i < M.length := by rw [vc_len] at hlt; omega
      obtain ⟨e0, e1, e2⟩ := cells_v M i hil
      have hv := okv_at hM i
      have hwu := wrap_up i (by omega)
      have hix : 0 ≤ (i : Int) ∧ (i : Int) < ((vc M).length : Int) := ⟨by omega, hlt⟩
      have hkk := vc_k M (i : Int) (by omega) (by omega)
      have hk0 := vc_k0 M (i : Int) (by omega) (by omega)
      have hvM : M.getD i nul ∈ M := by
        rw [List.getD_eq_getElem?_getD, List.getElem?_eq_getElem hil, Option.getD_some]
        exact List.getElem_mem hil
      simp only [e0, e1, e2]
      have hO := fineO_cmpV 0
      have nx : ∀ (z : V3) (w : Bool), (w = true ↔ K = [] ∨ ∃ j, j < i ∧ M.getD j nul = z) → ((if w = true then true else ((M.getD i nul).1 == z.1) && (((M.getD i nul).2.1 == z.2.1) && (((bs (M.getD i nul).2.2).toList == (bs z.2.2).toList) && true))) = true ↔ K = [] ∨ ∃ j, j < i + 1 ∧ M.getD j nul = z) := fun z w hw => by
        rw [ite_or]
        simp only [Bool.and_eq_true, beq_iff_eq, bs_toList, and_true]
        constructor
        · rintro (h | ⟨h1, h2, h3⟩)
          · rcases hw.1 h with h | ⟨j, hj, e⟩
            · exact .inl h
            · exact .inr ⟨j, by omega, e⟩
          · refine .inr ⟨i, by omega, ?_⟩
            exact Prod.ext h1 (Prod.ext h2 h3)
        · rintro (h | ⟨j, hj, e⟩)
          · exact .inl (hw.2 (.inl h))
          · by_cases e' : j = i
            · subst e'
              exact .inr ⟨by rw [e], by rw [e], by rw [e]⟩
            · exact .inl (hw.2 (.inr ⟨j, by omega, e⟩))
      refine ⟨hix, vc_sz M, hk0, fun _ => hix, fun _ => vc_sz M, fun _ => hkk, cmpV (M.getD i nul) p 0, fun _ => c_vCompare _ _ 0 hv.1 los, fun _ => hix, fun _ => vc_sz M, fun _ => hkk, cmpV (M.getD i nul) q 0, fun _ => c_vCompare _ _ 0 hv.1 his, fun hc => ?_, fun _ => ?_⟩
      · exfalso
        have hm := (hKm (M.getD i nul)).2 ⟨hvM, hc.1⟩
        have h1 := (lo _ hm).1 rfl
        have h2 := (hi' _ hm).2 rfl
        have s1 := hO.swap p (M.getD i nul)
        have s2 := hO.swap q (M.getD i nul)
        rcases hc.2 with h | h <;> omega
      · refine ⟨⟨by omega, by omega⟩, rfl, fun _ => hix, fun _ => vc_sz M, fun _ => hkk, ⟨by omega, by omega⟩, rfl, fun _ => hix, fun _ => vc_sz M, fun _ => hkk, ⟨by omega, by omega⟩, ⟨by simp, by simp⟩, ?_⟩
        rintro _ rfl
        refine ⟨⟨by omega, by omega⟩, ⟨by simp, by simp⟩, ?_⟩
        rintro _ rfl
        exact ⟨M.length - (i + 1), by omega, i + 1, _, _, hwu, by omega, rfl, rfl, nx p u hu, nx q v hv'⟩
    · have hil : i = M.length := by rw [vc_len] at hlt; omega
      subst hil
      have fin : ∀ (z : V3) (w : Bool), (K ≠ [] → z ∈ M) → (w = true ↔ K = [] ∨ ∃ j, j < M.length ∧ M.getD j nul = z) → w = true := fun z w hz hw => hw.2 (by
        by_cases h : K = []
        · exact .inl h
        · obtain ⟨j, hj, e⟩ := List.getElem_of_mem (hz h)
          exact .inr ⟨j, hj, by rw [List.getD_eq_getElem?_getD, List.getElem?_eq_getElem hj, Option.getD_some, e]⟩)
      have hu' := fin p u lom hu
      have hv'' := fin q v him hv'
      subst hu' hv''
      exact ⟨true, c_live, fun _ => ⟨by omega, by omega⟩, fun _ => rfl, fun _ => ⟨by omega, by omega⟩, fun _ => rfl, rfl⟩
  · have hn : l.length ≤ 60 := by rw [vc_len] at h; omega
    have hM := hl
    generalize l = M at *
    clear h hl
    refine ⟨fun x1 x2 k => ∃ i : Nat, x2 = (i : Int) ∧ i ≤ M.length ∧ k = M.length - i ∧ (∀ j, j < i → checkV (M.getD j nul) = 0) ∧ x1 = ((kAll false (M.take i)).length : Int), ⟨M.length, 0, rfl, by omega, rfl, (fun j h => by omega), rfl⟩, ?_⟩
    rintro k _ _ ⟨i, rfl, hi, rfl, hch, rfl⟩
    refine ⟨fun hlt => ?_, fun hlt => ?_⟩
    · have hil : i < M.length := by rw [vc_len] at hlt; omega
      obtain ⟨e0, e1, e2⟩ := cells_v M i hil
      have hv := okv_at hM i
      have hwu := wrap_up i (by omega)
      have hix : 0 ≤ (i : Int) ∧ (i : Int) < ((vc M).length : Int) := ⟨by omega, hlt⟩
      have hkk := vc_k M (i : Int) (by omega) (by omega)
      have hk0 := vc_k0 M (i : Int) (by omega) (by omega)
      have hstep : kAll false (M.take (i + 1)) = kStep false (kAll false (M.take i)) (M.getD i nul) := by rw [take_up hil]; simp [kAll]
      have hlen : (kAll false (M.take i)).length ≤ i := by
        rw [kAll_false]
        exact Nat.le_trans (List.length_filter_le _ _) (by rw [List.length_take]; omega)
      simp only [e0, e1, e2]
      refine ⟨hix, vc_sz M, hkk, checkV (M.getD i nul), c_vCheck _, fun h1 => ⟨true, c_live, rfl⟩, fun h1 => ⟨hix, vc_sz M, hk0, fun h2 => ?_, fun h2 => ?_⟩⟩
      · refine ⟨M.length - (i + 1), by omega, i + 1, hwu, by omega, rfl, fun j hj => ?_, ?_⟩
        · by_cases e : j = i
          · subst e; exact Classical.not_not.1 h1
          · exact hch j (by omega)
        · rw [hstep, wrap_up _ (by omega)]
          unfold kStep
          rw [if_neg h2, if_neg (by simp)]
          simp
      · refine ⟨M.length - (i + 1), by omega, i + 1, hwu, by omega, rfl, fun j hj => ?_, ?_⟩
        · by_cases e : j = i
          · subst e; exact Classical.not_not.1 h1
          · exact hch j (by omega)
        · rw [hstep]
          unfold kStep
          rw [if_pos (Classical.not_not.1 h2)]
    have hil : i = M.length := by rw [vc_len] at hlt; omega
    subst hil
    have hC : ∀ x ∈ M, checkV x = 0 := fun x hx => by
      obtain ⟨j, hj, e⟩ := List.getElem_of_mem hx
      have := hch j hj
      rw [List.getD_eq_getElem?_getD, List.getElem?_eq_getElem hj, Option.getD_some, e] at this
      exact this
    rw [List.take_length]
    have hCC : ∀ x ∈ M ++ M, checkV x = 0 := fun x hx => by
      rcases List.mem_append.1 hx with h | h <;> exact hC x h
    have hMM : ∀ x ∈ M ++ M, OKv x := fun x hx => by
      rcases List.mem_append.1 hx with h | h <;> exact hM x h
    have f1 : Fine false M := fun x hx => ⟨hC x hx, fun h => by cases h⟩
    have f2 : Fine false (M ++ M) := fun x hx => ⟨hCC x hx, fun h => by cases h⟩
    have hl2 : (M ++ M).length ≤ 1048576 := by rw [List.length_append]; omega
    clear hch hlt hi
    rintro _ rfl
    refine ⟨vc_sz M, ⟨by simp [vc_len], by simp [vc_len]; omega, by simp [vc_len]; omega⟩, ?_⟩
    rintro _ rfl
    refine ⟨vc_sz M, ⟨by simp [vc_len]; omega, by simp [vc_len]; omega, by simp [vc_len]; omega⟩, ?_⟩
    rintro _ rfl
    rw [List.nil_append, show vc M ++ vc M = vc (M ++ M) by simp [vc]]
    rintro _ rfl
    refine ⟨by simp, by simp, ?_⟩
    rintro _ rfl
    refine ⟨fun x8 k => ∃ i : Nat, x8 = (i : Int) ∧ i ≤ 3 ∧ k = 3 - i, ⟨3, 0, rfl, by omega, rfl⟩, ?_⟩
    rintro k _ ⟨i, rfl, hi, rfl⟩
    refine ⟨fun hlt => ?_, fun _ => ?_⟩
    · have hi3 : i = 0 ∨ i = 1 ∨ i = 2 := by omega
      rcases hi3 with rfl | rfl | rfl
      · have a := c_Of_count true (M ++ M) hMM hl2
        have b := c_Of_count true M hM (by omega)
        rw [ofL_fine f2, kAll_twice M hC] at a
        rw [ofL_fine f1] at b
        exact ⟨⟨by omega, by omega⟩, rfl, _, _, _, _, a, ⟨by omega, by omega⟩, rfl, _, _, _, _, b, fun hc => absurd hc (by simp [endC]), fun _ => ⟨2, by omega, 1, rfl, by omega, rfl⟩⟩
      · have a := c_Of_min true (M ++ M) hMM hl2
        have b := c_Of_min true M hM (by omega)
        rw [ofL_fine f2, kAll_twice M hC] at a
        rw [ofL_fine f1] at b
        exact ⟨⟨by omega, by omega⟩, rfl, _, _, _, _, a, ⟨by omega, by omega⟩, rfl, _, _, _, _, b, fun hc => absurd hc (by simp [endB]), fun _ => ⟨1, by omega, 2, rfl, by omega, rfl⟩⟩
      · have a := c_Of_max true (M ++ M) hMM hl2
        have b := c_Of_max true M hM (by omega)
        rw [ofL_fine f2, kAll_twice M hC] at a
        rw [ofL_fine f1] at b
        exact ⟨⟨by omega, by omega⟩, rfl, _, _, _, _, a, ⟨by omega, by omega⟩, rfl, _, _, _, _, b, fun hc => absurd hc (by simp [endB]), fun _ => ⟨0, by omega, 3, rfl, by omega, rfl⟩⟩
    have a := c_Of_count false M hM (by omega)
    have b := c_Of_min false M hM (by omega)
    have c := c_Of_max false M hM (by omega)
    rw [ofL_fine f1] at a b c
    have hKm := kAll_mem false M hC
    have hKl : (kAll false M).length ≤ M.length := by
      rw [kAll_false]
      exact List.length_filter_le _ _
    generalize kAll false M = K at *
    have hK0 : ((bestL false K).1 == 0) = ((K.length : Int) == 0) := by
      by_cases h : K = []
      · subst h; rfl
      · have h1 := ((hKm _).1 (best_mem false K h)).2
        have h2 : 0 < K.length := List.length_pos_iff.2 h
        rw [show ((bestL false K).1 == 0) = false by simpa using h1, show ((K.length : Int) == 0) = false by simp; exact h]
    refine ⟨_, _, _, _, a, _, _, _, _, b, _, _, _, _, c, 1, (K.length : Int), bs [], fun _ => c_vNum _, fun hc => absurd hc (by simp [endC, endB, hK0]), fun _ => ?_⟩
    rintro _ rfl
    refine ⟨by simp, by simp, ?_⟩
    rintro _ rfl
    have lo := best_least false K
    have hi' := best_least true K
    have lom : K ≠ [] → bestL false K ∈ M := fun h => ((hKm _).1 (best_mem false K h)).1
    have him : K ≠ [] → bestL true K ∈ M := fun h => ((hKm _).1 (best_mem true K h)).1
    have los : Sz (bestL false K).2.2 := best_sz false K (fun x hx => hM x ((hKm x).1 hx).1)
    have his : Sz (bestL true K).2.2 := best_sz true K (fun x hx => hM x ((hKm x).1 hx).1)
    show ∃ I0 : List (List CV) → Int → Nat → Prop, _
    simp only [endB]
    generalize bestL false K = p at *
    generalize bestL true K = q at *
    refine ⟨fun x26 x27 k => ∃ (i : Nat) (u v : Bool), x27 = (i : Int) ∧ i ≤ M.length ∧ k = M.length - i ∧ x26 = [[.v (.bool u)], [.v (.bool v)]] ∧ (u = true ↔ K = [] ∨ ∃ j, j < i ∧ M.getD j nul = p) ∧ (v = true ↔ K = [] ∨ ∃ j, j < i ∧ M.getD j nul = q), ⟨M.length, 0, _, _, rfl, by omega, rfl, rfl, ?_, ?_⟩, ?_⟩
    · simp
    · simp
    rintro k _ _ ⟨i, u, v, rfl, hi, rfl, rfl, hu, hv'⟩
    refine ⟨fun hlt => ?_, fun hlt => ?_⟩
    · have hil : i < M.length := by rw [vc_len] at hlt; omega
      obtain ⟨e0, e1, e2⟩ := cells_v M i hil
      have hv := okv_at hM i
      have hwu := wrap_up i (by omega)
      have hix : 0 ≤ (i : Int) ∧ (i : Int) < ((vc M).length : Int) := ⟨by omega, hlt⟩
      have hkk := vc_k M (i : Int) (by omega) (by omega)
      have hk0 := vc_k0 M (i : Int) (by omega) (by omega)
      have hvM : M.getD i nul ∈ M := by
        rw [List.getD_eq_getElem?_getD, List.getElem?_eq_getElem hil, Option.getD_some]
        exact List.getElem_mem hil
      simp only [e0, e1, e2]
      have hO := fineO_cmpV 0
      have nx : ∀ (z : V3) (w : Bool), (w = true ↔ K = [] ∨ ∃ j, j < i ∧ M.getD j nul = z) → ((if w = true then true else ((M.getD i nul).1 == z.1) && (((M.getD i nul).2.1 == z.2.1) && (((bs (M.getD i nul).2.2).toList == (bs z.2.2).toList) && true))) = true ↔ K = [] ∨ ∃ j, j < i + 1 ∧ M.getD j nul = z) := fun z w hw => by
        rw [ite_or]
        simp only [Bool.and_eq_true, beq_iff_eq, bs_toList, and_true]
        constructor
        · rintro (h | ⟨h1, h2, h3⟩)
          · rcases hw.1 h with h | ⟨j, hj, e⟩
            · exact .inl h
            · exact .inr ⟨j, by omega, e⟩
          · refine .inr ⟨i, by omega, ?_⟩
            exact Prod.ext h1 (Prod.ext h2 h3)
        · rintro (h | ⟨j, hj, e⟩)
          · exact .inl (hw.2 (.inl h))
          · by_cases e' : j = i
            · subst e'
              exact .inr ⟨by rw [e], by rw [e], by rw [e]⟩
            · exact .inl (hw.2 (.inr ⟨j, by omega, e⟩))
      refine ⟨hix, vc_sz M, hk0, fun _ => hix, fun _ => vc_sz M, fun _ => hkk, cmpV (M.getD i nul) p 0, fun _ => c_vCompare _ _ 0 hv.1 los, fun _ => hix, fun _ => vc_sz M, fun _ => hkk, cmpV (M.getD i nul) q 0, fun _ => c_vCompare _ _ 0 hv.1 his, fun hc => ?_, fun _ => ?_⟩
      · exfalso
        have hm := (hKm (M.getD i nul)).2 ⟨hvM, hc.1⟩
        have h1 := (lo _ hm).1 rfl
        have h2 := (hi' _ hm).2 rfl
        have s1 := hO.swap p (M.getD i nul)
        have s2 := hO.swap q (M.getD i nul)
        rcases hc.2 with h | h <;> omega
      · refine ⟨⟨by omega, by omega⟩, rfl, fun _ => hix, fun _ => vc_sz M, fun _ => hkk, ⟨by omega, by omega⟩, rfl, fun _ => hix, fun _ => vc_sz M, fun _ => hkk, ⟨by omega, by omega⟩, ⟨by simp, by simp⟩, ?_⟩
        rintro _ rfl
        refine ⟨⟨by omega, by omega⟩, ⟨by simp, by simp⟩, ?_⟩
        rintro _ rfl
        exact ⟨M.length - (i + 1), by omega, i + 1, _, _, hwu, by omega, rfl, rfl, nx p u hu, nx q v hv'⟩
    · have hil : i = M.length := by rw [vc_len] at hlt; omega
      subst hil
      have fin : ∀ (z : V3) (w : Bool), (K ≠ [] → z ∈ M) → (w = true ↔ K = [] ∨ ∃ j, j < M.length ∧ M.getD j nul = z) → w = true := fun z w hz hw => hw.2 (by
        by_cases h : K = []
        · exact .inl h
        · obtain ⟨j, hj, e⟩ := List.getElem_of_mem (hz h)
          exact .inr ⟨j, hj, by rw [List.getD_eq_getElem?_getD, List.getElem?_eq_getElem hj, Option.getD_some, e]⟩)
      have hu' := fin p u lom hu
      have hv'' := fin q v him hv'
      subst hu' hv''
      exact ⟨true, c_live, fun _ => ⟨by omega, by omega⟩, fun _ => rfl, fun _ => ⟨by omega, by omega⟩, fun _ => rfl, rfl⟩
end Go.Proofs.Yteljlbgjpnfdjaa
