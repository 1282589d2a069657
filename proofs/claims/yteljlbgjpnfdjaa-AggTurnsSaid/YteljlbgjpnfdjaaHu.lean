/- AggTurns: the order of the values does not matter. Condition: ints of 64 bits. -/
import Derived.Test.YteljlbgjpnfdjaaHs
import Derived.Test.YteljlbgjpnfdjaaFz
namespace Go.Proofs.Yteljlbgjpnfdjaa
open Go.RowKit Go.IntWalk
set_option linter.unusedSimpArgs false
set_option linter.unusedVariables false

theorem ic_len (L : List Int) : (ic L).length = L.length := by simp [ic]
theorem uc_len (L : List Int) : (uc L).length = L.length := by simp [uc]
theorem ic_sz (L : List Int) : ∀ el ∈ ic L, el.length = 1 := by
  intro el h
  simp only [ic, List.mem_map] at h
  obtain ⟨v, _, rfl⟩ := h
  rfl
theorem uc_sz (L : List Int) : ∀ el ∈ uc L, el.length = 1 := by
  intro el h
  simp only [uc, List.mem_map] at h
  obtain ⟨v, _, rfl⟩ := h
  rfl
theorem ic_get (L : List Int) (i : Nat) (h : i < L.length) : (ic L).getD i [] = [.v (.int .i64 (L.getD i 0))] := by simp [ic, h]
theorem uc_get (L : List Int) (i : Nat) (h : i < L.length) : (uc L).getD i [] = [.v (.int .u8 (L.getD i 0))] := by simp [uc, h]
theorem ic_k (L : List Int) (i : Nat) (h : i < L.length) : [4] = ((((ic L).getD (i : Int).toNat []).drop 0).take 1).map kindC := by rw [Int.toNat_natCast, ic_get L i h]; rfl
theorem uc_k (L : List Int) (i : Nat) (h : i < L.length) : [5] = ((((uc L).getD (i : Int).toNat []).drop 0).take 1).map kindC := by rw [Int.toNat_natCast, uc_get L i h]; rfl
theorem ic_0 (L : List Int) (i : Nat) (h : i < L.length) : (cellAt (ic L) (i : Int) 0).int = L.getD i 0 := by simp only [cellAt]; rw [Int.toNat_natCast, ic_get L i h]; rfl
theorem uc_0 (L : List Int) (i : Nat) (h : i < L.length) : (cellAt (uc L) (i : Int) 0).int = L.getD i 0 := by simp only [cellAt]; rw [Int.toNat_natCast, uc_get L i h]; rfl
theorem ic_take (L : List Int) (n : Nat) : (ic L).take n = ic (L.take n) := by simp [ic]
/-- the values: each int, and a NULL ahead of some -/
def aL (M ns : List Int) : Nat → List V3
  | 0 => []
  | i + 1 => aL M ns i ++ (if i < ns.length ∧ (ns.getD i 0).tmod 4 = 0 then [nul] else []) ++ [(1, M.getD i 0, [])]
theorem aL_len (M ns : List Int) : ∀ i, (aL M ns i).length ≤ 2 * i
  | 0 => Nat.le_refl _
  | i + 1 => by
    have := aL_len M ns i
    rw [aL]
    split <;> simp <;> omega
structure Good (v : V3) : Prop where
  ok : OKv v
  check : checkV v = 0
  kind : v.1 = 0 ∨ v.1 = 1
theorem good_nul : Good nul := ⟨⟨by simp [Sz], by simp [I64]⟩, by decide, .inl rfl⟩
theorem good_int {n : Int} (h : I64 n) : Good (1, n, []) := ⟨⟨by simp [Sz], h⟩, by unfold checkV; simp, .inr rfl⟩
theorem aL_ok (M ns : List Int) (hM : ∀ z ∈ M, I64 z) : ∀ i, i ≤ M.length → ∀ v ∈ aL M ns i, Good v
  | 0, _, v, hv => by simp [aL] at hv
  | i + 1, hi, v, hv => by
    have ih := aL_ok M ns hM i (by omega)
    rw [aL, List.append_assoc, List.mem_append, List.mem_append] at hv
    rcases hv with hv | hv | hv
    · exact ih v hv
    · split at hv
      · rw [List.mem_singleton.1 hv]; exact good_nul
      · simp at hv
    · rw [List.mem_singleton.1 hv]
      refine good_int ?_
      rw [List.getD_eq_getElem?_getD, List.getElem?_eq_getElem (by omega), Option.getD_some]
      exact hM _ (List.getElem_mem _)
theorem aL_filter (M ns : List Int) : ∀ i, ((aL M ns i).filter (fun v => v.1 ≠ 0)).length = i
  | 0 => rfl
  | i + 1 => by
    have := aL_filter M ns i
    rw [aL, List.filter_append, List.filter_append, List.length_append, List.length_append, this]
    split <;> simp
theorem kAll_len (d : Bool) (l : List V3) : (kAll d l).length ≤ (l.filter (fun v => v.1 ≠ 0)).length := by
  have : ∀ (l K : List V3), (l.foldl (kStep d) K).length ≤ K.length + (l.filter (fun v => v.1 ≠ 0)).length := by
    intro l
    induction l with
    | nil => intro K; simp
    | cons v l ih =>
      intro K
      rw [List.foldl_cons]
      refine Nat.le_trans (ih _) ?_
      unfold kStep
      by_cases h : v.1 = 0
      · rw [if_pos h]; simp [h]
      · rw [if_neg h]
        split
        · simp [h] <;> omega
        · simp [h] <;> omega
  simpa [kAll] using this l []
def nm : Nat → ByteArray
  | 0 => oCount | 1 => oSum | 2 => oMin | 3 => oMax | 4 => oAvg | _ => oTotal
def rE : Nat → List V3 → V3 × Int
  | 0, K => endC K | 1, K => endS false K | 2, K => endB false K | 3, K => endB true K | 4, K => endA K | _, K => endS true K
theorem rE_ok (i : Nat) (h6 : i < 6) (h1 : i ≠ 1) (h5 : i ≠ 5) (K : List V3) : (rE i K).2 = 0 := by
  have h : i = 0 ∨ i = 2 ∨ i = 3 ∨ i = 4 := by omega
  rcases h with rfl | rfl | rfl | rfl
  · rfl
  · rfl
  · rfl
  · show (endA K).2 = 0
    unfold endA
    split <;> rfl
theorem cmp_ints {a b : V3} (ha : a.1 = 1) (hb : b.1 = 1) : cmpV a b 0 = cmpI a.2.1 b.2.1 := by
  unfold cmpV
  rw [if_neg (by rw [ha, hb]; simp), if_pos ha]
theorem cmpI_le {x y : Int} (h : cmpI x y ≤ 0) : x ≤ y := by
  unfold cmpI at h
  split at h
  · omega
  · split at h <;> omega
theorem cmpI_ge {x y : Int} (h : 0 ≤ cmpI x y) : y ≤ x := by
  unfold cmpI at h
  split at h
  · omega
  · split at h <;> omega
theorem e_toList : (⟨#[]⟩ : ByteArray).toList = [] := bs_toList []

set_option maxHeartbeats 8000000 in
theorem walkTurns (l ns : List Int) (d : Bool) (hl : ∀ z ∈ l, I64 z) : FnC Try.prog 4 [.c (.vs (ic l)), .c (.vs (uc ns)), bD d] (bD true) := by
  refine w4 (ic l) (uc ns) d ⟨fun h => ⟨⟨by omega, by omega, by omega⟩, ic_sz l, ?_⟩, fun h => ?_⟩
  · rw [show ((100 : Int).toNat) = 100 from rfl, ic_take]
    have hM : ∀ z ∈ l.take 100, I64 z := fun v hv => hl v (List.mem_of_mem_take hv)
    have hn : (l.take 100).length ≤ 100 := by rw [List.length_take]; omega
    generalize l.take 100 = M at *
    clear h hl
    refine ⟨fun x3 x4 k => ∃ i : Nat, x4 = (i : Int) ∧ i ≤ M.length ∧ k = M.length - i ∧ x3 = vc (aL M ns i), ⟨M.length, 0, rfl, by omega, rfl, rfl⟩, ?_⟩
    rintro k _ _ ⟨i, rfl, hi, rfl, rfl⟩
    have hAl := aL_len M ns i
    refine ⟨fun hlt => ?_, fun hlt => ?_⟩
    · have hil : i < M.length := by rw [ic_len] at hlt; omega
      have hwu := wrap_up i (by omega)
      have hix : 0 ≤ (i : Int) ∧ (i : Int) < ((ic M).length : Int) := ⟨by omega, hlt⟩
      have hk := ic_k M i hil
      have e0 := ic_0 M i hil
      have hnk : (i : Int) < ((uc ns).length : Int) → i < ns.length := fun h => by rw [uc_len] at h; omega
      simp only [e0]
      refine ⟨fun h => ⟨by omega, h⟩, fun _ => uc_sz ns, fun h => uc_k ns i (hnk h), fun _ => by decide, fun hc => ?_, fun hc => ?_⟩
      · have hc' : i < ns.length ∧ (ns.getD i 0).tmod 4 = 0 := ⟨hnk hc.1, by have := hc.2; rw [uc_0 ns i (hnk hc.1)] at this; exact this⟩
        rintro _ rfl
        refine ⟨⟨by rw [vc_len]; simp; omega, by rw [vc_len]; simp; omega, by rw [vc_len]; simp; omega⟩, ?_⟩
        intro x6 e6
        have e6 : x6 = vc (aL M ns i ++ [nul]) := e6.trans (vc_snoc _ nul)
        subst e6
        refine ⟨hix, ic_sz M, hk, _, _, _, c_vNum _, ?_⟩
        rintro _ rfl
        refine ⟨⟨by rw [vc_len]; simp; omega, by rw [vc_len]; simp; omega, by rw [vc_len]; simp; omega⟩, ?_⟩
        intro x11 e11
        have e11 : x11 = vc (aL M ns i ++ [nul] ++ [(1, M.getD i 0, [])]) := e11.trans (vc_snoc _ (1, M.getD i 0, []))
        subst e11
        refine ⟨M.length - (i + 1), by omega, i + 1, hwu, by omega, rfl, ?_⟩
        rw [aL, if_pos hc']
      · have hc' : ¬ (i < ns.length ∧ (ns.getD i 0).tmod 4 = 0) := fun h => hc ⟨by rw [uc_len]; omega, by rw [uc_0 ns i h.1]; exact h.2⟩
        refine ⟨hix, ic_sz M, hk, _, _, _, c_vNum _, ?_⟩
        rintro _ rfl
        refine ⟨⟨by rw [vc_len]; simp; omega, by rw [vc_len]; simp; omega, by rw [vc_len]; simp; omega⟩, ?_⟩
        intro x9 e9
        have e9 : x9 = vc (aL M ns i ++ [(1, M.getD i 0, [])]) := e9.trans (vc_snoc _ (1, M.getD i 0, []))
        subst e9
        refine ⟨M.length - (i + 1), by omega, i + 1, hwu, by omega, rfl, ?_⟩
        rw [aL, if_neg hc', List.append_nil]
    have hil : i = M.length := by rw [ic_len] at hlt; omega
    subst hil
    have hA := aL_ok M ns hM M.length (Nat.le_refl _)
    have hF := aL_filter M ns M.length
    have hA0 : M.length = 0 → aL M ns M.length = [] := fun h => by rw [h]; rfl
    generalize aL M ns M.length = A at *
    refine ⟨fun x5 x6 k => ∃ i : Nat, i ≤ A.length ∧ x6 = (A.length : Int) - 1 - (i : Int) ∧ k = A.length - i ∧ x5 = vc (A.reverse.take i), ⟨A.length, 0, by omega, by rw [vc_len, wr64 ⟨by omega, by omega⟩]; omega, rfl, rfl⟩, ?_⟩
    rintro k _ _ ⟨i, hi, rfl, rfl, rfl⟩
    refine ⟨fun hlt => ?_, fun hlt => ?_⟩
    · have hil : i < A.length := by omega
      obtain ⟨j, hj⟩ : ∃ j : Nat, j = A.length - 1 - i := ⟨_, rfl⟩
      have ej : (A.length : Int) - 1 - (i : Int) = (j : Int) := by omega
      rw [ej]
      have hjl : j < A.length := by omega
      obtain ⟨e0, e1, e2⟩ := cells_v A j hjl
      simp only [e0, e1, e2]
      refine ⟨⟨by omega, by rw [vc_len]; omega⟩, vc_k A _ (by omega) (by omega), ?_⟩
      rintro _ rfl
      refine ⟨⟨by rw [vc_len, List.length_take, List.length_reverse]; simp; omega, by rw [vc_len, List.length_take, List.length_reverse]; simp; omega, by rw [vc_len, List.length_take, List.length_reverse]; simp; omega⟩, ?_⟩
      intro x8 e8
      have er : A.reverse.getD i nul = A.getD j nul := by
        rw [List.getD_eq_getElem?_getD, List.getD_eq_getElem?_getD, List.getElem?_reverse hil]
        rw [show A.length - 1 - i = j from hj.symm]
      have e8 : x8 = vc (A.reverse.take (i + 1)) := by
        rw [take_up (by rw [List.length_reverse]; exact hil), er]
        exact e8.trans (vc_snoc _ (A.getD j nul))
      subst e8
      refine ⟨A.length - (i + 1), by omega, i + 1, by omega, ?_, rfl, rfl⟩
      rw [wr64 ⟨by omega, by omega⟩]
      omega
    have hil : i = A.length := by omega
    subst hil
    rw [show A.reverse.take A.length = A.reverse from List.take_of_length_le (by rw [List.length_reverse]; exact Nat.le_refl _)]
    rintro _ rfl
    refine ⟨by simp, by simp, ?_⟩
    intro x8 e8 x9 e9
    have e9 : x9 = vc [nul, nul, nul, nul, nul, nul] := e9
    subst e9
    have hAr : ∀ v ∈ A.reverse, Good v := fun v hv => hA v (List.mem_reverse.1 hv)
    have hok : ∀ v ∈ A, OKv v := fun v hv => (hA v hv).ok
    have hokr : ∀ v ∈ A.reverse, OKv v := fun v hv => (hAr v hv).ok
    have hfi : ∀ num, Fine num A := fun num v hv => ⟨(hA v hv).check, fun _ => (hA v hv).kind⟩
    have hfr : ∀ num, Fine num A.reverse := fun num v hv => ⟨(hAr v hv).check, fun _ => (hAr v hv).kind⟩
    have hP := kAll_rev d A (fun v hv => (hA v hv).check)
    have hKm := kAll_mem d A (fun v hv => (hA v hv).check)
    have hKc : ∀ x ∈ kAll d A, checkV x = 0 := fun x hx => (hA x ((hKm x).1 hx).1).check
    have hKrc : ∀ x ∈ kAll d A.reverse, checkV x = 0 := fun x hx => hKc x (hP.mem_iff.1 hx)
    have hal : A.length ≤ 1048576 := by omega
    have halr : A.reverse.length ≤ 1048576 := by rw [List.length_reverse]; exact hal
    have hKl := kAll_len d A
    rw [hF] at hKl
    have cR : ∀ i, i < 6 → FnC Try.prog 10 [ND (nm i), bD d, .c (.vs (vc A))] (vdD (rE i (kAll d A)).1 (rE i (kAll d A)).2) ∧ FnC Try.prog 10 [ND (nm i), bD d, .c (.vs (vc A.reverse))] (vdD (rE i (kAll d A)).1 (rE i (kAll d A)).2) := fun i hi => by
      have h6 : i = 0 ∨ i = 1 ∨ i = 2 ∨ i = 3 ∨ i = 4 ∨ i = 5 := by omega
      rcases h6 with rfl | rfl | rfl | rfl | rfl | rfl
      · have a := c_Of_count d A hok hal
        have b := c_Of_count d A.reverse hokr halr
        rw [ofL_fine (hfi false)] at a
        rw [ofL_fine (hfr false), endC_perm hP] at b
        exact ⟨a, b⟩
      · have a := c_Of_sum d A hok hal
        have b := c_Of_sum d A.reverse hokr halr
        rw [ofL_fine (hfi true)] at a
        rw [ofL_fine (hfr true), endS_perm false hP] at b
        exact ⟨a, b⟩
      · have a := c_Of_min d A hok hal
        have b := c_Of_min d A.reverse hokr halr
        rw [ofL_fine (hfi false)] at a
        rw [ofL_fine (hfr false), endB_perm false hP hKrc] at b
        exact ⟨a, b⟩
      · have a := c_Of_max d A hok hal
        have b := c_Of_max d A.reverse hokr halr
        rw [ofL_fine (hfi false)] at a
        rw [ofL_fine (hfr false), endB_perm true hP hKrc] at b
        exact ⟨a, b⟩
      · have a := c_Of_avg d A hok hal
        have b := c_Of_avg d A.reverse hokr halr
        rw [ofL_fine (hfi true)] at a
        rw [ofL_fine (hfr true), endA_perm hP] at b
        exact ⟨a, b⟩
      · have a := c_Of_total d A hok hal
        have b := c_Of_total d A.reverse hokr halr
        rw [ofL_fine (hfi true)] at a
        rw [ofL_fine (hfr true), endS_perm true hP] at b
        exact ⟨a, b⟩
    have hnm : ∀ i : Nat, i < 6 → (cellAt x8 (i : Int) 0).str = nm i ∧ [10] = (((x8.getD (i : Int).toNat []).drop 0).take 1).map kindC := fun i hi => by
      subst e8
      have h6 : i = 0 ∨ i = 1 ∨ i = 2 ∨ i = 3 ∨ i = 4 ∨ i = 5 := by omega
      rcases h6 with rfl | rfl | rfl | rfl | rfl | rfl <;> exact ⟨rfl, rfl⟩
    have hK1 : ∀ x ∈ kAll d A, x.1 = 1 := fun x hx => by
      have := (hKm x).1 hx
      rcases (hA x this.1).kind with h | h
      · exact absurd h this.2
      · exact h
    have hK0 : M.length ≠ 0 → kAll d A ≠ [] := fun h e => by
      have hf : (A.filter (fun v => v.1 ≠ 0)) ≠ [] := fun e => by rw [e] at hF; simp at hF; omega
      obtain ⟨x, hx⟩ := List.exists_mem_of_ne_nil _ hf
      have hx' := List.mem_filter.1 hx
      have := (hKm x).2 ⟨hx'.1, by simpa using hx'.2⟩
      rw [e] at this
      simp at this
    have hKn : M.length = 0 → kAll d A = [] := fun h => by rw [hA0 h]; rfl
    generalize kAll d A = K at *
    refine ⟨fun x10 x11 k => ∃ (i : Nat) (O : List V3), x11 = (i : Int) ∧ i ≤ 6 ∧ k = 6 - i ∧ x10 = vc O ∧ O.length = 6 ∧ ∀ j, j < i → O.getD j nul = (rE j K).1, ⟨6, 0, [nul, nul, nul, nul, nul, nul], rfl, by omega, rfl, rfl, rfl, fun j hj => by omega⟩, ?_⟩
    rintro k _ _ ⟨i, O, rfl, hi, rfl, rfl, hO, hR⟩
    refine ⟨fun hlt => ?_, fun hlt => ?_⟩
    · have hil : i < 6 := by omega
      obtain ⟨n1, n2⟩ := hnm i hil
      obtain ⟨a, b⟩ := cR i hil
      have hix : 0 ≤ (i : Int) ∧ (i : Int) < 6 := ⟨by omega, by omega⟩
      rw [n1]
      refine ⟨hix, n2, _, _, _, _, a, hix, n2, _, _, _, _, b, fun hc => ?_, fun _ => ⟨hix, ⟨by omega, by rw [vc_len, hO]; omega⟩, ?_⟩⟩
      · exfalso
        rcases hc with hc | hc
        · simp at hc
        · refine hc.1.1 (rE_ok i hil ?_ ?_ K)
          · intro e; exact hc.1.2 (by rw [e]; rfl)
          · intro e; exact hc.2 (by rw [e]; rfl)
      · intro x20 e20
        have e20 : x20 = vc (O.set i (rE i K).1) := by
          rw [e20, Int.toNat_natCast]
          exact vc_set O i _ (by omega)
        subst e20
        refine ⟨6 - (i + 1), by omega, i + 1, O.set i (rE i K).1, wrap_up i (by omega), by omega, rfl, rfl, by rw [List.length_set]; exact hO, fun j hj => ?_⟩
        rw [List.getD_eq_getElem?_getD]
        by_cases e : j = i
        · subst e
          rw [List.getElem?_set_self (by omega), Option.getD_some]
        · rw [List.getElem?_set_ne (fun h => e h.symm), ← List.getD_eq_getElem?_getD]
          exact hR j (by omega)
    have hil : i = 6 := by omega
    subst hil
    have hc : ∀ j : Nat, j < 6 → (cellAt (vc O) (j : Int) 0).int = (rE j K).1.1 ∧ (cellAt (vc O) (j : Int) 1).int = (rE j K).1.2.1 ∧ (cellAt (vc O) (j : Int) 2).str = bs (rE j K).1.2.2 := fun j hj => by
      have := cells_v O j (by omega)
      rw [hR j hj] at this
      exact this
    obtain ⟨a0, a1, a2⟩ := hc 0 (by omega)
    obtain ⟨b0', b1, b2⟩ := hc 1 (by omega)
    obtain ⟨c0, c1, c2⟩ := hc 2 (by omega)
    obtain ⟨d0, d1, d2⟩ := hc 3 (by omega)
    obtain ⟨g0, g1, g2⟩ := hc 4 (by omega)
    obtain ⟨f0, f1, f2⟩ := hc 5 (by omega)
    have kV : ∀ j : Int, 0 ≤ j → j < 6 → [4, 4, 10] = ((((vc O).getD j.toNat []).drop 0).take 3).map kindC := fun j h1 h2 => vc_k O j h1 (by omega)
    have kN : ∀ j : Int, 0 ≤ j → j < 6 → [4] = ((((vc O).getD j.toNat []).drop 1).take 1).map kindC := fun j h1 h2 => vc_k1 O j h1 (by omega)
    have kK : ∀ j : Int, 0 ≤ j → j < 6 → [4] = ((((vc O).getD j.toNat []).drop 0).take 1).map kindC := fun j h1 h2 => vc_k0 O j h1 (by omega)
    have i0 : 0 ≤ (0 : Int) ∧ (0 : Int) < 6 := ⟨by omega, by omega⟩
    have i1 : 0 ≤ (1 : Int) ∧ (1 : Int) < 6 := ⟨by omega, by omega⟩
    have i2 : 0 ≤ (2 : Int) ∧ (2 : Int) < 6 := ⟨by omega, by omega⟩
    have i3 : 0 ≤ (3 : Int) ∧ (3 : Int) < 6 := ⟨by omega, by omega⟩
    have i4 : 0 ≤ (4 : Int) ∧ (4 : Int) < 6 := ⟨by omega, by omega⟩
    have i5 : 0 ≤ (5 : Int) ∧ (5 : Int) < 6 := ⟨by omega, by omega⟩
    change (cellAt (vc O) 0 0).int = _ at a0
    change (cellAt (vc O) 0 1).int = _ at a1
    change (cellAt (vc O) 0 2).str = _ at a2
    change (cellAt (vc O) 1 0).int = _ at b0'
    change (cellAt (vc O) 1 1).int = _ at b1
    change (cellAt (vc O) 1 2).str = _ at b2
    change (cellAt (vc O) 2 0).int = _ at c0
    change (cellAt (vc O) 2 1).int = _ at c1
    change (cellAt (vc O) 3 1).int = _ at d1
    change (cellAt (vc O) 4 0).int = _ at g0
    change (cellAt (vc O) 4 1).int = _ at g1
    change (cellAt (vc O) 4 2).str = _ at g2
    change (cellAt (vc O) 5 0).int = _ at f0
    change (cellAt (vc O) 5 1).int = _ at f1
    change (cellAt (vc O) 5 2).str = _ at f2
    rw [ic_len]
    simp only [a0, a1, a2, b0', b1, b2, c0, c1, d1, g0, g1, g2, f0, f1, f2]
    refine ⟨fun h0 => ?_, fun h0 => ?_⟩
    · have hK : K = [] := hKn (by omega)
      subst hK
      refine ⟨true, c_live, fun _ => i0, fun _ => kV 0 i0.1 i0.2, 1, 0, bs [], fun _ => c_vNum 0, fun _ => i1, fun _ => kV 1 i1.1 i1.2, fun _ => i4, fun _ => kV 4 i4.1 i4.2, fun _ => i5, fun _ => kV 5 i5.1 i5.2, 1, 0, bs [], fun _ => c_vNum 0, ?_⟩
      rw [show rE 0 [] = ((1, 0, []), 0) from rfl, show rE 1 [] = (nul, 0) from rfl, show rE 4 [] = (nul, 0) from rfl, show rE 5 [] = ((1, 0, []), 0) from rfl]
      simp [bs_toList, e_toList]
    · have hne : K ≠ [] := hK0 (by omega)
      have hpos : 0 < K.length := List.length_pos_iff.2 hne
      have t1 : (0 : Int) < (rE 0 K).1.2.1 := by show (0 : Int) < (K.length : Int); omega
      have t2 : (rE 0 K).1.2.1 ≤ (M.length : Int) := by show (K.length : Int) ≤ (M.length : Int); omega
      have hmn : ∀ x ∈ K, (bestL false K).2.1 ≤ x.2.1 ∧ x.2.1 ≤ (bestL true K).2.1 := fun x hx => by
        have l1 := (best_least false K x hx).1 rfl
        have l2 := (best_least true K x hx).2 rfl
        rw [cmp_ints (hK1 _ (best_mem false K hne)) (hK1 x hx)] at l1
        rw [cmp_ints (hK1 _ (best_mem true K hne)) (hK1 x hx)] at l2
        exact ⟨cmpI_le l1, cmpI_ge l2⟩
      have hsb := sum_between _ _ K hmn
      have hab := avg_between (n := (K.length : Int)) (by omega) hsb.1 hsb.2
      have eA : rE 4 K = ((1, (sumN K).tdiv (K.length : Int), []), 0) := by
        show endA K = _
        unfold endA
        rw [if_neg hne]
      have t3 : (rE 2 K).1.2.1 ≤ (rE 4 K).1.2.1 := by rw [eA]; exact hab.1
      have t4 : (rE 4 K).1.2.1 ≤ (rE 3 K).1.2.1 := by rw [eA]; exact hab.2
      have t5 : (rE 1 K).1 = (rE 5 K).1 := by
        show (endS false K).1 = (endS true K).1
        unfold endS
        rw [if_neg hne, if_neg hne]
      have t6 : (rE 2 K).1.1 = 1 := hK1 _ (best_mem false K hne)
      refine ⟨true, c_live, fun _ => i0, fun _ => kN 0 i0.1 i0.2, fun _ => i0, fun _ => kN 0 i0.1 i0.2, fun _ => i2, fun _ => kN 2 i2.1 i2.2, fun _ => i4, fun _ => kN 4 i4.1 i4.2, fun _ => i4, fun _ => kN 4 i4.1 i4.2, fun _ => i3, fun _ => kN 3 i3.1 i3.2, fun _ => i1, fun _ => kV 1 i1.1 i1.2, fun _ => i5, fun _ => kV 5 i5.1 i5.2, fun _ => i2, fun _ => kK 2 i2.1 i2.2, ?_⟩
      rw [t5, t6]
      simp [t1, t2, t3, t4]
  · have hn : l.length ≤ 100 := by rw [ic_len] at h; omega
    have hM := hl
    generalize l = M at *
    clear h hl
    refine ⟨fun x3 x4 k => ∃ i : Nat, x4 = (i : Int) ∧ i ≤ M.length ∧ k = M.length - i ∧ x3 = vc (aL M ns i), ⟨M.length, 0, rfl, by omega, rfl, rfl⟩, ?_⟩
    rintro k _ _ ⟨i, rfl, hi, rfl, rfl⟩
    have hAl := aL_len M ns i
    refine ⟨fun hlt => ?_, fun hlt => ?_⟩
    · have hil : i < M.length := by rw [ic_len] at hlt; omega
      have hwu := wrap_up i (by omega)
      have hix : 0 ≤ (i : Int) ∧ (i : Int) < ((ic M).length : Int) := ⟨by omega, hlt⟩
      have hk := ic_k M i hil
      have e0 := ic_0 M i hil
      have hnk : (i : Int) < ((uc ns).length : Int) → i < ns.length := fun h => by rw [uc_len] at h; omega
      simp only [e0]
      refine ⟨fun h => ⟨by omega, h⟩, fun _ => uc_sz ns, fun h => uc_k ns i (hnk h), fun _ => by decide, fun hc => ?_, fun hc => ?_⟩
      · have hc' : i < ns.length ∧ (ns.getD i 0).tmod 4 = 0 := ⟨hnk hc.1, by have := hc.2; rw [uc_0 ns i (hnk hc.1)] at this; exact this⟩
        rintro _ rfl
        refine ⟨⟨by rw [vc_len]; simp; omega, by rw [vc_len]; simp; omega, by rw [vc_len]; simp; omega⟩, ?_⟩
        intro x6 e6
        have e6 : x6 = vc (aL M ns i ++ [nul]) := e6.trans (vc_snoc _ nul)
        subst e6
        refine ⟨hix, ic_sz M, hk, _, _, _, c_vNum _, ?_⟩
        rintro _ rfl
        refine ⟨⟨by rw [vc_len]; simp; omega, by rw [vc_len]; simp; omega, by rw [vc_len]; simp; omega⟩, ?_⟩
        intro x11 e11
        have e11 : x11 = vc (aL M ns i ++ [nul] ++ [(1, M.getD i 0, [])]) := e11.trans (vc_snoc _ (1, M.getD i 0, []))
        subst e11
        refine ⟨M.length - (i + 1), by omega, i + 1, hwu, by omega, rfl, ?_⟩
        rw [aL, if_pos hc']
      · have hc' : ¬ (i < ns.length ∧ (ns.getD i 0).tmod 4 = 0) := fun h => hc ⟨by rw [uc_len]; omega, by rw [uc_0 ns i h.1]; exact h.2⟩
        refine ⟨hix, ic_sz M, hk, _, _, _, c_vNum _, ?_⟩
        rintro _ rfl
        refine ⟨⟨by rw [vc_len]; simp; omega, by rw [vc_len]; simp; omega, by rw [vc_len]; simp; omega⟩, ?_⟩
        intro x9 e9
        have e9 : x9 = vc (aL M ns i ++ [(1, M.getD i 0, [])]) := e9.trans (vc_snoc _ (1, M.getD i 0, []))
        subst e9
        refine ⟨M.length - (i + 1), by omega, i + 1, hwu, by omega, rfl, ?_⟩
        rw [aL, if_neg hc', List.append_nil]
    have hil : i = M.length := by rw [ic_len] at hlt; omega
    subst hil
    have hA := aL_ok M ns hM M.length (Nat.le_refl _)
    have hF := aL_filter M ns M.length
    have hA0 : M.length = 0 → aL M ns M.length = [] := fun h => by rw [h]; rfl
    generalize aL M ns M.length = A at *
    refine ⟨fun x5 x6 k => ∃ i : Nat, i ≤ A.length ∧ x6 = (A.length : Int) - 1 - (i : Int) ∧ k = A.length - i ∧ x5 = vc (A.reverse.take i), ⟨A.length, 0, by omega, by rw [vc_len, wr64 ⟨by omega, by omega⟩]; omega, rfl, rfl⟩, ?_⟩
    rintro k _ _ ⟨i, hi, rfl, rfl, rfl⟩
    refine ⟨fun hlt => ?_, fun hlt => ?_⟩
    · have hil : i < A.length := by omega
      obtain ⟨j, hj⟩ : ∃ j : Nat, j = A.length - 1 - i := ⟨_, rfl⟩
      have ej : (A.length : Int) - 1 - (i : Int) = (j : Int) := by omega
      rw [ej]
      have hjl : j < A.length := by omega
      obtain ⟨e0, e1, e2⟩ := cells_v A j hjl
      simp only [e0, e1, e2]
      refine ⟨⟨by omega, by rw [vc_len]; omega⟩, vc_k A _ (by omega) (by omega), ?_⟩
      rintro _ rfl
      refine ⟨⟨by rw [vc_len, List.length_take, List.length_reverse]; simp; omega, by rw [vc_len, List.length_take, List.length_reverse]; simp; omega, by rw [vc_len, List.length_take, List.length_reverse]; simp; omega⟩, ?_⟩
      intro x8 e8
      have er : A.reverse.getD i nul = A.getD j nul := by
        rw [List.getD_eq_getElem?_getD, List.getD_eq_getElem?_getD, List.getElem?_reverse hil]
        rw [show A.length - 1 - i = j from hj.symm]
      have e8 : x8 = vc (A.reverse.take (i + 1)) := by
        rw [take_up (by rw [List.length_reverse]; exact hil), er]
        exact e8.trans (vc_snoc _ (A.getD j nul))
      subst e8
      refine ⟨A.length - (i + 1), by omega, i + 1, by omega, ?_, rfl, rfl⟩
      rw [wr64 ⟨by omega, by omega⟩]
      omega
    have hil : i = A.length := by omega
    subst hil
    rw [show A.reverse.take A.length = A.reverse from List.take_of_length_le (by rw [List.length_reverse]; exact Nat.le_refl _)]
    rintro _ rfl
    refine ⟨by simp, by simp, ?_⟩
    intro x8 e8 x9 e9
    have e9 : x9 = vc [nul, nul, nul, nul, nul, nul] := e9
    subst e9
    have hAr : ∀ v ∈ A.reverse, Good v := fun v hv => hA v (List.mem_reverse.1 hv)
    have hok : ∀ v ∈ A, OKv v := fun v hv => (hA v hv).ok
    have hokr : ∀ v ∈ A.reverse, OKv v := fun v hv => (hAr v hv).ok
    have hfi : ∀ num, Fine num A := fun num v hv => ⟨(hA v hv).check, fun _ => (hA v hv).kind⟩
    have hfr : ∀ num, Fine num A.reverse := fun num v hv => ⟨(hAr v hv).check, fun _ => (hAr v hv).kind⟩
    have hP := kAll_rev d A (fun v hv => (hA v hv).check)
    have hKm := kAll_mem d A (fun v hv => (hA v hv).check)
    have hKc : ∀ x ∈ kAll d A, checkV x = 0 := fun x hx => (hA x ((hKm x).1 hx).1).check
    have hKrc : ∀ x ∈ kAll d A.reverse, checkV x = 0 := fun x hx => hKc x (hP.mem_iff.1 hx)
    have hal : A.length ≤ 1048576 := by omega
    have halr : A.reverse.length ≤ 1048576 := by rw [List.length_reverse]; exact hal
    have hKl := kAll_len d A
    rw [hF] at hKl
    have cR : ∀ i, i < 6 → FnC Try.prog 10 [ND (nm i), bD d, .c (.vs (vc A))] (vdD (rE i (kAll d A)).1 (rE i (kAll d A)).2) ∧ FnC Try.prog 10 [ND (nm i), bD d, .c (.vs (vc A.reverse))] (vdD (rE i (kAll d A)).1 (rE i (kAll d A)).2) := fun i hi => by
      have h6 : i = 0 ∨ i = 1 ∨ i = 2 ∨ i = 3 ∨ i = 4 ∨ i = 5 := by omega
      rcases h6 with rfl | rfl | rfl | rfl | rfl | rfl
      · have a := c_Of_count d A hok hal
        have b := c_Of_count d A.reverse hokr halr
        rw [ofL_fine (hfi false)] at a
        rw [ofL_fine (hfr false), endC_perm hP] at b
        exact ⟨a, b⟩
      · have a := c_Of_sum d A hok hal
        have b := c_Of_sum d A.reverse hokr halr
        rw [ofL_fine (hfi true)] at a
        rw [ofL_fine (hfr true), endS_perm false hP] at b
        exact ⟨a, b⟩
      · have a := c_Of_min d A hok hal
        have b := c_Of_min d A.reverse hokr halr
        rw [ofL_fine (hfi false)] at a
        rw [ofL_fine (hfr false), endB_perm false hP hKrc] at b
        exact ⟨a, b⟩
      · have a := c_Of_max d A hok hal
        have b := c_Of_max d A.reverse hokr halr
        rw [ofL_fine (hfi false)] at a
        rw [ofL_fine (hfr false), endB_perm true hP hKrc] at b
        exact ⟨a, b⟩
      · have a := c_Of_avg d A hok hal
        have b := c_Of_avg d A.reverse hokr halr
        rw [ofL_fine (hfi true)] at a
        rw [ofL_fine (hfr true), endA_perm hP] at b
        exact ⟨a, b⟩
      · have a := c_Of_total d A hok hal
        have b := c_Of_total d A.reverse hokr halr
        rw [ofL_fine (hfi true)] at a
        rw [ofL_fine (hfr true), endS_perm true hP] at b
        exact ⟨a, b⟩
    have hnm : ∀ i : Nat, i < 6 → (cellAt x8 (i : Int) 0).str = nm i ∧ [10] = (((x8.getD (i : Int).toNat []).drop 0).take 1).map kindC := fun i hi => by
      subst e8
      have h6 : i = 0 ∨ i = 1 ∨ i = 2 ∨ i = 3 ∨ i = 4 ∨ i = 5 := by omega
      rcases h6 with rfl | rfl | rfl | rfl | rfl | rfl <;> exact ⟨rfl, rfl⟩
    have hK1 : ∀ x ∈ kAll d A, x.1 = 1 := fun x hx => by
      have := (hKm x).1 hx
      rcases (hA x this.1).kind with h | h
      · exact absurd h this.2
      · exact h
    have hK0 : M.length ≠ 0 → kAll d A ≠ [] := fun h e => by
      have hf : (A.filter (fun v => v.1 ≠ 0)) ≠ [] := fun e => by rw [e] at hF; simp at hF; omega
      obtain ⟨x, hx⟩ := List.exists_mem_of_ne_nil _ hf
      have hx' := List.mem_filter.1 hx
      have := (hKm x).2 ⟨hx'.1, by simpa using hx'.2⟩
      rw [e] at this
      simp at this
    have hKn : M.length = 0 → kAll d A = [] := fun h => by rw [hA0 h]; rfl
    generalize kAll d A = K at *
    refine ⟨fun x10 x11 k => ∃ (i : Nat) (O : List V3), x11 = (i : Int) ∧ i ≤ 6 ∧ k = 6 - i ∧ x10 = vc O ∧ O.length = 6 ∧ ∀ j, j < i → O.getD j nul = (rE j K).1, ⟨6, 0, [nul, nul, nul, nul, nul, nul], rfl, by omega, rfl, rfl, rfl, fun j hj => by omega⟩, ?_⟩
    rintro k _ _ ⟨i, O, rfl, hi, rfl, rfl, hO, hR⟩
    refine ⟨fun hlt => ?_, fun hlt => ?_⟩
    · have hil : i < 6 := by omega
      obtain ⟨n1, n2⟩ := hnm i hil
      obtain ⟨a, b⟩ := cR i hil
      have hix : 0 ≤ (i : Int) ∧ (i : Int) < 6 := ⟨by omega, by omega⟩
      rw [n1]
      refine ⟨hix, n2, _, _, _, _, a, hix, n2, _, _, _, _, b, fun hc => ?_, fun _ => ⟨hix, ⟨by omega, by rw [vc_len, hO]; omega⟩, ?_⟩⟩
      · exfalso
        rcases hc with hc | hc
        · simp at hc
        · refine hc.1.1 (rE_ok i hil ?_ ?_ K)
          · intro e; exact hc.1.2 (by rw [e]; rfl)
          · intro e; exact hc.2 (by rw [e]; rfl)
      · intro x20 e20
        have e20 : x20 = vc (O.set i (rE i K).1) := by
          rw [e20, Int.toNat_natCast]
          exact vc_set O i _ (by omega)
        subst e20
        refine ⟨6 - (i + 1), by omega, i + 1, O.set i (rE i K).1, wrap_up i (by omega), by omega, rfl, rfl, by rw [List.length_set]; exact hO, fun j hj => ?_⟩
        rw [List.getD_eq_getElem?_getD]
        by_cases e : j = i
        · subst e
          rw [List.getElem?_set_self (by omega), Option.getD_some]
        · rw [List.getElem?_set_ne (fun h => e h.symm), ← List.getD_eq_getElem?_getD]
          exact hR j (by omega)
    have hil : i = 6 := by omega
    subst hil
    have hc : ∀ j : Nat, j < 6 → (cellAt (vc O) (j : Int) 0).int = (rE j K).1.1 ∧ (cellAt (vc O) (j : Int) 1).int = (rE j K).1.2.1 ∧ (cellAt (vc O) (j : Int) 2).str = bs (rE j K).1.2.2 := fun j hj => by
      have := cells_v O j (by omega)
      rw [hR j hj] at this
      exact this
    obtain ⟨a0, a1, a2⟩ := hc 0 (by omega)
    obtain ⟨b0', b1, b2⟩ := hc 1 (by omega)
    obtain ⟨c0, c1, c2⟩ := hc 2 (by omega)
    obtain ⟨d0, d1, d2⟩ := hc 3 (by omega)
    obtain ⟨g0, g1, g2⟩ := hc 4 (by omega)
    obtain ⟨f0, f1, f2⟩ := hc 5 (by omega)
    have kV : ∀ j : Int, 0 ≤ j → j < 6 → [4, 4, 10] = ((((vc O).getD j.toNat []).drop 0).take 3).map kindC := fun j h1 h2 => vc_k O j h1 (by omega)
    have kN : ∀ j : Int, 0 ≤ j → j < 6 → [4] = ((((vc O).getD j.toNat []).drop 1).take 1).map kindC := fun j h1 h2 => vc_k1 O j h1 (by omega)
    have kK : ∀ j : Int, 0 ≤ j → j < 6 → [4] = ((((vc O).getD j.toNat []).drop 0).take 1).map kindC := fun j h1 h2 => vc_k0 O j h1 (by omega)
    have i0 : 0 ≤ (0 : Int) ∧ (0 : Int) < 6 := ⟨by omega, by omega⟩
    have i1 : 0 ≤ (1 : Int) ∧ (1 : Int) < 6 := ⟨by omega, by omega⟩
    have i2 : 0 ≤ (2 : Int) ∧ (2 : Int) < 6 := ⟨by omega, by omega⟩
    have i3 : 0 ≤ (3 : Int) ∧ (3 : Int) < 6 := ⟨by omega, by omega⟩
    have i4 : 0 ≤ (4 : Int) ∧ (4 : Int) < 6 := ⟨by omega, by omega⟩
    have i5 : 0 ≤ (5 : Int) ∧ (5 : Int) < 6 := ⟨by omega, by omega⟩
    change (cellAt (vc O) 0 0).int = _ at a0
    change (cellAt (vc O) 0 1).int = _ at a1
    change (cellAt (vc O) 0 2).str = _ at a2
    change (cellAt (vc O) 1 0).int = _ at b0'
    change (cellAt (vc O) 1 1).int = _ at b1
    change (cellAt (vc O) 1 2).str = _ at b2
    change (cellAt (vc O) 2 0).int = _ at c0
    change (cellAt (vc O) 2 1).int = _ at c1
    change (cellAt (vc O) 3 1).int = _ at d1
    change (cellAt (vc O) 4 0).int = _ at g0
    change (cellAt (vc O) 4 1).int = _ at g1
    change (cellAt (vc O) 4 2).str = _ at g2
    change (cellAt (vc O) 5 0).int = _ at f0
    change (cellAt (vc O) 5 1).int = _ at f1
    change (cellAt (vc O) 5 2).str = _ at f2
    rw [ic_len]
    simp only [a0, a1, a2, b0', b1, b2, c0, c1, d1, g0, g1, g2, f0, f1, f2]
    refine ⟨fun h0 => ?_, fun h0 => ?_⟩
    · have hK : K = [] := hKn (by omega)
      subst hK
      refine ⟨true, c_live, fun _ => i0, fun _ => kV 0 i0.1 i0.2, 1, 0, bs [], fun _ => c_vNum 0, fun _ => i1, fun _ => kV 1 i1.1 i1.2, fun _ => i4, fun _ => kV 4 i4.1 i4.2, fun _ => i5, fun _ => kV 5 i5.1 i5.2, 1, 0, bs [], fun _ => c_vNum 0, ?_⟩
      rw [show rE 0 [] = ((1, 0, []), 0) from rfl, show rE 1 [] = (nul, 0) from rfl, show rE 4 [] = (nul, 0) from rfl, show rE 5 [] = ((1, 0, []), 0) from rfl]
      simp [bs_toList, e_toList]
    · have hne : K ≠ [] := hK0 (by omega)
      have hpos : 0 < K.length := List.length_pos_iff.2 hne
      have t1 : (0 : Int) < (rE 0 K).1.2.1 := by show (0 : Int) < (K.length : Int); omega
      have t2 : (rE 0 K).1.2.1 ≤ (M.length : Int) := by show (K.length : Int) ≤ (M.length : Int); omega
      have hmn : ∀ x ∈ K, (bestL false K).2.1 ≤ x.2.1 ∧ x.2.1 ≤ (bestL true K).2.1 := fun x hx => by
        have l1 := (best_least false K x hx).1 rfl
        have l2 := (best_least true K x hx).2 rfl
        rw [cmp_ints (hK1 _ (best_mem false K hne)) (hK1 x hx)] at l1
        rw [cmp_ints (hK1 _ (best_mem true K hne)) (hK1 x hx)] at l2
        exact ⟨cmpI_le l1, cmpI_ge l2⟩
      have hsb := sum_between _ _ K hmn
      have hab := avg_between (n := (K.length : Int)) (by omega) hsb.1 hsb.2
      have eA : rE 4 K = ((1, (sumN K).tdiv (K.length : Int), []), 0) := by
        show endA K = _
        unfold endA
        rw [if_neg hne]
      have t3 : (rE 2 K).1.2.1 ≤ (rE 4 K).1.2.1 := by rw [eA]; exact hab.1
      have t4 : (rE 4 K).1.2.1 ≤ (rE 3 K).1.2.1 := by rw [eA]; exact hab.2
      have t5 : (rE 1 K).1 = (rE 5 K).1 := by
        show (endS false K).1 = (endS true K).1
        unfold endS
        rw [if_neg hne, if_neg hne]
      have t6 : (rE 2 K).1.1 = 1 := hK1 _ (best_mem false K hne)
      refine ⟨true, c_live, fun _ => i0, fun _ => kN 0 i0.1 i0.2, fun _ => i0, fun _ => kN 0 i0.1 i0.2, fun _ => i2, fun _ => kN 2 i2.1 i2.2, fun _ => i4, fun _ => kN 4 i4.1 i4.2, fun _ => i4, fun _ => kN 4 i4.1 i4.2, fun _ => i3, fun _ => kN 3 i3.1 i3.2, fun _ => i1, fun _ => kV 1 i1.1 i1.2, fun _ => i5, fun _ => kV 5 i5.1 i5.2, fun _ => i2, fun _ => kK 2 i2.1 i2.2, ?_⟩
      rw [t5, t6]
      simp [t1, t2, t3, t4]
end Go.Proofs.Yteljlbgjpnfdjaa
