/- What an expression comes to hangs only on the columns that it names; the walk of EvalSees. Condition: an expression of at most a million parts. -/
import Derived.Test.YtmpnglbonmifiaaGreatDoorEz2
namespace Go.Proofs.YtmpnglbonmifiaaGreatDoor
open Go.RowKit Go.IntWalk
set_option linter.unusedSimpArgs false
set_option linter.unusedVariables false

mutual
def nmB (s : Int) : Xp → Bool
  | .mk k op v tb nm sl nt ds args => (decide (k = 2) && decide (sl = s)) || nmsB s args
def nmsB (s : Int) : List Xp → Bool
  | [] => false
  | e :: r => nmB s e || nmsB s r
end
/-- what a column holds -/
def colV (row : List V3) (sl : Int) : V3 × Int := if sl < 0 ∨ (row.length : Int) ≤ sl then (nul, 1) else (row.getD sl.toNat nul, 0)
theorem reckV_see (k : Int) (op : List UInt8) (v : V3) (sl : Int) (nt : Bool) (L row row' : List V3) (h : k = 2 → colV row sl = colV row' sl) : reckV k op v sl nt L row = reckV k op v sl nt L row' := by
  unfold reckV
  by_cases h1 : k = 1
  · simp only [if_pos h1]
  · simp only [if_neg h1]
    by_cases h2 : k = 2
    · have := h h2
      unfold colV at this
      simp only [if_pos h2]
      exact this
    · simp only [if_neg h2]
theorem topV_see (k : Int) (op : List UInt8) (v : V3) (sl : Int) (nt ds : Bool) (X : List (V3 × Int)) (row row' : List V3) (h : k = 2 → colV row sl = colV row' sl) : topV k op v sl nt ds X row = topV k op v sl nt ds X row' := by
  unfold topV
  rw [reckV_see k op v sl nt _ row row' h]
mutual
theorem evX_see (row row' : List V3) : ∀ e : Xp, (∀ s, nmB s e = true → colV row s = colV row' s) → evX row e = evX row' e
  | .mk k op v tb nm sl nt ds args, h => by
    rw [evX, evX, evXs_see row row' args fun s hs => h s (by rw [nmB, hs, Bool.or_true])]
    refine topV_see k op v sl nt ds _ row row' fun hk => h sl ?_
    rw [nmB, decide_eq_true hk, decide_eq_true rfl]; rfl
theorem evXs_see (row row' : List V3) : ∀ l : List Xp, (∀ s, nmsB s l = true → colV row s = colV row' s) → evXs row l = evXs row' l
  | [], _ => rfl
  | e :: r, h => by
    rw [evXs, evXs, evX_see row row' e fun s hs => h s (by rw [nmsB, hs]; rfl), evXs_see row row' r fun s hs => h s (by rw [nmsB, hs, Bool.or_true])]
end
/-- the other row -/
def otherV (e : Xp) (row : List V3) (sl : Int) (v : V3) : List V3 :=
  let r1 := if (0 ≤ sl ∧ sl < row.length) ∧ nmB sl e = false then row.set sl.toNat v else row
  if nmB row.length e = false then r1 ++ [v] else r1
theorem other_see (e : Xp) (row : List V3) (sl : Int) (v : V3) : evX row e = evX (otherV e row sl v) e := by
  refine evX_see _ _ e fun s hs => ?_
  unfold otherV colV
  have len1 : (if (0 ≤ sl ∧ sl < row.length) ∧ nmB sl e = false then row.set sl.toNat v else row).length = row.length := by
    split <;> simp
  have get1 : ∀ n : Nat, (n : Int) = s → (if (0 ≤ sl ∧ sl < row.length) ∧ nmB sl e = false then row.set sl.toNat v else row).getD n nul = row.getD n nul := fun n hn => by
    split
    · rename_i h
      have : sl.toNat ≠ n := fun e' => by
        have : sl = s := by omega
        rw [this, hs] at h
        exact absurd h.2 (by simp)
      simp only [List.getD_eq_getElem?_getD]
      rw [List.getElem?_set_ne this]
    · rfl
  generalize (if (0 ≤ sl ∧ sl < row.length) ∧ nmB sl e = false then row.set sl.toNat v else row) = r1 at len1 get1
  by_cases hl : nmB row.length e = false
  · simp only [if_pos hl]
    have hne : s ≠ row.length := fun e' => by rw [← e', hs] at hl; simp at hl
    rw [List.length_append, len1]
    by_cases h1 : s < 0 ∨ (row.length : Int) ≤ s
    · rw [if_pos h1, if_pos (by simp; omega)]
    · rw [if_neg h1, if_neg (by simp; omega)]
      have h2 := get1 s.toNat (by omega)
      rw [← h2]
      simp only [List.getD_eq_getElem?_getD]
      rw [List.getElem?_append_left (by omega)]
  · simp only [if_neg hl, len1]
    by_cases h1 : s < 0 ∨ (row.length : Int) ≤ s
    · rw [if_pos h1, if_pos h1]
    · rw [if_neg h1, if_neg h1, get1 s.toNat (by omega)]
theorem other_gd (e : Xp) (row : List V3) (sl : Int) (v : V3) (h : ∀ a ∈ row ++ [v], Gd a) : ∀ a ∈ otherV e row sl v, Gd a := by
  have hr : ∀ a ∈ row, Gd a := fun a ha => h a (by simp [ha])
  have hv : Gd v := h v (by simp)
  have h1 : ∀ a ∈ (if (0 ≤ sl ∧ sl < row.length) ∧ nmB sl e = false then row.set sl.toNat v else row), Gd a := by
    split
    · intro a ha
      rcases List.mem_or_eq_of_mem_set ha with ha | rfl
      · exact hr a ha
      · exact hv
    · exact hr
  unfold otherV
  intro a ha
  simp only at ha
  split at ha
  · rcases List.mem_append.1 ha with ha | ha
    · exact h1 a ha
    · rw [List.mem_singleton.1 ha]; exact hv
  · exact h1 a ha
mutual
theorem c_named (sl : Int) : ∀ e : Xp, Xi e → FnC Tryz.prog 18 [xD e, iD sl] (bD (nmB sl e))
  | .mk k op v tb nm s nt ds args, h => by
    simp only [Xi] at h
    have ha := c_nameds sl args h.2.2.2
    have hl := h.2.2.1
    rw [maxL] at hl
    unfold xD
    simp only [Xp.cells]
    refine w18 k (bs op) v.1 v.2.1 (bs v.2.2) (bs tb) (bs nm) s nt ds (xcs args) sl ?_
    rw [nmB]
    refine ⟨fun h => by rw [decide_eq_true h.1, decide_eq_true h.2]; rfl, fun h => ?_⟩
    have e0 : ((decide (k = 2) && decide (s = sl)) || nmsB sl args) = nmsB sl args := by
      have : (decide (k = 2) && decide (s = sl)) = false := by
        rw [← Bool.decide_and]; exact decide_eq_false h
      rw [this]; rfl
    rw [e0, xcs_len]
    refine ⟨fun i m => ∃ K : Nat, i = K ∧ K ≤ args.length ∧ nmsB sl args = nmsB sl (args.drop K) ∧ m = args.length - K, ⟨_, 0, rfl, by omega, rfl, rfl⟩, ?_⟩
    rintro m i ⟨K, rfl, hK, hf, rfl⟩
    refine ⟨fun hi => ⟨by omega, xcs_sz _, xs_k _ _ (by omega) (by omega), ?_⟩, fun hi => ?_⟩
    · rw [xs_D _ _ (by omega) (by omega)]
      have e1 : args[(K : Int).toNat]'(by omega) = args[K]'(by omega) := by simp
      rw [e1, hf, drop_x args K (by omega), nmsB]
      refine ⟨_, ha K (by omega), fun h => ?_, fun h => ?_⟩
      · rw [h]; rfl
      · refine ⟨args.length - (K + 1), by omega, K + 1, by rw [i64_in _ (by omega)]; omega, by omega, ?_, rfl⟩
        rw [Bool.eq_false_iff.2 h]; rfl
    · rw [hf, List.drop_eq_nil_of_le (by omega)]; rfl
theorem c_nameds (sl : Int) : ∀ l : List Xp, Xis l → ∀ i (h : i < l.length), FnC Tryz.prog 18 [xD l[i], iD sl] (bD (nmB sl l[i]))
  | [], _, i, h => absurd h (by simp)
  | e :: l, hx, 0, _ => by
    simp only [Xis] at hx
    exact c_named sl e hx.1
  | e :: l, hx, i + 1, h => by
    simp only [Xis] at hx
    exact c_nameds sl l hx.2 i (by simpa using h)
end
theorem walkSees (e : Xp) (row : List V3) (xi : Xi e) (xn : Xn e ≤ 1048576) (q : ∀ v ∈ row, ValOk v) (hl : row.length ≤ maxLen) (sl : Int) (v : V3) (hv : I64 v.2.1) : FnC Tryz.prog 6 [xD e, .c (.vs (vc row)), iD sl, vD v] (bD true) := by
  have key : row.length ≤ 60 → (fairB e && (rowsB (row ++ [v]) && decide (Xn e ≤ 100))) = true → ∀ a ∈ row ++ [v], Gd a := fun hl h => by
    simp only [Bool.and_eq_true, decide_eq_true_eq] at h
    have h2 := h.2.1
    unfold rowsB at h2
    rw [Bool.and_eq_true] at h2
    intro a ha
    have h3 := List.all_eq_true.1 h2.2 a ha
    simp only [Bool.and_eq_true, decide_eq_true_eq] at h3
    rcases List.mem_append.1 ha with h4 | h4
    · exact may_gd h3.1 (q a h4).2.1 h3.2
    · rw [List.mem_singleton.1 h4] at h3 ⊢
      exact may_gd h3.1 hv h3.2
  have hF : row.length ≤ 60 → FnC Tryz.prog 7 [xD e, .c (.vs (vc (row ++ [v])))] (bD (fairB e && (rowsB (row ++ [v]) && decide (Xn e ≤ 100)))) := fun h => c_Fair e _ xi xn (by rw [maxL, List.length_append]; simp; omega)
  have hE : (fairB e && (rowsB (row ++ [v]) && decide (Xn e ≤ 100))) = true → ∀ R, (∀ a ∈ R, Gd a) → EvR R e (evX R e) := fun h R hR => by
    simp only [Bool.and_eq_true, decide_eq_true_eq] at h
    exact c_EvX R hR e (fair_of e xi h.1 h.2.2)
  have hN := fun s => c_named s e xi
  have hS := other_see e row sl v
  have hG := other_gd e row sl v
  simp only [otherV] at hS hG
  generalize hevx : evX row e = x0 at hS
  generalize (fairB e && (rowsB (row ++ [v]) && decide (Xn e ≤ 100))) = F at key hF hE
  generalize hb1 : nmB sl e = b1 at hS hG
  generalize hb2 : nmB row.length e = b2 at hS hG
  have hN1 := hN sl
  have hN2 := hN row.length
  rw [hb1] at hN1
  rw [hb2] at hN2
  have hE0 : F = true → (∀ a ∈ row, Gd a) → EvR row e x0 := fun h hR => by rw [← hevx]; exact hE h row hR
  clear hevx hb1 hb2 hN q xn
  obtain ⟨k, op, u, tb, nm, s, nt, ds, args⟩ := e
  unfold EvR at hE hE0
  unfold xD at hF hE hE0 hN1 hN2 ⊢
  simp only [Xp.cells] at hF hE hE0 hN1 hN2 ⊢
  have app1 : ∀ L : List V3, vc L ++ [[.v (.int .i64 v.1), .v (.int .i64 v.2.1), .v (.string (bs v.2.2))]] = vc (L ++ [v]) := fun L => vc_app L [v]
  refine w6 k (bs op) u.1 u.2.1 (bs u.2.2) (bs tb) (bs nm) s nt ds (xcs args) (vc row) sl v.1 v.2.1 (bs v.2.2) ?_
  rw [vc_len]
  refine ⟨fun h => ⟨by rw [decide_eq_true h]; simp, _, c_live31, rfl⟩, fun h => ⟨by rw [decide_eq_false h]; simp, ?_⟩⟩
  have h60 : row.length ≤ 60 := by omega
  rintro _ rfl
  refine ⟨vc_sz _, by simp only [List.length_nil]; omega, ?_⟩
  rintro x17 h17
  obtain rfl : x17 = vc row := h17
  rintro _ rfl
  refine ⟨by simp only [vc_len, List.length_cons, List.length_nil]; omega, ?_⟩
  rintro x19 h19
  rw [app1] at h19
  subst h19
  refine ⟨_, hF h60, fun _ => ⟨_, c_live31, rfl⟩, fun hf => ?_⟩
  have hf := Classical.not_not.1 hf
  have hA := key h60 hf
  have hG := hG hA
  refine ⟨_, _, _, _, hE0 hf (fun a ha => hA a (by simp [ha])), ?_⟩
  rintro _ rfl
  refine ⟨vc_sz _, by simp only [List.length_nil]; omega, ?_⟩
  rintro x26 h26
  obtain rfl : x26 = vc row := h26
  have fin : ∀ (y : V3 × Int), x0 = y → (DV.c (.v (.bool (if (if true = true then ((x0.1.1 == y.1.1) && ((x0.1.2.1 == y.1.2.1) && (((bs x0.1.2.2).toList == (bs y.1.2.2).toList) && true))) else false) = true then (x0.2 == y.2) else false)))) = bD true := fun y hy => by
    subst hy; simp [bD]
  refine ⟨b1, fun _ => hN1, fun h1 => ?_, fun h1 => ?_⟩
  · obtain ⟨hin, hb⟩ := h1
    have hb1 : b1 = false := by simpa using hb
    simp only [if_pos (show (0 ≤ sl ∧ sl < row.length) ∧ b1 = false from ⟨hin, hb1⟩)] at hS hG
    refine ⟨by rw [vc_len]; exact hin, by rw [vc_len]; exact hin, ?_⟩
    rintro x28 h28
    rw [vc_set _ _ _ (by omega)] at h28
    subst h28
    refine ⟨b2, hN2, fun h2 => ?_, fun h2 => ?_⟩
    · have hb2 : b2 = false := by simpa using h2
      simp only [if_pos hb2] at hS hG
      rintro _ rfl
      have tk : (vc (row.set sl.toNat v)).take ((row.length : Int)).toNat = vc (row.set sl.toNat v) := by
        rw [List.take_of_length_le]; rw [vc_len, List.length_set]; omega
      refine ⟨by rw [vc_len, vc_len, List.length_set]; omega, by simp only [vc_len, List.length_cons, List.length_nil]; omega, ?_⟩
      rintro x31 h31
      rw [vc_len, tk, app1] at h31
      subst h31
      exact ⟨_, _, _, _, hE hf _ hG, _, c_live31, fin _ hS⟩
    · have hb2 : b2 = true := by simpa using h2
      have e2 : ¬ (b2 = false) := by simp [hb2]
      simp only [if_neg e2] at hS hG
      have tk : (vc (row.set sl.toNat v)).take ((row.length : Int)).toNat = vc (row.set sl.toNat v) := by
        rw [List.take_of_length_le]; rw [vc_len, List.length_set]; omega
      rw [vc_len, vc_len, List.length_set, tk]
      exact ⟨by omega, _, _, _, _, hE hf _ hG, _, c_live31, fin _ hS⟩
  · have hno : ¬ ((0 ≤ sl ∧ sl < row.length) ∧ b1 = false) := fun h => h1 ⟨h.1, by simp [h.2]⟩
    simp only [if_neg hno] at hS hG
    refine ⟨b2, hN2, fun h2 => ?_, fun h2 => ?_⟩
    · have hb2 : b2 = false := by simpa using h2
      simp only [if_pos hb2] at hS hG
      rintro _ rfl
      refine ⟨by simp only [vc_len, List.length_cons, List.length_nil]; omega, ?_⟩
      rintro x31 h31
      rw [app1] at h31
      subst h31
      exact ⟨_, _, _, _, hE hf _ hG, _, c_live31, fin _ hS⟩
    · have hb2 : b2 = true := by simpa using h2
      have e2 : ¬ (b2 = false) := by simp [hb2]
      simp only [if_neg e2] at hS hG
      exact ⟨_, _, _, _, hE hf _ hG, _, c_live31, fin _ hS⟩
end Go.Proofs.YtmpnglbonmifiaaGreatDoor
