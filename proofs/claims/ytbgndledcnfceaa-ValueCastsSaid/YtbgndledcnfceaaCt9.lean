/- What a cast and a fit come to, and the two statements' walks. Conditions: numbers of 64 bits, texts that a machine can hold. -/
import Derived.Test.YtbgndledcnfceaaCt8
namespace Go.Proofs.Ytbgndledcnfceaa
open Go.RowKit Go.IntWalk
set_option linter.unusedSimpArgs false
set_option linter.unusedVariables false

theorem checkV_ok {v : V3} (h : checkV v = 0) : 0 ≤ v.1 ∧ v.1 ≤ 3 ∧ (v.1 ≠ 1 → v.2.1 = 0) ∧ (v.1 < 2 → v.2.2 = []) ∧ (v.2.2.length : Int) ≤ 4096 := by
  unfold checkV at h
  split at h
  · simp at h
  · rename_i h1
    split at h
    · simp at h
    · rename_i h2
      refine ⟨by omega, by omega, fun hk => ?_, fun hk => ?_, by omega⟩
      · exact Classical.byContradiction fun hc => h1 (.inr (.inr (.inl ⟨hk, hc⟩)))
      · exact Classical.byContradiction fun hc => h1 (.inr (.inr (.inr ⟨hk, hc⟩)))
theorem checkV_mk {v : V3} (h1 : 0 ≤ v.1 ∧ v.1 ≤ 3) (h2 : v.1 ≠ 1 → v.2.1 = 0) (h3 : v.1 < 2 → v.2.2 = []) (h4 : (v.2.2.length : Int) ≤ 4096) : checkV v = 0 := by
  unfold checkV
  rw [if_neg, if_neg (by omega)]
  rintro (h | h | ⟨h, h'⟩ | ⟨h, h'⟩)
  · omega
  · omega
  · exact h' (h2 h)
  · exact h' (h3 h)
def fitsR (v : V3) (ty : Int) : V3 × Bool :=
  if checkV v ≠ 0 ∨ ty < 0 ∨ 3 < ty then (nul, false) else if (ty = 2 ∧ v.1 = 3) ∨ (ty = 3 ∧ (v.1 = 1 ∨ v.1 = 2)) then (nul, false) else ((castV v ty).1, (castV v ty).2 == 0)
theorem fitsR_eq (v : V3) (ty : Int) : fitsR v ty = fitsV v ty := by
  unfold fitsR fitsV
  by_cases h : checkV v ≠ 0 ∨ ty < 0 ∨ 3 < ty
  · rw [if_pos h, if_pos h]
  rw [if_neg h, if_neg h]
  have hc : checkV v = 0 := Classical.byContradiction fun hc => h (.inl hc)
  obtain ⟨h1, h2, h3, h4, h5⟩ := checkV_ok hc
  obtain ⟨k, n, s⟩ := v
  simp only at h1 h2 h3 h4 h5 ⊢
  have hbad : ¬ (ty < 0 ∨ 3 < ty ∨ k < 0 ∨ 3 < k) := by omega
  have hty : ty = 0 ∨ ty = 1 ∨ ty = 2 ∨ ty = 3 := by omega
  have hk : k = 0 ∨ k = 1 ∨ k = 2 ∨ k = 3 := by omega
  simp only [castV, hbad, if_false]
  rcases hty with rfl | rfl | rfl | rfl <;> rcases hk with rfl | rfl | rfl | rfl <;> simp_all [numberV, textV, bs]
theorem c_r4Fits (v : V3) (ty : Int) (h : I64 v.2.1) (hs : Sz v.2.2) : FnC Try.prog 31 [vD v, iD ty] (.tup [vD (fitsV v ty).1, bD (fitsV v ty).2]) := by
  rw [← fitsR_eq]
  refine w31 v.1 v.2.1 (bs v.2.2) ty ?_
  simp only [mk_bs]
  refine ⟨_, c_r4Check v, fun h => ?_, fun h => ⟨fun h2 => ?_, fun h2 => ?_⟩⟩
  · rw [fitsR, if_pos (by omega)]
  · rw [fitsR, if_neg (by omega), if_pos h2]
  · rw [fitsR, if_neg (by omega), if_neg h2]
    exact ⟨_, _, _, _, c_r4Cast v ty ‹_› hs, rfl⟩

theorem readL_rng (l : List UInt8) : I64 (readL l).1 := by
  unfold readL
  repeat' split
  all_goals (constructor <;> simp only [] <;> omega)
theorem Sz_nil : Sz [] := by unfold Sz; simp
theorem Sz_num (n : Int) (h : I64 n) : Sz (numL n) := by
  have := numL_len n h
  unfold Sz; omega
theorem castV_rng (v : V3) (ty : Int) (h : I64 v.2.1) (hs : Sz v.2.2) : I64 (castV v ty).1.2.1 ∧ Sz (castV v ty).1.2.2 := by
  have hr := readL_rng v.2.2
  have ht : Sz (textV v) := textV_sz v h hs
  unfold castV numberV
  repeat' split
  all_goals first | exact ⟨h, hs⟩ | exact ⟨hr, Sz_nil⟩ | exact ⟨(by decide : I64 0), Sz_nil⟩ | exact ⟨(by decide : I64 0), ht⟩
theorem castV_twice (v : V3) (ty : Int) (hc : v.1 < 0 ∨ 3 < v.1 ∨ checkV v = 0) :
    ((castV v ty).2 ≠ 0 → (castV v ty).1 = nul) ∧ ((castV v ty).2 = 0 → castV (castV v ty).1 ty = castV v ty ∧ 0 ≤ ty ∧ ty ≤ 3 ∧ ((castV v ty).1.1 = 0 ∨ ty = 0 ∨ (castV v ty).1.1 = ty)) := by
  by_cases hb : ty < 0 ∨ 3 < ty ∨ v.1 < 0 ∨ 3 < v.1
  · simp [castV, hb]
  have hc : checkV v = 0 := by omega
  obtain ⟨h1, h2, h3, h4, h5⟩ := checkV_ok hc
  obtain ⟨k, n, s⟩ := v
  simp only at h1 h2 h3 h4 h5 hb ⊢
  have hty : ty = 0 ∨ ty = 1 ∨ ty = 2 ∨ ty = 3 := by omega
  have hk : k = 0 ∨ k = 1 ∨ k = 2 ∨ k = 3 := by omega
  rcases hty with rfl | rfl | rfl | rfl <;> rcases hk with rfl | rfl | rfl | rfl <;> simp_all [castV, numberV]
  by_cases hr : (readL s).2 = 0 <;> simp [hr]
theorem fitsV_rng (v : V3) (ty : Int) (h : I64 v.2.1) (hs : Sz v.2.2) : I64 (fitsV v ty).1.2.1 ∧ Sz (fitsV v ty).1.2.2 := by
  have hr := readL_rng v.2.2
  have ht : Sz (textV v) := textV_sz v h hs
  unfold fitsV numberV
  repeat' split
  all_goals first | exact ⟨h, hs⟩ | exact ⟨hr, Sz_nil⟩ | exact ⟨(by decide : I64 0), Sz_nil⟩ | exact ⟨(by decide : I64 0), ht⟩
theorem fitsV_twice (v : V3) (ty : Int) (h : I64 v.2.1) (hf : (fitsV v ty).2 = true) :
    fitsV (fitsV v ty).1 ty = fitsV v ty ∧ checkV (fitsV v ty).1 = 0 ∧ 0 ≤ ty ∧ ty ≤ 3 ∧ ((fitsV v ty).1.1 = 0 ∨ ty = 0 ∨ (fitsV v ty).1.1 = ty) := by
  by_cases hb : checkV v ≠ 0 ∨ ty < 0 ∨ 3 < ty
  · simp [fitsV, hb] at hf
  have hc : checkV v = 0 := by omega
  obtain ⟨h1, h2, h3, h4, h5⟩ := checkV_ok hc
  have hl := numL_len v.2.1 h
  have hcr : checkV (1, (readL v.2.2).1, []) = 0 := checkV_mk (by simp) (by simp) (by simp) (by simp)
  have hct : ∀ l : List UInt8, (l.length : Int) ≤ 4096 → checkV (2, 0, l) = 0 := fun l hl => checkV_mk (by simp) (by simp) (by simp) (by simpa using hl)
  have hn : checkV (2, 0, numL v.2.1) = 0 := hct _ (by omega)
  clear h hl hct
  obtain ⟨k, n, s⟩ := v
  simp only at h1 h2 h3 h4 h5 hb hcr hn ⊢
  have hty : ty = 0 ∨ ty = 1 ∨ ty = 2 ∨ ty = 3 := by omega
  have hk : k = 0 ∨ k = 1 ∨ k = 2 ∨ k = 3 := by omega
  have hrd : (readL s).2 = 0 ∨ ¬ (readL s).2 = 0 := Classical.em _
  rcases hty with rfl | rfl | rfl | rfl <;> rcases hk with rfl | rfl | rfl | rfl <;> rcases hrd with hrd | hrd <;> simp_all [fitsV, numberV, textV]

theorem walkCasts (v : V3) (ty : Int) (h : I64 v.2.1) (hs : Sz v.2.2) : FnC Try.prog 7 [vD v, iD ty] (bD true) := by
  refine w7 v.1 v.2.1 (bs v.2.2) ty ?_
  refine ⟨_, c_vCheck v, fun hc => ⟨_, _, _, _, c_vFits v ty h hs, _, c_live04, ?_⟩, fun hc => ⟨_, _, _, _, c_vCast v ty h hs, _, _, _, _, c_r4Cast v ty h hs, _, _, _, _, c_vFits v ty h hs, _, _, _, _, c_r4Fits v ty h hs, _, c_live04, ?_⟩⟩
  · have : (fitsV v ty).2 = false := by rw [fitsV, if_pos (.inl hc.1.1)]
    simp [this]
  · simp
theorem walkFits (v : V3) (ty : Int) (h : I64 v.2.1) (hs : Sz v.2.2) : FnC Try.prog 8 [vD v, iD ty] (bD true) := by
  refine w8 v.1 v.2.1 (bs v.2.2) ty ?_
  intro x4 hx4
  subst hx4
  refine ⟨by decide, by decide, fun x5 hx5 => ?_⟩
  have hkind : 0 ≤ ty ∧ ty < 4 → [4] = ((((x5).getD ty.toNat []).drop 0).take 1).map kindC ∧ (0 < ty → (cellAt x5 ty 0).int = ty) := fun hr => by
    have hty : ty = 0 ∨ ty = 1 ∨ ty = 2 ∨ ty = 3 := by omega
    subst hx5
    rcases hty with rfl | rfl | rfl | rfl <;> exact ⟨by decide, by decide⟩
  clear hx5
  have rest : ∀ (hcast : ¬ ((0 ≤ v.1 ∧ v.1 ≤ 3) ∧ ¬ checkV v = 0)), ((castV v ty).2 ≠ 0 → (castV v ty).1 = nul) ∧ ((castV v ty).2 = 0 → castV (castV v ty).1 ty = castV v ty ∧ 0 ≤ ty ∧ ty ≤ 3 ∧ ((castV v ty).1.1 = 0 ∨ ty = 0 ∨ (castV v ty).1.1 = ty)) := fun hc =>
    castV_twice v ty (by
      by_cases h0 : checkV v = 0
      · exact .inr (.inr h0)
      · have : ¬ (0 ≤ v.1 ∧ v.1 ≤ 3) := fun e => hc ⟨e, h0⟩
        omega)
  obtain ⟨cr1, cr2⟩ := castV_rng v ty h hs
  refine ⟨_, _, _, _, c_vFits v ty h hs, fun hf => ?_, fun hf => ?_⟩
  · obtain ⟨f1, f2, f3, f4, f5⟩ := fitsV_twice v ty h hf
    obtain ⟨f6, f7⟩ := fitsV_rng v ty h hs
    refine ⟨_, _, _, _, c_vFits (fitsV v ty).1 ty f6 f7, ?_⟩
    rw [f1]
    refine ⟨_, fun _ => c_vCheck (fitsV v ty).1, ?_⟩
    rw [f2, hf]
    refine ⟨fun _ => by omega, fun _ => (hkind (by omega)).1, fun hbad => ?_, fun _ => ?_⟩
    · exfalso
      rcases hbad with ((((hb | hb) | hb) | hb) | hb) | hb
      · exact hb rfl
      · exact hb ⟨rfl, rfl, rfl, rfl⟩
      · exact hb rfl
      · omega
      · omega
      · have := (hkind (by omega)).2 hb.1.2
        rw [this] at hb
        omega
    refine ⟨_, fun _ => c_vCheck v, fun hc => ⟨_, c_live04, rfl⟩, fun hc => ⟨_, _, _, _, c_vCast v ty h hs, fun he => ⟨_, c_live04, ?_⟩, fun he => ⟨_, _, _, _, c_vCast (castV v ty).1 ty cr1 cr2, _, c_live04, ?_⟩⟩⟩
    · rw [(rest hc).1 he]; simp [bs_toList]
    · obtain ⟨g1, g2, g3, g4⟩ := (rest hc).2 (Classical.not_not.1 he)
      have he := Classical.not_not.1 he
      rw [g1, he]
      refine ⟨fun _ => by omega, fun _ => (hkind (by omega)).1, ?_⟩
      have hk := (hkind (by omega)).2
      have hg : ¬ (castV v ty).1.1 = 0 → ¬ ty = 0 → (castV v ty).1.1 = (cellAt x5 ty 0).int := fun h1 h2 => by rw [hk (by omega)]; omega
      have key : (if (if ((castV v ty).1.1 == 0) then true else (ty == 0)) then true else ((castV v ty).1.1 == (cellAt x5 ty 0).int)) = true := by
        by_cases h1 : (castV v ty).1.1 = 0
        · simp [h1]
        · by_cases h2 : ty = 0
          · simp [h2]
          · rw [← hg h1 h2]; simp
      rw [key]
      simp [g2, g3]
  · refine ⟨_, fun _ => c_vCheck v, fun hc => ⟨_, c_live04, rfl⟩, fun hc => ⟨_, _, _, _, c_vCast v ty h hs, fun he => ⟨_, c_live04, ?_⟩, fun he => ⟨_, _, _, _, c_vCast (castV v ty).1 ty cr1 cr2, _, c_live04, ?_⟩⟩⟩
    · rw [(rest hc).1 he]; simp [bs_toList]
    · obtain ⟨g1, g2, g3, g4⟩ := (rest hc).2 (Classical.not_not.1 he)
      have he := Classical.not_not.1 he
      rw [g1, he]
      refine ⟨fun _ => by omega, fun _ => (hkind (by omega)).1, ?_⟩
      have hk := (hkind (by omega)).2
      have hg : ¬ (castV v ty).1.1 = 0 → ¬ ty = 0 → (castV v ty).1.1 = (cellAt x5 ty 0).int := fun h1 h2 => by rw [hk (by omega)]; omega
      have key : (if (if ((castV v ty).1.1 == 0) then true else (ty == 0)) then true else ((castV v ty).1.1 == (cellAt x5 ty 0).int)) = true := by
        by_cases h1 : (castV v ty).1.1 = 0
        · simp [h1]
        · by_cases h2 : ty = 0
          · simp [h2]
          · rw [← hg h1 h2]; simp
      rw [key]
      simp [g2, g3]
end Go.Proofs.Ytbgndledcnfceaa
