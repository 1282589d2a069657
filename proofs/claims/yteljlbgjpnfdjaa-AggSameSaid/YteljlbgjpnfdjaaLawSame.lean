/- The statement AggSame: a distinct aggregate of values, each twice, is the one of each once; counts; the least and the greatest are there. No condition. -/
import Derived.Test.YteljlbgjpnfdjaaHt
import Derived.Test.YteljlbgjpnfdjaaFz
import Derived.Lib.SmallJoins
namespace Go.Proofs.Yteljlbgjpnfdjaa.lawSame
open Go.ChangeShapes Go.WideShapes Go.ChangeAt Go.RowKit
set_option linter.unusedSimpArgs false
set_option linter.unusedVariables false

theorem walk (w : World) (v : Value) (L : List V3) (cL : CVR w (fun _ => False) (.vs (vc L)) v) (q : ∀ v ∈ L, ValOk v) (n : L.length ≤ maxLen) (_ : World) :
    Calls Try.prog 5 #[v] w (Ret (.bool true) w) :=
  ret_ofF (canEnter_of Try.func5 (by kernel_rfl) (by rfl)) (walkSame L (fun v hv => ⟨by have := (q v hv).2.2; unfold Sz; unfold maxLen at this; omega, (q v hv).2.1⟩)) _ w glo_none (by
    simp only [DVRs, DVR]
    exact ⟨cL, trivial⟩)

theorem own : ownKnob Try.prog.godebug = none := by kernel_rfl
theorem laidOut : laidOutB Try.prog = true := by kernel_rfl
set_option maxRecDepth 100000 in
theorem lifted (os : Os) (started : os.Started) (H : Type) (enc : TypeId × Value → H) :
    ReturnsInHanded {} Try.checked os 5 .any (Rows.aggSameSpec.pre6 enc Try.prog Try.f5 Rows.aggSameRow.domain false) (Rows.aggSameSpec.post enc Try.prog Try.f5 false true false false) := by
  refine returnsInHanded_of_change (C := Try.checked) own started (by kernel_rfl) Try.func5
    (ChangeSpec.witness6 (enc := enc) (C := Try.checked) false ⟨#[], #[.slice none 0 0], []⟩ 8 (by kernel_rfl) (by kernel_rfl) (by kernel_rfl) (by kernel_rfl)) ?_
  intro W base args ds gs before hval0 hW _ _
  have hval : ∀ (j : Nat) t v, Try.f5.params[j]? = some t → args[j]? = some v → Value.okWide Try.prog W .any base t v := hval0
  have hW' := hW
  obtain ⟨p, q, hA0, hV, rfl, hfz, hnd⟩ := hW
  have hA : DataW.TrodAll enc Try.prog W 0 (fun _ => true) true Try.f5.params.toList args.toList ds p := hA0
  rw [Try.params5] at hA hval
  obtain ⟨v0, vs0, d0, ds0, p0, q0, hargs, rfl, rfl, h0, r0⟩ := trodAll_cons hA
  obtain ⟨rfl, rfl, rfl⟩ := trodAll_nil r0
  obtain rfl : args = #[v0] := by cases args; simp_all
  obtain ⟨rfl, rfl⟩ := trodVars_none hV
  have k0 := h0
  have lt0 : ∀ x ∈ p0, x.block < W.heap.size := by obtain ⟨m, hm⟩ := k0; exact DataW.trod_lt m _ _ _ hm
  obtain ⟨L0, cL0, qL0, nL0⟩ := vals_arg (hval 0 22 v0 rfl rfl) h0
  clear hA0 hval0
  refine (walk W v0 L0 (cL0 : CVR W (fun _ => False) (.vs (vc L0)) v0) qL0 nL0 W).mono fun e W' ⟨he, bel⟩ => ?_
  subst he
  exact ⟨_, rfl, _, _, _, [], _, [], hW', trodAll_mk1 (shut_bool Try.underlying4 _), (trodAll_cons_mk (Below.trod laidOut (by kernel_rfl) (of_decide_eq_true (by kernel_rfl)) k0 bel lt0) trodAll_mk0), rfl, bel.frame _, fun h => by cases h⟩
theorem over : Rows.aggSameRow.holds Try.pinned (OpenSpec.ofChange Rows.aggSameSpec) :=
  OpenClaim.holds_of_wide 5 Try.f5 rfl rfl rfl rfl rfl rfl rfl ⟨rfl, rfl, rfl, rfl, rfl⟩ rfl rfl rfl rfl rfl (by kernel_rfl) Try.func5 (by kernel_rfl)
    (of_decide_eq_true (by kernel_rfl)) (by unfold Func.isWrapper; first | (rw [if_pos (by decide +kernel)]; kernel_rfl) | (rw [if_neg (by decide +kernel)]; exact ⟨rfl, rfl⟩))
    (fun os started H enc _ => lifted os started H enc)
/-- The statement. -/
theorem proved : Rows.AggSameSaid := over

end Go.Proofs.Yteljlbgjpnfdjaa.lawSame
