/- The statement OrderUnique: each row once, where it came first; and whether rows are the same. No condition. -/
import Derived.Test.YtpebflmpkficbaaOz
import Derived.Lib.SmallJoins
namespace Go.Proofs.Ytpebflmpkficbaa.lawOUnique
open Go.ChangeShapes Go.WideShapes Go.ChangeAt Go.RowKit
set_option linter.unusedSimpArgs false
set_option linter.unusedVariables false

theorem walk (w : World) (v0 : Value) (L0 : List (List V3)) (c0 : CVR w (fun _ => False) (.vs (rcL L0)) v0) (q0 : ∀ L ∈ L0, ValsOk L) (n0 : L0.length ≤ maxLen) (v1 : Value) (L1 : List (List V3)) (c1 : CVR w (fun _ => False) (.vs (rcL L1)) v1) (q1 : ∀ L ∈ L1, ValsOk L) (n1 : L1.length ≤ maxLen) (_ : World) :
    Calls Try.prog 7 #[v0, v1] w (Ret (.bool true) w) :=
  ret_ofF (walkUnique L0 L1 n0 q0 n1 q1) _ w glo_none (by
    simp only [DVRs]
    exact ⟨vs_D c0, vs_D c1, trivial⟩)

theorem own : ownKnob Try.prog.godebug = none := by kernel_rfl
theorem laidOut : laidOutB Try.prog = true := by kernel_rfl
set_option maxRecDepth 100000 in
theorem lifted (os : Os) (started : os.Started) (H : Type) (enc : TypeId × Value → H) :
    ReturnsInHanded {} Try.checked os 7 .any (Rows.orderUniqueSpec.pre6 enc Try.prog Try.f7 Rows.orderUniqueRow.domain false) (Rows.orderUniqueSpec.post enc Try.prog Try.f7 false true false false) := by
  refine returnsInHanded_of_change (C := Try.checked) own started (by kernel_rfl) Try.func7
    (ChangeSpec.witness6 (enc := enc) (C := Try.checked) false ⟨#[], #[.slice none 0 0, .slice none 0 0], []⟩ 8 (by kernel_rfl) (by kernel_rfl) (by kernel_rfl) (by kernel_rfl)) ?_
  intro W base args ds gs before hval0 hW _ _
  have hval : ∀ (j : Nat) t v, Try.f7.params[j]? = some t → args[j]? = some v → Value.okWide Try.prog W .any base t v := hval0
  have hW' := hW
  obtain ⟨p, q, hA0, hV, rfl, hfz, hnd⟩ := hW
  have hA : DataW.TrodAll enc Try.prog W 0 (fun _ => true) true Try.f7.params.toList args.toList ds p := hA0
  rw [Try.params7] at hA hval
  obtain ⟨v0, vs0, d0, ds0, p0, q0, hargs, rfl, rfl, h0, r0⟩ := trodAll_cons hA
  obtain ⟨v1, vs1, d1, ds1, p1, q1, rfl, rfl, rfl, h1, r1⟩ := trodAll_cons r0
  obtain ⟨rfl, rfl, rfl⟩ := trodAll_nil r1
  obtain rfl : args = #[v0, v1] := by cases args; simp_all
  obtain ⟨rfl, rfl⟩ := trodVars_none hV
  have k0 := h0
  have lt0 : ∀ x ∈ p0, x.block < W.heap.size := by obtain ⟨m, hm⟩ := k0; exact DataW.trod_lt m _ _ _ hm
  obtain ⟨L0, cL0, qL0, nL0⟩ := rows_arg (hval 0 25 v0 rfl rfl) h0
  have k1 := h1
  have lt1 : ∀ x ∈ p1, x.block < W.heap.size := by obtain ⟨m, hm⟩ := k1; exact DataW.trod_lt m _ _ _ hm
  obtain ⟨L1, cL1, qL1, nL1⟩ := rows_arg (hval 1 25 v1 rfl rfl) h1
  clear hA0 hval0
  refine (walk W v0 L0 (cL0 : CVR W (fun _ => False) (.vs (rcL L0)) v0) qL0 nL0 v1 L1 (cL1 : CVR W (fun _ => False) (.vs (rcL L1)) v1) qL1 nL1 W).mono fun e W' ⟨he, bel⟩ => ?_
  subst he
  exact ⟨_, rfl, _, _, _, [], _, [], hW', trodAll_mk1 (shut_bool Try.underlying4 _), (trodAll_cons_mk (Below.trod laidOut (by kernel_rfl) (of_decide_eq_true (by kernel_rfl)) k0 bel lt0) (trodAll_cons_mk (Below.trod laidOut (by kernel_rfl) (of_decide_eq_true (by kernel_rfl)) k1 bel lt1) trodAll_mk0)), rfl, bel.frame _, fun h => by cases h⟩
theorem over : Rows.orderUniqueRow.holds Try.pinned (OpenSpec.ofChange Rows.orderUniqueSpec) :=
  OpenClaim.holds_of_wide 7 Try.f7 rfl rfl rfl rfl rfl rfl rfl ⟨rfl, rfl, rfl, rfl, rfl⟩ rfl rfl rfl rfl rfl (by kernel_rfl) Try.func7 (by kernel_rfl)
    (of_decide_eq_true (by kernel_rfl)) (by unfold Func.isWrapper; first | (rw [if_pos (by decide +kernel)]; kernel_rfl) | (rw [if_neg (by decide +kernel)]; exact ⟨rfl, rfl⟩))
    (fun os started H enc _ => lifted os started H enc)
/-- The statement. -/
theorem proved : Rows.OrderUniqueSaid := over

end Go.Proofs.Ytpebflmpkficbaa.lawOUnique
