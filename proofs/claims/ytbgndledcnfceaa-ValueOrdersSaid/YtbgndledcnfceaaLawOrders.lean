/- The statement ValueOrders: for every two values and every number the law returns true, and reads its arguments only. No condition. -/
import Derived.Test.YtbgndledcnfceaaLive04
import Derived.Lib.SmallJoins
namespace Go.Proofs.Ytbgndledcnfceaa.lawOrders
open Go.ChangeShapes Go.WideShapes Go.ChangeAt Go.RowKit
set_option linter.unusedVariables false

set_option linter.unusedSimpArgs false in
set_option maxHeartbeats 8000000 in
set_option maxRecDepth 100000 in
theorem walk (ka na : Int) (sa : ByteArray) (wka : (Lit.int .i64 ka).wf = true) (wna : (Lit.int .i64 na).wf = true) (wsa : sa.size ≤ maxLen) (kb nb : Int) (sb : ByteArray) (wkb : (Lit.int .i64 kb).wf = true) (wnb : (Lit.int .i64 nb).wf = true) (wsb : sb.size ≤ maxLen) (coll : Int) (wc : (Lit.int .i64 coll).wf = true) (w : World) :
    Calls Try.prog 3 #[Value.agg #[.int .i64 (ka), .int .i64 (na), .string (sa)], Value.agg #[.int .i64 (kb), .int .i64 (nb), .string (sb)], .int .i64 coll] w (Ret (.bool true) w) := by
  have hsa : sa.size ≤ 9223372036854775807 := wsa
  have hsb : sb.size ≤ 9223372036854775807 := wsb
  clear wka wna wsa wkb wnb wsb wc
  go_enter Try.func3, Try.ntmps3
  go_wp2_with fail
  refine (vTruth _ _ _ _).mono ?_; rintro e w1 ⟨rfl, hb1⟩; obtain ⟨hc1, hf1⟩ := bcell hb1; have hz1 := hb1.size; (try simp at hz1); (try simp only [size_drew, size_drewN] at hc1 hf1); obtain ⟨hl1, hm1⟩ := bsz hb1; (try simp only [size_drew, size_drewN] at hl1 hm1); (try have hl1_0 : w.heap.size < w1.heap.size := by omega); (try have hm1_0 : w.heap.size ≤ w1.heap.size := by omega); (try have hn1_0 : w.heap.size ≠ w1.heap.size := by omega); (try have hl1_1 : w.heap.size + 1 < w1.heap.size := by omega); (try have hm1_1 : w.heap.size + 1 ≤ w1.heap.size := by omega); (try have hn1_1 : w.heap.size + 1 ≠ w1.heap.size := by omega)
  go_wp2_with fail
  refine (rTruth _ _ _ _).mono ?_; rintro e w2 ⟨rfl, hb2⟩; obtain ⟨hc2, hf2⟩ := bcell hb2; have hz2 := hb2.size; (try simp at hz2); (try simp only [size_drew, size_drewN] at hc2 hf2); obtain ⟨hl2, hm2⟩ := bsz hb2; (try simp only [size_drew, size_drewN] at hl2 hm2); (try have hl2_0 : w.heap.size < w2.heap.size := by omega); (try have hm2_0 : w.heap.size ≤ w2.heap.size := by omega); (try have hn2_0 : w.heap.size ≠ w2.heap.size := by omega); (try have hl2_1 : w.heap.size + 1 < w2.heap.size := by omega); (try have hm2_1 : w.heap.size + 1 ≤ w2.heap.size := by omega); (try have hn2_1 : w.heap.size + 1 ≠ w2.heap.size := by omega)
  go_wp2_with fail
  simp only [List.append_eq, List.cons_append, List.nil_append]
  ((with_reducible refine region_draws ?_); refine region_plus (by kernel_rfl) (by kernel_rfl) ?_; (repeat (go_big_quiet_step ((first | (go_at_call 11; exact plus_of (live04 _)) | (go_at_call 12; exact plus_of (vCompare _ _ _ _ _ _ _ hsa hsb _)) | (go_at_call 13; exact plus_of (rCompare _ _ _ _ _ _ _ hsa hsb _)) | (go_at_call 14; exact plus_of (vCheck _ _ _ _)) | (go_at_call 15; exact plus_of (rCheck _ _ _ _)) | (go_at_call 16; exact plus_of (vNum _ _)) | (go_at_call 17; exact plus_of (rNum _ _)) | (go_at_call 18; exact plus_of (vStr _ _)) | (go_at_call 19; exact plus_of (rStr _ _)) | (go_at_call 20; exact plus_of (vBytes _ _)) | (go_at_call 21; exact plus_of (rBytes _ _)) | (go_at_call 22; exact plus_of (vBool _ _)) | (go_at_call 23; exact plus_of (rBool _ _)))))); refine wpQuiet_nil ?_; intro w3 hb3; obtain ⟨hc3, hf3⟩ := bcell hb3; have hz3 := hb3.size; (try simp at hz3); obtain ⟨hl3, hm3⟩ := bsz hb3; (try have hl3_0 : w.heap.size < w3.heap.size := by omega); (try have hm3_0 : w.heap.size ≤ w3.heap.size := by omega); (try have hl3_1 : w.heap.size + 1 < w3.heap.size := by omega); (try have hm3_1 : w.heap.size + 1 ≤ w3.heap.size := by omega); (try have hl3_2 : w.heap.size + 1 + 1 < w3.heap.size := by omega); (try have hm3_2 : w.heap.size + 1 + 1 ≤ w3.heap.size := by omega); (try have hl3_3 : w.heap.size + 1 + 1 + 1 < w3.heap.size := by omega); (try have hm3_3 : w.heap.size + 1 + 1 + 1 ≤ w3.heap.size := by omega); (try have hl3_4 : w1.heap.size < w3.heap.size := by omega); (try have hm3_4 : w1.heap.size ≤ w3.heap.size := by omega); (try have hl3_5 : w1.heap.size + 1 < w3.heap.size := by omega); (try have hm3_5 : w1.heap.size + 1 ≤ w3.heap.size := by omega); (try have hl3_6 : w2.heap.size < w3.heap.size := by omega); (try have hm3_6 : w2.heap.size ≤ w3.heap.size := by omega); (try have hl3_7 : w2.heap.size + 1 < w3.heap.size := by omega); (try have hm3_7 : w2.heap.size + 1 ≤ w3.heap.size := by omega))
  go_wp2_with fail
  all_goals go_ret
  all_goals refine ⟨rfl, ?_⟩
  all_goals repeat (first | exact Below.refl _ _ | assumption | refine Below.drew ?_ | refine below_drewN ?_ _ | refine Below.setCell ?_ (by first | exact Nat.le_refl _ | omega | (simp; done) | (simp; omega)) _ | refine Below.alloc ?_ (by first | exact Nat.le_refl _ | omega | (simp; done) | (simp; omega)) _ | refine Below.trans ?_ (Below.mono (by assumption) (by first | exact Nat.le_refl _ | omega | (simp; done) | (simp; omega))))

theorem own : ownKnob Try.prog.godebug = none := by kernel_rfl
theorem laidOut : laidOutB Try.prog = true := by kernel_rfl
set_option maxRecDepth 100000 in
theorem lifted (os : Os) (started : os.Started) (H : Type) (enc : TypeId × Value → H) :
    ReturnsInHanded {} Try.checked os 3 .any (Rows.valueOrdersSpec.pre6 enc Try.prog Try.f3 Rows.valueOrdersRow.domain false) (Rows.valueOrdersSpec.post enc Try.prog Try.f3 false true false false) := by
  refine returnsInHanded_of_change (C := Try.checked) own started (by kernel_rfl) Try.func3
    (ChangeSpec.witness6 (enc := enc) (C := Try.checked) false ⟨#[], #[.agg #[.int .i64 0, .int .i64 0, .string ⟨#[]⟩], .agg #[.int .i64 0, .int .i64 0, .string ⟨#[]⟩], .int .i64 0], []⟩ 8 (by kernel_rfl) (by kernel_rfl) (by kernel_rfl) (by kernel_rfl)) ?_
  intro W base args ds gs before hval0 hW _ _
  have hval : ∀ (j : Nat) t v, Try.f3.params[j]? = some t → args[j]? = some v → Value.okWide Try.prog W .any base t v := hval0
  have hW' := hW
  obtain ⟨p, q, hA0, hV, rfl, hfz, hnd⟩ := hW
  have hA : DataW.TrodAll enc Try.prog W 0 (fun _ => true) true Try.f3.params.toList args.toList ds p := hA0
  rw [Try.params3] at hA hval
  obtain ⟨v0, vs0, d0, ds0, p0, q0, hargs, rfl, rfl, h0, r0⟩ := trodAll_cons hA
  obtain ⟨v1, vs1, d1, ds1, p1, q1, rfl, rfl, rfl, h1, r1⟩ := trodAll_cons r0
  obtain ⟨v2, vs2, d2, ds2, p2, q2, rfl, rfl, rfl, h2, r2⟩ := trodAll_cons r1
  obtain ⟨rfl, rfl, rfl⟩ := trodAll_nil r2
  obtain rfl : args = #[v0, v1, v2] := by cases args; simp_all
  obtain ⟨rfl, rfl⟩ := trodVars_none hV
  have k0 := h0
  have lt0 : ∀ x ∈ p0, x.block < W.heap.size := by obtain ⟨m, hm⟩ := k0; exact DataW.trod_lt m _ _ _ hm
  obtain ⟨c00, c01, c02, y00, y01, y02, m0, rfl, rfl, rfl, hy00, hy01, hy02⟩ := Go.Joins.open_agg3 Try.underlying23 (by kernel_rfl) (by kernel_rfl) (hval 0 23 v0 rfl rfl) h0
  obtain ⟨a0, e00, rfl, wa0⟩ := DataW.trod_int Try.underlying3 hy00
  obtain ⟨n0, e01, rfl, wn0⟩ := DataW.trod_int Try.underlying2 hy01
  obtain ⟨s0, e02, rfl, ws0⟩ := DataW.trod_string Try.underlying9 hy02
  simp only [List.cons.injEq, and_true] at e00 e01 e02
  subst e00 e01 e02
  have k1 := h1
  have lt1 : ∀ x ∈ p1, x.block < W.heap.size := by obtain ⟨m, hm⟩ := k1; exact DataW.trod_lt m _ _ _ hm
  obtain ⟨c10, c11, c12, y10, y11, y12, m1, rfl, rfl, rfl, hy10, hy11, hy12⟩ := Go.Joins.open_agg3 Try.underlying23 (by kernel_rfl) (by kernel_rfl) (hval 1 23 v1 rfl rfl) h1
  obtain ⟨a1, e10, rfl, wa1⟩ := DataW.trod_int Try.underlying3 hy10
  obtain ⟨n1, e11, rfl, wn1⟩ := DataW.trod_int Try.underlying2 hy11
  obtain ⟨s1, e12, rfl, ws1⟩ := DataW.trod_string Try.underlying9 hy12
  simp only [List.cons.injEq, and_true] at e10 e11 e12
  subst e10 e11 e12
  have k2 := h2
  have lt2 : ∀ x ∈ p2, x.block < W.heap.size := by obtain ⟨m, hm⟩ := k2; exact DataW.trod_lt m _ _ _ hm
  obtain ⟨a2, rfl, rfl, rfl, w2⟩ := open_int Try.underlying3 (hval 2 3 v2 rfl rfl) h2
  clear hA0 hval0
  refine (walk a0 n0 s0 wa0 wn0 ws0 a1 n1 s1 wa1 wn1 ws1 a2 w2 W).mono fun e W' ⟨he, bel⟩ => ?_
  subst he
  exact ⟨_, rfl, _, _, _, [], _, [], hW', trodAll_mk1 (shut_bool Try.underlying4 _), (trodAll_cons_mk (Below.trod laidOut (by kernel_rfl) (of_decide_eq_true (by kernel_rfl)) k0 bel lt0) (trodAll_cons_mk (Below.trod laidOut (by kernel_rfl) (of_decide_eq_true (by kernel_rfl)) k1 bel lt1) (trodAll_cons_mk (Below.trod laidOut (by kernel_rfl) (of_decide_eq_true (by kernel_rfl)) k2 bel lt2) trodAll_mk0))), rfl, bel.frame _, fun h => by cases h⟩
theorem over : Rows.valueOrdersRow.holds Try.pinned (OpenSpec.ofChange Rows.valueOrdersSpec) :=
  OpenClaim.holds_of_wide 3 Try.f3 rfl rfl rfl rfl rfl rfl rfl ⟨rfl, rfl, rfl, rfl, rfl⟩ rfl rfl rfl rfl rfl (by kernel_rfl) Try.func3 (by kernel_rfl)
    (of_decide_eq_true (by kernel_rfl)) (by unfold Func.isWrapper; first | (rw [if_pos (by decide +kernel)]; kernel_rfl) | (rw [if_neg (by decide +kernel)]; exact ⟨rfl, rfl⟩))
    (fun os started H enc _ => lifted os started H enc)
/-- The statement. -/
theorem proved : Rows.ValueOrdersSaid := over

end Go.Proofs.Ytbgndledcnfceaa.lawOrders
