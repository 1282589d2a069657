/- The statement ValueReckons: for every operator and every two values the law returns true, and reads its arguments only. No condition. -/
import Derived.Test.YtbgndledcnfceaaLive04
import Derived.Lib.SmallJoins
namespace Go.Proofs.Ytbgndledcnfceaa.lawReckons
open Go.ChangeShapes Go.WideShapes Go.ChangeAt Go.RowKit
set_option linter.unusedVariables false

set_option linter.unusedSimpArgs false in
set_option maxHeartbeats 8000000 in
set_option maxRecDepth 100000 in
theorem walk (op : ByteArray) (wop : op.size ≤ maxLen) (ka na : Int) (sa : ByteArray) (wka : (Lit.int .i64 ka).wf = true) (wna : (Lit.int .i64 na).wf = true) (wsa : sa.size ≤ maxLen) (kb nb : Int) (sb : ByteArray) (wkb : (Lit.int .i64 kb).wf = true) (wnb : (Lit.int .i64 nb).wf = true) (wsb : sb.size ≤ maxLen) (w : World) :
    Calls Try.prog 4 #[.string op, Value.agg #[.int .i64 (ka), .int .i64 (na), .string (sa)], Value.agg #[.int .i64 (kb), .int .i64 (nb), .string (sb)]] w (Ret (.bool true) w) := by
  have hna : -9223372036854775808 ≤ na ∧ na ≤ 9223372036854775807 := by simpa [Lit.wf, IntKind.min, IntKind.max, IntKind.bits, IntKind.signed] using wna
  have hnb : -9223372036854775808 ≤ nb ∧ nb ≤ 9223372036854775807 := by simpa [Lit.wf, IntKind.min, IntKind.max, IntKind.bits, IntKind.signed] using wnb
  clear wka wna wsa wkb wnb wsb wop
  go_enter Try.func4, Try.ntmps4
  go_wp2_with fail
  refine (vArith op ka na sa kb nb sb hna hnb _).mono ?_; rintro e w1 ⟨rfl, hb1⟩; obtain ⟨hc1, hf1⟩ := bcell hb1; have hz1 := hb1.size; (try simp at hz1); (try simp only [size_drew, size_drewN] at hc1 hf1); obtain ⟨hl1, hm1⟩ := bsz hb1; (try simp only [size_drew, size_drewN] at hl1 hm1); (try have hl1_0 : w.heap.size < w1.heap.size := by omega); (try have hm1_0 : w.heap.size ≤ w1.heap.size := by omega); (try have hn1_0 : w.heap.size ≠ w1.heap.size := by omega); (try have hl1_1 : w.heap.size + 1 < w1.heap.size := by omega); (try have hm1_1 : w.heap.size + 1 ≤ w1.heap.size := by omega); (try have hn1_1 : w.heap.size + 1 ≠ w1.heap.size := by omega)
  go_wp2_with fail
  refine (rArith op ka na sa kb nb sb hna hnb _).mono ?_; rintro e w2 ⟨rfl, hb2⟩; obtain ⟨hc2, hf2⟩ := bcell hb2; have hz2 := hb2.size; (try simp at hz2); (try simp only [size_drew, size_drewN] at hc2 hf2); obtain ⟨hl2, hm2⟩ := bsz hb2; (try simp only [size_drew, size_drewN] at hl2 hm2); (try have hl2_0 : w.heap.size < w2.heap.size := by omega); (try have hm2_0 : w.heap.size ≤ w2.heap.size := by omega); (try have hn2_0 : w.heap.size ≠ w2.heap.size := by omega); (try have hl2_1 : w.heap.size + 1 < w2.heap.size := by omega); (try have hm2_1 : w.heap.size + 1 ≤ w2.heap.size := by omega); (try have hn2_1 : w.heap.size + 1 ≠ w2.heap.size := by omega); (try have hl2_2 : w1.heap.size < w2.heap.size := by omega); (try have hm2_2 : w1.heap.size ≤ w2.heap.size := by omega); (try have hn2_2 : w1.heap.size ≠ w2.heap.size := by omega)
  go_wp2_with fail
  refine (vJoin ka na sa kb nb sb hna hnb _).mono ?_; rintro e w3 ⟨rfl, hb3⟩; obtain ⟨hc3, hf3⟩ := bcell hb3; have hz3 := hb3.size; (try simp at hz3); (try simp only [size_drew, size_drewN] at hc3 hf3); obtain ⟨hl3, hm3⟩ := bsz hb3; (try simp only [size_drew, size_drewN] at hl3 hm3); (try have hl3_0 : w.heap.size < w3.heap.size := by omega); (try have hm3_0 : w.heap.size ≤ w3.heap.size := by omega); (try have hn3_0 : w.heap.size ≠ w3.heap.size := by omega); (try have hl3_1 : w.heap.size + 1 < w3.heap.size := by omega); (try have hm3_1 : w.heap.size + 1 ≤ w3.heap.size := by omega); (try have hn3_1 : w.heap.size + 1 ≠ w3.heap.size := by omega); (try have hl3_2 : w1.heap.size < w3.heap.size := by omega); (try have hm3_2 : w1.heap.size ≤ w3.heap.size := by omega); (try have hn3_2 : w1.heap.size ≠ w3.heap.size := by omega); (try have hl3_3 : w2.heap.size < w3.heap.size := by omega); (try have hm3_3 : w2.heap.size ≤ w3.heap.size := by omega); (try have hn3_3 : w2.heap.size ≠ w3.heap.size := by omega)
  go_wp2_with fail
  refine (rJoin ka na sa kb nb sb hna hnb _).mono ?_; rintro e w4 ⟨rfl, hb4⟩; obtain ⟨hc4, hf4⟩ := bcell hb4; have hz4 := hb4.size; (try simp at hz4); (try simp only [size_drew, size_drewN] at hc4 hf4); obtain ⟨hl4, hm4⟩ := bsz hb4; (try simp only [size_drew, size_drewN] at hl4 hm4); (try have hl4_0 : w.heap.size < w4.heap.size := by omega); (try have hm4_0 : w.heap.size ≤ w4.heap.size := by omega); (try have hn4_0 : w.heap.size ≠ w4.heap.size := by omega); (try have hl4_1 : w.heap.size + 1 < w4.heap.size := by omega); (try have hm4_1 : w.heap.size + 1 ≤ w4.heap.size := by omega); (try have hn4_1 : w.heap.size + 1 ≠ w4.heap.size := by omega); (try have hl4_2 : w1.heap.size < w4.heap.size := by omega); (try have hm4_2 : w1.heap.size ≤ w4.heap.size := by omega); (try have hn4_2 : w1.heap.size ≠ w4.heap.size := by omega); (try have hl4_3 : w2.heap.size < w4.heap.size := by omega); (try have hm4_3 : w2.heap.size ≤ w4.heap.size := by omega); (try have hn4_3 : w2.heap.size ≠ w4.heap.size := by omega); (try have hl4_4 : w3.heap.size < w4.heap.size := by omega); (try have hm4_4 : w3.heap.size ≤ w4.heap.size := by omega); (try have hn4_4 : w3.heap.size ≠ w4.heap.size := by omega)
  go_wp2_with fail
  refine (live04 _).mono ?_; rintro e w5 ⟨rfl, hb5⟩; obtain ⟨hc5, hf5⟩ := bcell hb5; have hz5 := hb5.size; (try simp at hz5); (try simp only [size_drew, size_drewN] at hc5 hf5); obtain ⟨hl5, hm5⟩ := bsz hb5; (try simp only [size_drew, size_drewN] at hl5 hm5); (try have hl5_0 : w.heap.size < w5.heap.size := by omega); (try have hm5_0 : w.heap.size ≤ w5.heap.size := by omega); (try have hn5_0 : w.heap.size ≠ w5.heap.size := by omega); (try have hl5_1 : w.heap.size + 1 < w5.heap.size := by omega); (try have hm5_1 : w.heap.size + 1 ≤ w5.heap.size := by omega); (try have hn5_1 : w.heap.size + 1 ≠ w5.heap.size := by omega); (try have hl5_2 : w1.heap.size < w5.heap.size := by omega); (try have hm5_2 : w1.heap.size ≤ w5.heap.size := by omega); (try have hn5_2 : w1.heap.size ≠ w5.heap.size := by omega); (try have hl5_3 : w2.heap.size < w5.heap.size := by omega); (try have hm5_3 : w2.heap.size ≤ w5.heap.size := by omega); (try have hn5_3 : w2.heap.size ≠ w5.heap.size := by omega); (try have hl5_4 : w3.heap.size < w5.heap.size := by omega); (try have hm5_4 : w3.heap.size ≤ w5.heap.size := by omega); (try have hn5_4 : w3.heap.size ≠ w5.heap.size := by omega); (try have hl5_5 : w4.heap.size < w5.heap.size := by omega); (try have hm5_5 : w4.heap.size ≤ w5.heap.size := by omega); (try have hn5_5 : w4.heap.size ≠ w5.heap.size := by omega)
  go_wp2_with fail
  all_goals go_ret
  all_goals refine ⟨rfl, ?_⟩
  all_goals repeat (first | exact Below.refl _ _ | assumption | refine Below.drew ?_ | refine below_drewN ?_ _ | refine Below.setCell ?_ (by first | exact Nat.le_refl _ | omega | (simp; done) | (simp; omega)) _ | refine Below.alloc ?_ (by first | exact Nat.le_refl _ | omega | (simp; done) | (simp; omega)) _ | refine Below.trans ?_ (Below.mono (by assumption) (by first | exact Nat.le_refl _ | omega | (simp; done) | (simp; omega))))

theorem own : ownKnob Try.prog.godebug = none := by kernel_rfl
theorem laidOut : laidOutB Try.prog = true := by kernel_rfl
set_option maxRecDepth 100000 in
theorem lifted (os : Os) (started : os.Started) (H : Type) (enc : TypeId × Value → H) :
    ReturnsInHanded {} Try.checked os 4 .any (Rows.valueReckonsSpec.pre6 enc Try.prog Try.f4 Rows.valueReckonsRow.domain false) (Rows.valueReckonsSpec.post enc Try.prog Try.f4 false true false false) := by
  refine returnsInHanded_of_change (C := Try.checked) own started (by kernel_rfl) Try.func4
    (ChangeSpec.witness6 (enc := enc) (C := Try.checked) false ⟨#[], #[.string ⟨#[]⟩, .agg #[.int .i64 0, .int .i64 0, .string ⟨#[]⟩], .agg #[.int .i64 0, .int .i64 0, .string ⟨#[]⟩]], []⟩ 8 (by kernel_rfl) (by kernel_rfl) (by kernel_rfl) (by kernel_rfl)) ?_
  intro W base args ds gs before hval0 hW _ _
  have hval : ∀ (j : Nat) t v, Try.f4.params[j]? = some t → args[j]? = some v → Value.okWide Try.prog W .any base t v := hval0
  have hW' := hW
  obtain ⟨p, q, hA0, hV, rfl, hfz, hnd⟩ := hW
  have hA : DataW.TrodAll enc Try.prog W 0 (fun _ => true) true Try.f4.params.toList args.toList ds p := hA0
  rw [Try.params4] at hA hval
  obtain ⟨v0, vs0, d0, ds0, p0, q0, hargs, rfl, rfl, h0, r0⟩ := trodAll_cons hA
  obtain ⟨v1, vs1, d1, ds1, p1, q1, rfl, rfl, rfl, h1, r1⟩ := trodAll_cons r0
  obtain ⟨v2, vs2, d2, ds2, p2, q2, rfl, rfl, rfl, h2, r2⟩ := trodAll_cons r1
  obtain ⟨rfl, rfl, rfl⟩ := trodAll_nil r2
  obtain rfl : args = #[v0, v1, v2] := by cases args; simp_all
  obtain ⟨rfl, rfl⟩ := trodVars_none hV
  have k0 := h0
  have lt0 : ∀ x ∈ p0, x.block < W.heap.size := by obtain ⟨m, hm⟩ := k0; exact DataW.trod_lt m _ _ _ hm
  obtain ⟨s0, rfl, rfl, rfl, w0⟩ := Go.ChangeMaps.open_string Try.underlying9 (hval 0 9 v0 rfl rfl) h0
  have k1 := h1
  have lt1 : ∀ x ∈ p1, x.block < W.heap.size := by obtain ⟨m, hm⟩ := k1; exact DataW.trod_lt m _ _ _ hm
  obtain ⟨c10, c11, c12, y10, y11, y12, m1, rfl, rfl, rfl, hy10, hy11, hy12⟩ := Go.Joins.open_agg3 Try.underlying23 (by kernel_rfl) (by kernel_rfl) (hval 1 23 v1 rfl rfl) h1
  obtain ⟨a1, e10, rfl, wa1⟩ := DataW.trod_int Try.underlying3 hy10
  obtain ⟨n1, e11, rfl, wn1⟩ := DataW.trod_int Try.underlying2 hy11
  obtain ⟨s1, e12, rfl, ws1⟩ := DataW.trod_string Try.underlying9 hy12
  simp only [List.cons.injEq, and_true] at e10 e11 e12
  subst e10 e11 e12
  have k2 := h2
  have lt2 : ∀ x ∈ p2, x.block < W.heap.size := by obtain ⟨m, hm⟩ := k2; exact DataW.trod_lt m _ _ _ hm
  obtain ⟨c20, c21, c22, y20, y21, y22, m2, rfl, rfl, rfl, hy20, hy21, hy22⟩ := Go.Joins.open_agg3 Try.underlying23 (by kernel_rfl) (by kernel_rfl) (hval 2 23 v2 rfl rfl) h2
  obtain ⟨a2, e20, rfl, wa2⟩ := DataW.trod_int Try.underlying3 hy20
  obtain ⟨n2, e21, rfl, wn2⟩ := DataW.trod_int Try.underlying2 hy21
  obtain ⟨s2, e22, rfl, ws2⟩ := DataW.trod_string Try.underlying9 hy22
  simp only [List.cons.injEq, and_true] at e20 e21 e22
  subst e20 e21 e22
  clear hA0 hval0
  refine (walk s0 w0 a1 n1 s1 wa1 wn1 ws1 a2 n2 s2 wa2 wn2 ws2 W).mono fun e W' ⟨he, bel⟩ => ?_
  subst he
  exact ⟨_, rfl, _, _, _, [], _, [], hW', trodAll_mk1 (shut_bool Try.underlying4 _), (trodAll_cons_mk (Below.trod laidOut (by kernel_rfl) (of_decide_eq_true (by kernel_rfl)) k0 bel lt0) (trodAll_cons_mk (Below.trod laidOut (by kernel_rfl) (of_decide_eq_true (by kernel_rfl)) k1 bel lt1) (trodAll_cons_mk (Below.trod laidOut (by kernel_rfl) (of_decide_eq_true (by kernel_rfl)) k2 bel lt2) trodAll_mk0))), rfl, bel.frame _, fun h => by cases h⟩
theorem over : Rows.valueReckonsRow.holds Try.pinned (OpenSpec.ofChange Rows.valueReckonsSpec) :=
  OpenClaim.holds_of_wide 4 Try.f4 rfl rfl rfl rfl rfl rfl rfl ⟨rfl, rfl, rfl, rfl, rfl⟩ rfl rfl rfl rfl rfl (by kernel_rfl) Try.func4 (by kernel_rfl)
    (of_decide_eq_true (by kernel_rfl)) (by unfold Func.isWrapper; first | (rw [if_pos (by decide +kernel)]; kernel_rfl) | (rw [if_neg (by decide +kernel)]; exact ⟨rfl, rfl⟩))
    (fun os started H enc _ => lifted os started H enc)
/-- The statement. -/
theorem proved : Rows.ValueReckonsSaid := over

end Go.Proofs.Ytbgndledcnfceaa.lawReckons
