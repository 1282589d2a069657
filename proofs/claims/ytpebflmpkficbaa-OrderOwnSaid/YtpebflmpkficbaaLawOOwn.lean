/- The statement OrderOwn: what is answered is new; writing into it changes nothing of what was handed in. No condition. -/
import Derived.Test.YtpebflmpkficbaaZz
import Derived.Lib.SmallJoins
namespace Go.Proofs.Ytpebflmpkficbaa.lawOOwn
open Go.ChangeShapes Go.WideShapes Go.ChangeAt Go.RowKit
set_option linter.unusedSimpArgs false
set_option linter.unusedVariables false

theorem call0 {f : FuncId} {res : DV} (can : CanEnter Try.prog f) (hF : FnC Try.prog f [] res) (w : World) :
    Calls Try.prog f #[] w fun e w' => ∃ r, e = .returned r ∧ DVR w' (fun _ => False) res r ∧ Below w.heap.size w w' := by
  have := hF.calls can w (fun _ => False) [] glo_none (fun _ h => h.elim) (by simp [DVRs])
  simpa using this
theorem call1 {f : FuncId} {a res : DV} (can : CanEnter Try.prog f) (hF : FnC Try.prog f [a] res) {w : World} {v : Value} (h : DVR w (fun _ => False) a v) :
    Calls Try.prog f #[v] w fun e w' => ∃ r, e = .returned r ∧ DVR w' (fun _ => False) res r ∧ Below w.heap.size w w' := by
  have := hF.calls can w (fun _ => False) [v] glo_none (fun _ h => h.elim) (by simpa [DVRs] using h)
  simpa using this
theorem call2 {f : FuncId} {a b res : DV} (can : CanEnter Try.prog f) (hF : FnC Try.prog f [a, b] res) {w : World} {v u : Value} (h : DVR w (fun _ => False) a v) (h2 : DVR w (fun _ => False) b u) :
    Calls Try.prog f #[v, u] w fun e w' => ∃ r, e = .returned r ∧ DVR w' (fun _ => False) res r ∧ Below w.heap.size w w' := by
  have := hF.calls can w (fun _ => False) [v, u] glo_none (fun _ h => h.elim) (by simp only [DVRs, and_true]; exact ⟨h, h2⟩)
  simpa using this
theorem bD_of {w : World} {X : Nat → Prop} {b : Bool} {r : Value} (h : DVR w X (bD b) r) : r = .bool b := by
  simp only [DVR] at h
  cases h
  rfl
theorem vs_of {w : World} {X : Nat → Prop} {c : List (List CV)} {r : Value} (h : DVR w X (.c (.vs c)) r) : CVR w X (.vs c) r := by
  simpa only [DVR] using h
theorem cv_on {w w' : World} {cv : CV} {r : Value} (h : CVR w (fun _ => False) cv r) (hb : Below w.heap.size w w') : CVR w' (fun _ => False) cv r :=
  h.step ⟨fun b _ hlt => hb.block b hlt, fun _ h => h.elim, hb.size⟩
theorem slice_of {w : World} {c : List (List CV)} {r : Value} (h : CVR w (fun _ => False) (.vs c) r) : ∃ a m, r = .slice a c.length m := by
  rcases CVR_inv h with ⟨hnil, a, rfl⟩ | ⟨b, o, sz, m, g, rfl, _⟩
  · exact ⟨a, 0, by rw [hnil]; rfl⟩
  · exact ⟨_, _, rfl⟩
theorem canFair : CanEnter Try.prog 8 := canEnter_of Try.func8 (by kernel_rfl) (by kernel_rfl)
theorem canLive : CanEnter Try.prog 9 := canEnter_of Try.func9 (by kernel_rfl) (by kernel_rfl)
theorem canSort : CanEnter Try.prog 14 := canEnter_of Try.func14 (by kernel_rfl) (by kernel_rfl)
theorem canUnique : CanEnter Try.prog 21 := canEnter_of Try.func21 (by kernel_rfl) (by kernel_rfl)
theorem canSort6 : CanEnter Try.prog 16 := canEnter_of Try.func16 (by kernel_rfl) (by kernel_rfl)
theorem canUnique6 : CanEnter Try.prog 20 := canEnter_of Try.func20 (by kernel_rfl) (by kernel_rfl)
theorem canSame6 : CanEnter Try.prog 15 := canEnter_of Try.func15 (by kernel_rfl) (by kernel_rfl)

set_option maxHeartbeats 8000000 in
set_option maxRecDepth 100000 in
theorem walk_few (w : World) (v0 : Value) (LL : List (List V3)) (h0 : CVR w (fun _ => False) (.vs (rcL LL)) v0) (hq : ∀ L ∈ LL, ValsOk L) (n0 : LL.length ≤ maxLen) (K : List K3) (a1 : Option Addr) (m1 : Nat) (h1 : CVR w (fun _ => False) (.vs (kc K)) (.slice a1 K.length m1)) (hf : fairL LL = true) (hK : K.length ≤ 64) :
    Calls Try.prog 6 #[v0, .slice a1 K.length m1] w (Ret (.bool true) w) := by
  have hKi : ¬ (64 < (K.length : Int)) := by omega
  go_enter Try.func6, Try.ntmps6
  go_wp2_with fail
  refine (call1 canFair (c_fair LL n0 hq) (DVR_vs h0)).mono ?_
  rintro e w1 ⟨r1, rfl, d1, b1⟩
  obtain rfl := bD_of d1
  rw [hf]
  have hr := fair_rows hf hq
  have hKL : K.length ≤ Lim := by unfold Lim; omega
  have hso := sortL_ok (K := K) hr
  go_wp2_with fail
  have h01 := cv_on h0 b1
  have h11 := cv_on h1 b1
  refine (call2 canSort6 (c_r6Sort LL K hr hKL) (DVR_vs h01) (DVR_vs h11)).mono ?_
  rintro e w2 ⟨r2, rfl, d2, b2⟩
  go_wp2_with fail
  have h02 := cv_on h01 b2
  have h12 := cv_on h11 b2
  refine (call1 canUnique6 (c_r6Unique LL hr) (DVR_vs h02)).mono ?_
  rintro e w3 ⟨r3, rfl, d3, b3⟩
  have d23 := cv_on (vs_of d2) b3
  go_wp2_with fail
  have h03 := cv_on h02 b3
  have h13 := cv_on h12 b3
  have q3 := rows_Q h03
  refine (call2 canSort (c_sortQ w3.heap.size LL K hr hKL) (DVR_vs q3) (DVR_vs h13)).mono ?_
  rintro e w4 ⟨r4, rfl, d4, b4⟩
  go_wp2_with fail
  have q4 := cv_on q3 b4
  refine (call1 canUnique (c_uniqueQ w3.heap.size LL hr) (DVR_vs q4)).mono ?_
  rintro e w5 ⟨r5, rfl, d5, b5⟩
  have T4 := (rS_typed (vs_of d4)).below b5
  have T5 := rS_typed (vs_of d5)
  have B5 : Below w3.heap.size w3 w5 := b4.trans (b5.mono b4.size)
  obtain ⟨ns4, hn4⟩ : ∃ l, l = List.map List.length (sortL K LL) := ⟨_, rfl⟩
  obtain ⟨ns5, hn5⟩ : ∃ l, l = List.map List.length (uniqL LL) := ⟨_, rfl⟩
  rw [← hn4] at T4
  rw [← hn5] at T5
  obtain ⟨a4, c4, rfl⟩ := T4.slice
  obtain ⟨a5, c5, rfl⟩ := T5.slice
  obtain ⟨n4, hl4⟩ : ∃ n, n = ns4.length := ⟨_, rfl⟩
  obtain ⟨n5, hl5⟩ : ∃ n, n = ns5.length := ⟨_, rfl⟩
  rw [← hl4] at T4
  rw [← hl5] at T5
  have hb4 : n4 ≤ 1048576 := by rw [hl4, hn4, List.length_map]; exact hso.1
  have hb5 : n5 ≤ 1048576 := by rw [hl5, hn5, List.length_map]; exact (uniqL_ok hr).1
  rw [← hl4, ← hl5]
  have hm4 : ∀ k ∈ ns4, k ≤ 1048576 := by
    rw [hn4]; intro k hk; obtain ⟨L, hL, rfl⟩ := List.mem_map.1 hk; exact (hso.2 L hL).1
  have hm5 : ∀ k ∈ ns5, k ≤ 1048576 := by
    rw [hn5]; intro k hk; obtain ⟨L, hL, rfl⟩ := List.mem_map.1 hk; exact ((uniqL_ok hr).2 L hL).1
  clear hn4 hn5
  go_wp2_with fail
  go_loopw [9] (fun i wr => ∃ I : Nat, i = .int .i64 I ∧ I ≤ n4 ∧ Below w3.heap.size w3 wr ∧ TRows w3.heap.size ns4 wr (.slice a4 n4 c4) ∧ TRows w3.heap.size ns5 wr (.slice a5 n5 c5)) (fun i _ => n4 - (intOf i).toNat)
  case atStart => exact ⟨0, rfl, by omega, B5, T4, T5⟩
  case round =>
    obtain ⟨I, rfl, hI, hB, hT4, hT5⟩ := hrel
    by_cases hlt : I < n4
    · have hlti : (I : Int) < (n4 : Int) := by omega
      obtain ⟨k, hk⟩ : ∃ k, ns4[I]? = some k := ⟨_, List.getElem?_eq_getElem (by omega)⟩
      have hkm := hm4 k (List.mem_of_getElem? hk)
      go_wp2_with fail
      go_loopw [10] (fun j wr => ∃ J : Nat, j = .int .i64 J ∧ J ≤ k ∧ Below w3.heap.size w3 wr ∧ TRows w3.heap.size ns4 wr (.slice a4 n4 c4) ∧ TRows w3.heap.size ns5 wr (.slice a5 n5 c5)) (fun j _ => k - (intOf j).toNat)
      case atStart => exact ⟨0, rfl, by omega, hB, hT4, hT5⟩
      case round =>
        clear hB hT4 hT5
        obtain ⟨J, rfl, hJ, hB, hT4, hT5⟩ := hrel
        obtain ⟨b, o, a', c', rfl, hcell, hrow⟩ := hT4.at hk
        by_cases hjk : J < k
        · have hjki : (J : Int) < (k : Int) := by omega
          obtain ⟨b', z0, z1, rfl, hlo, hz0, hz1, hf0, hf1⟩ := hrow.at hjk
          go_wp2_with fail
          exact ⟨⟨J + 1, rfl, hjk, hB.setCell hlo _, hT4.set hz1, hT5.set hz1⟩, by simp [intOf]; omega⟩
        · have hjki : ¬ (J : Int) < (k : Int) := by omega
          go_wp2_with fail
          exact ⟨⟨I + 1, rfl, hlt, hB, hT4, hT5⟩, by simp [intOf]; omega⟩
    · have hlti : ¬ (I : Int) < (n4 : Int) := by omega
      clear hT4
      go_wp2_with fail
      go_loopw [11] (fun i wr => ∃ I : Nat, i = .int .i64 I ∧ I ≤ n5 ∧ Below w3.heap.size w3 wr ∧ TRows w3.heap.size ns5 wr (.slice a5 n5 c5)) (fun i _ => n5 - (intOf i).toNat)
      case atStart => exact ⟨0, rfl, by omega, hB, hT5⟩
      case round =>
        clear hB hT5 hlti hlt
        obtain ⟨I, rfl, hI, hB, hT5⟩ := hrel
        by_cases hlt : I < n5
        · have hlti : (I : Int) < (n5 : Int) := by omega
          obtain ⟨k, hk⟩ : ∃ k, ns5[I]? = some k := ⟨_, List.getElem?_eq_getElem (by omega)⟩
          have hkm := hm5 k (List.mem_of_getElem? hk)
          go_wp2_with fail
          go_loopw [12] (fun j wr => ∃ J : Nat, j = .int .i64 J ∧ J ≤ k ∧ Below w3.heap.size w3 wr ∧ TRows w3.heap.size ns5 wr (.slice a5 n5 c5)) (fun j _ => k - (intOf j).toNat)
          case atStart => exact ⟨0, rfl, by omega, hB, hT5⟩
          case round =>
            clear hB hT5
            obtain ⟨J, rfl, hJ, hB, hT5⟩ := hrel
            obtain ⟨b, o, a', c', rfl, hcell, hrow⟩ := hT5.at hk
            by_cases hjk : J < k
            · have hjki : (J : Int) < (k : Int) := by omega
              obtain ⟨b', z0, z1, rfl, hlo, hz0, hz1, hf0, hf1⟩ := hrow.at hjk
              go_wp2_with fail
              exact ⟨⟨J + 1, rfl, hjk, hB.setCell hlo _, hT5.set hz0⟩, by simp [intOf]; omega⟩
            · have hjki : ¬ (J : Int) < (k : Int) := by omega
              go_wp2_with fail
              exact ⟨⟨I + 1, rfl, hlt, hB, hT5⟩, by simp [intOf]; omega⟩
        · have hlti : ¬ (I : Int) < (n5 : Int) := by omega
          have g0 := cv_on h03 hB
          have g1 := cv_on h13 hB
          have g2 := cv_on d23 hB
          have g3 := cv_on (vs_of d3) hB
          go_wp2_with fail
          refine (call0 canLive c_live06 wr).mono ?_
          rintro e w6 ⟨r6, rfl, d6, b6⟩
          obtain rfl := bD_of d6
          go_wp2_with fail
          refine (call2 canSort (c_oSort LL K hr hKL) (DVR_vs (cv_on g0 b6)) (DVR_vs (cv_on g1 b6))).mono ?_
          rintro e w7 ⟨r7, rfl, d7, b7⟩
          go_wp2_with fail
          refine (call2 canSame6 (c_r6Same _ _ hso) d7 (DVR_vs (cv_on (cv_on g2 b6) b7))).mono ?_
          rintro e w8 ⟨r8, rfl, d8, b8⟩
          obtain rfl := bD_of d8
          have h67 := b6.trans (b7.mono b6.size)
          have h68 := h67.trans (b8.mono h67.size)
          go_wp2_with fail
          refine (call1 canUnique (c_oUnique LL hr) (DVR_vs (cv_on g0 h68))).mono ?_
          rintro e w9 ⟨r9, rfl, d9, b9⟩
          have h69 := h68.trans (b9.mono h68.size)
          go_wp2_with fail
          refine (call2 canSame6 (c_r6Same _ _ (uniqL_ok hr)) d9 (DVR_vs (cv_on g3 h69))).mono ?_
          rintro e w10 ⟨r10, rfl, d10, b10⟩
          obtain rfl := bD_of d10
          have h610 := h69.trans (b10.mono h69.size)
          go_wp2_with fail
          go_ret
          refine ⟨ret_bool (by simp), ?_⟩
          have c3 := (b1.trans (b2.mono b1.size)).trans (b3.mono (b1.trans (b2.mono b1.size)).size)
          have cB := c3.trans (hB.mono c3.size)
          exact cB.trans (h610.mono cB.size)
set_option maxHeartbeats 8000000 in
set_option maxRecDepth 100000 in
theorem walk_unfair (w : World) (v0 : Value) (LL : List (List V3)) (h0 : CVR w (fun _ => False) (.vs (rcL LL)) v0) (hq : ∀ L ∈ LL, ValsOk L) (n0 : LL.length ≤ maxLen) (v1 : Value) (hf : fairL LL = false) :
    Calls Try.prog 6 #[v0, v1] w (Ret (.bool true) w) := by
  go_enter Try.func6, Try.ntmps6
  go_wp2_with fail
  refine (call1 canFair (c_fair LL n0 hq) (DVR_vs h0)).mono ?_
  rintro e w1 ⟨r1, rfl, d1, b1⟩
  obtain rfl := bD_of d1
  rw [hf]
  go_wp2_with fail
  refine (call0 canLive c_live06 w1).mono ?_
  rintro e w6 ⟨r6, rfl, d6, b6⟩
  obtain rfl := bD_of d6
  go_wp2_with fail
  go_ret
  exact ⟨rfl, b1.trans (b6.mono b1.size)⟩
set_option maxHeartbeats 8000000 in
set_option maxRecDepth 100000 in
theorem walk_many (w : World) (v0 : Value) (LL : List (List V3)) (h0 : CVR w (fun _ => False) (.vs (rcL LL)) v0) (hq : ∀ L ∈ LL, ValsOk L) (n0 : LL.length ≤ maxLen) (K : List K3) (a1 : Option Addr) (m1 : Nat) (hf : fairL LL = true) (hK : ¬ K.length ≤ 64) :
    Calls Try.prog 6 #[v0, .slice a1 K.length m1] w (Ret (.bool true) w) := by
  have hKi : (64 < (K.length : Int)) := by omega
  go_enter Try.func6, Try.ntmps6
  go_wp2_with fail
  refine (call1 canFair (c_fair LL n0 hq) (DVR_vs h0)).mono ?_
  rintro e w1 ⟨r1, rfl, d1, b1⟩
  obtain rfl := bD_of d1
  rw [hf]
  go_wp2_with fail
  refine (call0 canLive c_live06 w1).mono ?_
  rintro e w6 ⟨r6, rfl, d6, b6⟩
  obtain rfl := bD_of d6
  go_wp2_with fail
  go_ret
  exact ⟨rfl, b1.trans (b6.mono b1.size)⟩
theorem walk (w : World) (v0 : Value) (L0 : List (List V3)) (c0 : CVR w (fun _ => False) (.vs (rcL L0)) v0) (q0 : ∀ L ∈ L0, ValsOk L) (n0 : L0.length ≤ maxLen) (v1 : Value) (L1 : List K3) (c1 : CVR w (fun _ => False) (.vs (kc L1)) v1) (_ : World) :
    Calls Try.prog 6 #[v0, v1] w (Ret (.bool true) w) := by
  cases hf : fairL L0
  · exact walk_unfair w v0 L0 c0 q0 n0 v1 hf
  · obtain ⟨a, m, rfl⟩ := slice_of c1
    rw [kc_len] at c1 ⊢
    by_cases hK : L1.length ≤ 64
    · exact walk_few w v0 L0 c0 q0 n0 L1 a m c1 hf hK
    · exact walk_many w v0 L0 c0 q0 n0 L1 a m hf hK

theorem own : ownKnob Try.prog.godebug = none := by kernel_rfl
theorem laidOut : laidOutB Try.prog = true := by kernel_rfl
set_option maxRecDepth 100000 in
theorem lifted (os : Os) (started : os.Started) (H : Type) (enc : TypeId × Value → H) :
    ReturnsInHanded {} Try.checked os 6 .any (Rows.orderOwnSpec.pre6 enc Try.prog Try.f6 Rows.orderOwnRow.domain false) (Rows.orderOwnSpec.post enc Try.prog Try.f6 false true false false) := by
  refine returnsInHanded_of_change (C := Try.checked) own started (by kernel_rfl) Try.func6
    (ChangeSpec.witness6 (enc := enc) (C := Try.checked) false ⟨#[], #[.slice none 0 0, .slice none 0 0], []⟩ 8 (by kernel_rfl) (by kernel_rfl) (by kernel_rfl) (by kernel_rfl)) ?_
  intro W base args ds gs before hval0 hW _ _
  have hval : ∀ (j : Nat) t v, Try.f6.params[j]? = some t → args[j]? = some v → Value.okWide Try.prog W .any base t v := hval0
  have hW' := hW
  obtain ⟨p, q, hA0, hV, rfl, hfz, hnd⟩ := hW
  have hA : DataW.TrodAll enc Try.prog W 0 (fun _ => true) true Try.f6.params.toList args.toList ds p := hA0
  rw [Try.params6] at hA hval
  obtain ⟨v0, vs0, d0, ds0, p0, q0, hargs, rfl, rfl, h0, r0⟩ := trodAll_cons hA
  obtain ⟨v1, vs1, d1, ds1, p1, q1, rfl, rfl, rfl, h1, r1⟩ := trodAll_cons r0
  obtain ⟨rfl, rfl, rfl⟩ := trodAll_nil r1
  obtain rfl : args = #[v0, v1] := by cases args; simp_all
  obtain ⟨rfl, rfl⟩ := trodVars_none hV
  have k0 := h0
  have lt0 : ∀ x ∈ p0, x.block < W.heap.size := by obtain ⟨m, hm⟩ := k0; exact DataW.trod_lt m _ _ _ hm
  obtain ⟨L0, cL0, qL0, nL0⟩ := rows_arg (hval 0 25 v0 rfl rfl) h0
  have k1 := h1
  have lt1 : ∀ x ∈ p1, x.block < W.heap.size := by obtain ⟨m, hm⟩ := k1; exact DataW.trod_lt m _ _ _ hm
  obtain ⟨L1, cL1⟩ := keys_arg (hval 1 23 v1 rfl rfl) h1
  clear hA0 hval0
  refine (walk W v0 L0 (cL0 : CVR W (fun _ => False) (.vs (rcL L0)) v0) qL0 nL0 v1 L1 (cL1 : CVR W (fun _ => False) (.vs (kc L1)) v1) W).mono fun e W' ⟨he, bel⟩ => ?_
  subst he
  exact ⟨_, rfl, _, _, _, [], _, [], hW', trodAll_mk1 (shut_bool Try.underlying4 _), (trodAll_cons_mk (Below.trod laidOut (by kernel_rfl) (of_decide_eq_true (by kernel_rfl)) k0 bel lt0) (trodAll_cons_mk (Below.trod laidOut (by kernel_rfl) (of_decide_eq_true (by kernel_rfl)) k1 bel lt1) trodAll_mk0)), rfl, bel.frame _, fun h => by cases h⟩
theorem over : Rows.orderOwnRow.holds Try.pinned (OpenSpec.ofChange Rows.orderOwnSpec) :=
  OpenClaim.holds_of_wide 6 Try.f6 rfl rfl rfl rfl rfl rfl rfl ⟨rfl, rfl, rfl, rfl, rfl⟩ rfl rfl rfl rfl rfl (by kernel_rfl) Try.func6 (by kernel_rfl)
    (of_decide_eq_true (by kernel_rfl)) (by unfold Func.isWrapper; first | (rw [if_pos (by decide +kernel)]; kernel_rfl) | (rw [if_neg (by decide +kernel)]; exact ⟨rfl, rfl⟩))
    (fun os started H enc _ => lifted os started H enc)
/-- The statement. -/
theorem proved : Rows.OrderOwnSaid := over

end Go.Proofs.Ytpebflmpkficbaa.lawOOwn
