/- Two sorters side by side. No condition. Are rows few, and short? Conditions: fewer than 2^62 values in each. What SorterRuns computes: true. Conditions: at most 2^20 keys; rows that an argument can hold. From the given reading of keys and rows to closed data, and how much they are. No condition. -/
import Derived.Test.YtdgjcdhomfhfpaaSz
import Derived.Test.YtdgjcdhomfhfpaaOz
import Derived.Test.YtdgjcdhomfhfpaaRows
import Derived.Lib.SmallJoins
namespace Go.Proofs.Ytdgjcdhomfhfpaa
open Go.RowKit Go.IntWalk
set_option linter.unusedSimpArgs false
set_option linter.unusedVariables false

abbrev NoX : Nat → Prop := fun _ => False
/-- two sorters of one's own, made since w, by the same keys, of the same rows -/
structure Two (K : List K3) (na nb : Nat) (w : World) (sa sb : Nat) (LL LM : List (List V3)) (W : World) (ta tb : Option (Nat × Nat)) : Prop where
  ga : w.heap.size ≤ sa
  gb : w.heap.size ≤ sb
  ha : ∀ b, AtB ta b → w.heap.size ≤ b
  hb : ∀ b, AtB tb b → w.heap.size ≤ b
  hB : Below w.heap.size w W
  A : SorP K na (fun _ => True) LL W (OwnO NoX sb tb) sa ta
  B : SorP K nb (fun _ => True) LM W (OwnO NoX sa ta) sb tb
section
variable {K : List K3} {na nb : Nat} {w : World} {sa sb : Nat} {LL LM : List (List V3)} {W W' : World} {ta tb : Option (Nat × Nat)}
theorem Two.below (h : Two K na nb w sa sb LL LM W ta tb) (hB : Below W.heap.size W W') : Two K na nb w sa sb LL LM W' ta tb :=
  ⟨h.ga, h.gb, h.ha, h.hb, h.hB.trans (hB.mono h.hB.size), h.A.step (fun b _ h => hB.block b h) (fun b h => .inl h) hB.size, h.B.step (fun b _ h => hB.block b h) (fun b h => .inl h) hB.size⟩
theorem Two.swap (h : Two K na nb w sa sb LL LM W ta tb) : Two K nb na w sb sa LM LL W tb ta := ⟨h.gb, h.ga, h.hb, h.ha, h.hB, h.B, h.A⟩
theorem SorP.own_lt {n : Nat} {P : Nat → Prop} {X : Nat → Prop} (h : SorP K n P LL W X sa ta) : ∀ b, OwnO NoX sa ta b → b < W.heap.size := fun b hb => by
  rcases hb with hb | rfl | hb
  · exact hb.elim
  · exact h.lt
  · exact (h.row b hb).1
theorem Two.addA (h : Two K na nb w sa sb LL LM W ta tb) (hl : LL.length < 65536) {L : List V3} (hL : L.length ≤ 1048576) {x : Value} (hx : CVR w NoX (.vs (vc L)) x) :
    Calls Try.prog 10 #[.pointer (some ⟨sa, 0, none⟩), x] W fun e w' => e = .returned (.int .i64 0) ∧ ∃ ta', Two K na nb w sa sb (LL ++ [L]) LM w' ta' tb := by
  have hge : ∀ b, OwnO (OwnO NoX sb tb) sa ta b → w.heap.size ≤ b := fun b hb => by
    rcases hb with (hb | rfl | hb) | rfl | hb
    · exact hb.elim
    · exact h.gb
    · exact h.hb b hb
    · exact h.ga
    · exact h.ha b hb
  refine Calls.mono (h.A.add h.B.own_lt hl (lo := 0) (fun _ _ => trivial) hL (rowQ_of (hx.step ⟨fun b _ hlt => h.hB.block b hlt, fun b hb => .inr (hge b hb), h.hB.size⟩) (Nat.zero_le _))) ?_
  rintro e w' ⟨he, ta', ht⟩
  have hz := h.hB.size
  refine ⟨he, ta', ⟨h.ga, h.gb, fun b hb => ?_, h.hb, ht.turn.below h.hB hz h.ga h.ha, ht.sor, h.B.step (fun b hb hlt => ht.turn.heap b hlt (fun e => hb (.inr (.inl e))) (fun e => hb (.inr (.inr e)))) (fun b hb => ?_) ht.turn.size⟩⟩
  · rcases ht.own b hb with h1 | h1
    · exact h.ha b h1
    · omega
  · rcases hb with hb | hb | hb
    · exact hb.elim
    · exact .inl (.inr (.inl hb))
    · rcases ht.own b hb with h1 | h1
      · exact .inl (.inr (.inr h1))
      · exact .inr h1
theorem Two.addB (h : Two K na nb w sa sb LL LM W ta tb) (hl : LM.length < 65536) {L : List V3} (hL : L.length ≤ 1048576) {x : Value} (hx : CVR w NoX (.vs (vc L)) x) :
    Calls Try.prog 10 #[.pointer (some ⟨sb, 0, none⟩), x] W fun e w' => e = .returned (.int .i64 0) ∧ ∃ tb', Two K na nb w sa sb LL (LM ++ [L]) w' ta tb' := by
  refine Calls.mono (h.swap.addA hl hL hx) ?_
  rintro e w' ⟨he, tb', ht⟩
  exact ⟨he, tb', ht.swap⟩
theorem Two.start {W1 W2 : World} (hA : LvS K na w sa [] W1 none) (hb : W1.heap.size ≤ sb) (hB : Below W1.heap.size W1 W2) (hS : SorP K nb (fun _ => True) [] W2 (OwnO NoX sa none) sb none) : Two K na nb w sa sb [] [] W2 none none := by
  have hz := hA.hB.size
  refine ⟨hA.ge, by omega, fun b ⟨_, h⟩ => (by cases h), fun b ⟨_, h⟩ => (by cases h), hA.hB.trans (hB.mono hz), hA.sor.step (fun b _ h => hB.block b h) (fun b h => ?_) hB.size, hS⟩
  rcases h with h | rfl | ⟨_, h⟩
  · exact .inl h
  · exact .inr hb
  · cases h
theorem Two.sortA (h : Two K na nb w sa sb LL LM W ta tb) (h1 : 1 ≤ na) (h2 : na ≤ 65536) : SortN K LL na NoX W (.pointer (some ⟨sa, 0, none⟩)) := .inr ⟨sa, rfl, h.A.lt, h.A.sortR h1 h2⟩
theorem Two.sortB (h : Two K na nb w sa sb LL LM W ta tb) (h1 : 1 ≤ nb) (h2 : nb ≤ 65536) : SortN K LM nb NoX W (.pointer (some ⟨sb, 0, none⟩)) := .inr ⟨sb, rfl, h.B.lt, h.B.sortR h1 h2⟩
end
end Go.Proofs.Ytdgjcdhomfhfpaa
namespace Go.Proofs.Ytdgjcdhomfhfpaa
open Go.RowKit Go.IntWalk
set_option linter.unusedSimpArgs false
set_option linter.unusedVariables false

def smallL (LL : List (List V3)) : Bool := decide (LL.length ≤ 200) && LL.all fun L => decide (L.length ≤ 20)
theorem small_at {LL : List (List V3)} {I : Nat} (hI : I < LL.length) : (LL.drop I).all (fun L => decide (L.length ≤ 20)) = (decide ((LL.getD I []).length ≤ 20) && (LL.drop (I + 1)).all fun L => decide (L.length ≤ 20)) := by
  rw [List.drop_eq_getElem_cons hI, List.all_cons, List.getD_eq_getElem?_getD, List.getElem?_eq_getElem hI]
  rfl
theorem c_small (LL : List (List V3)) (hn : LL.length ≤ 4611686018427387903) : FnC Try.prog 8 [.c (.vs (rcL LL))] (bD (smallL LL)) := by
  refine w8 (rcL LL) ?_
  rw [rcL_len]
  refine ⟨fun h => ?_, fun h => ⟨fun x k => ∃ I : Nat, x = I ∧ I ≤ LL.length ∧ smallL LL = (LL.drop I).all (fun L => decide (L.length ≤ 20)) ∧ k = LL.length - I, ⟨_, 0, rfl, by omega, ?_, rfl⟩, ?_⟩⟩
  · have : smallL LL = false := by unfold smallL; rw [decide_eq_false (by omega)]; rfl
    rw [this]
  · unfold smallL; rw [decide_eq_true (by omega)]; simp
  rintro k x ⟨I, rfl, hI, hs, rfl⟩
  refine ⟨fun hi => ?_, fun hi => ?_⟩
  · have hI' : I < LL.length := by omega
    have hsm := small_at hI'
    have e0 : (cellAt (rcL LL) I 0).els = vc (LL.getD I []) := by
      simp [cellAt, rcL, hI']
      rfl
    rw [e0, vc_len, i64_in _ (by omega : -9223372036854775808 ≤ (I : Int) + 1 ∧ (I : Int) + 1 ≤ 9223372036854775807)]
    refine ⟨by omega, rcL_sz LL, rcL_k LL _ (by omega) hi, fun hl => ?_, fun hl => ⟨LL.length - (I + 1), by omega, I + 1, by omega, by omega, ?_, rfl⟩⟩
    · rw [hs, hsm, decide_eq_false (by omega)]; rfl
    · rw [hs, hsm, decide_eq_true (by omega)]; simp
  · have : I = LL.length := by omega
    subst this
    rw [hs, List.drop_length]
    rfl
theorem small_ok {LL : List (List V3)} (h : smallL LL = true) : LL.length ≤ 200 ∧ ∀ L ∈ LL, L.length ≤ 20 := by
  unfold smallL at h
  rw [Bool.and_eq_true, decide_eq_true_eq, List.all_eq_true] at h
  exact ⟨h.1, fun L hL => by simpa using h.2 L hL⟩
end Go.Proofs.Ytdgjcdhomfhfpaa
namespace Go.Proofs.Ytdgjcdhomfhfpaa
open Go.RowKit Go.IntWalk
set_option linter.unusedSimpArgs false
set_option linter.unusedVariables false
attribute [local go_sem] Oper.semAt_some

theorem check_calls {W : World} {K : List K3} (hK : K.length ≤ 1048576) {kv : Value} (ck : CVR W (fun _ => False) (.vs (kc K)) kv) :
    Calls Try.prog 18 #[kv] W (Ret (.int .i64 (chkK K)) W) := by
  have := ret_iD canCheckO (c_oCheck K (by show K.length ≤ 4611686018427387903; omega)) [kv] W (by simp only [DVRs, and_true]; exact DVR_vs ck)
  simpa using this
theorem small_calls {W : World} {LL : List (List V3)} (hn : LL.length ≤ 4611686018427387903) {lv : Value} (cl : CVR W (fun _ => False) (.vs (rcL LL)) lv) :
    Calls Try.prog 8 #[lv] W (Ret (.bool (smallL LL)) W) := by
  refine Calls.mono (FnC.calls (canEnter_of Try.func8 (by kernel_rfl) (by kernel_rfl)) (c_small LL hn) W (fun _ => False) [lv] glo_none (fun _ h => h.elim) (by simp only [DVRs, DVR, and_true]; exact cl)) ?_
  rintro e w' ⟨v, rfl, hd, hB⟩
  simp only [DVR] at hd
  cases hd
  exact ⟨rfl, hB⟩
theorem newE_r {K : List K3} (n : Nat) (h : n ≤ 255) : newE ((n : Int) + 1) K = chkK K := by unfold newE; rw [if_neg (by omega)]
set_option maxRecDepth 100000 in
set_option maxHeartbeats 8000000 in
/-- keys that are not valid -/
theorem runs_bad (w : World) (n0 n1 n2 : Nat) (h0 : n0 ≤ 255) (h1 : n1 ≤ 255) (h2 : n2 ≤ 255) (K : List K3) (hK : K.length ≤ 1048576) (kv : Value) (ck : CVR w (fun _ => False) (.vs (kc K)) kv) (lv : Value) (hl : lv.oneCell' = true) (hbad : chkK K ≠ 0) :
    Calls Try.prog 4 #[.agg #[.int .u8 (n0 : Int), .int .u8 (n1 : Int), .int .u8 (n2 : Int)], kv, lv] w (Ret (.bool true) w) := by
  have hz0 : newE ((n0 : Int) + 1) K ≠ 0 := by rw [newE_r n0 h0]; exact hbad
  have hz1 : newE ((n1 : Int) % 4 + 1) K ≠ 0 := by
    rw [show (n1 : Int) % 4 = ((n1 % 4 : Nat) : Int) by omega, newE_r _ (by omega)]; exact hbad
  go_enter Try.func4, Try.ntmps4
  go_wp2_with fail
  obtain ⟨Wb, hWb⟩ : ∃ Wb, Wb = w.alloc (.cells #[.int .u8 (n0 : Int), .int .u8 (n1 : Int), .int .u8 (n2 : Int)] 45) := ⟨_, rfl⟩
  have hb0 : Wb.heap[w.heap.size]? = some (.cells #[.int .u8 (n0 : Int), .int .u8 (n1 : Int), .int .u8 (n2 : Int)] 45 (0, 0)) := by rw [hWb]; exact World.alloc_heap_new w _
  have hBb : Below w.heap.size w Wb := by rw [hWb]; exact (Below.refl _ w).alloc (Nat.le_refl _) _
  have hbz : w.heap.size < Wb.heap.size := by rw [hWb]; simp
  rw [← hWb]
  clear hWb
  refine Calls.mono (new_calls (K := K) ((n0 : Int) + 1) (by omega) hK (X := fun _ => False) (fun _ h => h.elim) (cv_on ck hBb) (fun _ => True)) ?_
  rintro e W1 ⟨hB1, ⟨_, rfl⟩ | ⟨h, _⟩⟩
  rotate_left
  · exact absurd h hz0
  have hz := hB1.size
  have hb1 : W1.heap[w.heap.size]? = some (.cells #[.int .u8 (n0 : Int), .int .u8 (n1 : Int), .int .u8 (n2 : Int)] 45 (0, 0)) := (hB1.block _ hbz).trans hb0
  have hc1 : W1.cell? ⟨w.heap.size, 1, none⟩ = some (.int .u8 (n1 : Int)) := by simp [World.cell?, hb1]
  have hBw : Below w.heap.size w W1 := hBb.trans (hB1.mono (by omega))
  rw [newE_r n0 h0]
  obtain ⟨cK, hcK⟩ : ∃ cK, cK = chkK K := ⟨_, rfl⟩
  rw [← hcK] at hbad ⊢
  have HK := Lib.hid hcK
  clear hcK hz0 hb0 hb1
  go_wp2_with fail
  refine Calls.mono (new_calls (K := K) ((n1 : Int) % 4 + 1) (by omega) hK (X := fun _ => False) (fun _ h => h.elim) (cv_on ck hBw) (fun _ => True)) ?_
  rintro e W2 ⟨hB2, ⟨_, rfl⟩ | ⟨h, _⟩⟩
  rotate_left
  · exact absurd h hz1
  have hBw2 := hBw.trans (hB2.mono hBw.size)
  have e1 : newE ((n1 : Int) % 4 + 1) K = cK := by rw [show (n1 : Int) % 4 = ((n1 % 4 : Nat) : Int) by omega, newE_r _ (by omega), HK.out]
  rw [e1]
  clear hz1 e1 hc1 hB1 hB2 hz
  go_wp2_with fail
  refine Calls.mono (check_calls hK (cv_on ck hBw2)) ?_
  rintro e W3 ⟨rfl, hB3⟩
  have hBw3 := hBw2.trans (hB3.mono hBw2.size)
  rw [← HK.out]
  clear hB3
  go_wp2_with fail
  refine Calls.mono (live_calls W3) ?_
  rintro e W4 ⟨rfl, hB4⟩
  have hBw4 := hBw3.trans (hB4.mono hBw3.size)
  clear hB4
  go_wp2_with fail
  go_ret
  exact ⟨rfl, hBw4⟩
theorem slice_form {w : World} {X : Nat → Prop} {els : List (List CV)} {v : Value} (h : CVR w X (.vs els) v) : ∃ a c, v = .slice a els.length c := by
  rcases CVR_inv h with ⟨rfl, a, rfl⟩ | ⟨b, o, sz, c, g, rfl, _⟩
  · exact ⟨_, _, rfl⟩
  · exact ⟨_, _, rfl⟩
theorem slice_cap {w : World} {X : Nat → Prop} {els : List (List CV)} {a : Option Addr} {n c : Nat} (h : CVR w X (.vs els) (.slice a n c)) : n ≤ c := by
  rcases CVR_inv h with ⟨_, a', h2⟩ | ⟨b', o', sz, c', g, h2, hsz, hc, _⟩
  · injection h2 with _ h3 h4; omega
  · injection h2 with _ h3 h4; omega
theorem take_cv {w : World} {X : Nat → Prop} {MM : List (List V3)} {a : Option Addr} {n c m : Nat} (h : CVR w X (.vs (rcL MM)) (.slice a n c)) (hm : m ≤ n) : CVR w X (.vs (rcL (MM.take m))) (.slice a m c) := by
  rcases CVR_inv h with ⟨hnil, a', h2⟩ | ⟨b', o', sz, c', g, h2, hsz, hc, hcell, hval⟩
  · injection h2 with h2 h3 h4
    have : MM = [] := by
      have := rcL_len MM
      rw [hnil] at this
      exact List.length_eq_zero_iff.1 this.symm
    subst this
    have : m = 0 := by omega
    subst this h4
    simp only [List.take_nil]
    exact .nil a
  · injection h2 with h2 h3 h4
    subst h2 h4
    rw [rcL_len] at h3 hc
    have hl : (rcL (MM.take m)).length = m := by rw [rcL_len, List.length_take]; omega
    have key : ∀ i el, (rcL (MM.take m))[i]? = some el → (rcL MM)[i]? = some el := fun i el hi => by
      have e : rcL (MM.take m) = (rcL MM).take m := by simp [rcL, List.map_take]
      rw [e, List.getElem?_take] at hi
      split at hi
      · exact hi
      · cases hi
    have := CVR.vs (w := w) (X := X) (rcL (MM.take m)) b' o' sz c g (fun el hel => by
      obtain ⟨i, hi⟩ := List.getElem?_of_mem hel
      exact hsz el (List.mem_of_getElem? (key i el hi))) (by omega) (fun i el hi f cv hf => hcell i el (key i el hi) f cv hf) (fun i el hi f cv hf => hval i el (key i el hi) f cv hf)
    rw [hl] at this
    exact this
set_option maxRecDepth 100000 in
set_option maxHeartbeats 8000000 in
/-- valid keys -/
theorem runs_good (w : World) (n0 n1 n2 : Nat) (h0 : n0 ≤ 255) (h1 : n1 ≤ 255) (h2 : n2 ≤ 255) (K : List K3) (hK : K.length ≤ 1048576) (ka : Option Addr) (kc' : Nat) (ck : CVR w (fun _ => False) (.vs (kc K)) (.slice ka K.length kc'))
    (LL : List (List V3)) (hn : LL.length ≤ 4611686018427387903) (la : Option Addr) (lc : Nat) (cl : CVR w (fun _ => False) (.vs (rcL LL)) (.slice la LL.length lc)) (hok : smallL LL = true → RowsOk LL) (hgood : chkK K = 0) :
    Calls Try.prog 4 #[.agg #[.int .u8 (n0 : Int), .int .u8 (n1 : Int), .int .u8 (n2 : Int)], .slice ka K.length kc', .slice la LL.length lc] w (Ret (.bool true) w) := by
  have hz0 : newE ((n0 : Int) + 1) K = 0 := by rw [newE_r n0 h0]; exact hgood
  have hz1 : newE ((n1 : Int) % 4 + 1) K = 0 := by
    rw [show (n1 : Int) % 4 = ((n1 % 4 : Nat) : Int) by omega, newE_r _ (by omega)]; exact hgood
  have qf : ∀ (w : World) (f : Fn) (a b : Array Value), (binOp .eql 50 (.func f a b) .nilFunc).run Try.prog w = .ok (.bool false) w := fun w f a b => run_eql_func_nil w _ f a b (by kernel_rfl)
  refine calls_marks Try.func4 rfl ?_
  simp only [Try.ntmps4, List.size_toArray, List.length_cons, List.length_nil, Nat.reduceAdd, Nat.reduceSub, Array.replicate_succ, Array.replicate_zero, List.push_toArray, List.append_toArray, List.nil_append, List.cons_append]
  go_wp2_with fail
  obtain ⟨Wb, hWb⟩ : ∃ Wb, Wb = w.alloc (.cells #[.int .u8 (n0 : Int), .int .u8 (n1 : Int), .int .u8 (n2 : Int)] 45) := ⟨_, rfl⟩
  have hb0 : Wb.heap[w.heap.size]? = some (.cells #[.int .u8 (n0 : Int), .int .u8 (n1 : Int), .int .u8 (n2 : Int)] 45 (0, 0)) := by rw [hWb]; exact World.alloc_heap_new w _
  have hBb : Below w.heap.size w Wb := by rw [hWb]; exact (Below.refl _ w).alloc (Nat.le_refl _) _
  have hbz : Wb.heap.size = w.heap.size + 1 := by rw [hWb]; simp
  rw [← hWb]
  clear hWb
  refine Calls.mono (new_calls (K := K) ((n0 : Int) + 1) (by omega) hK (X := fun _ => False) (fun _ h => h.elim) (cv_on ck hBb) (fun _ => True)) ?_
  rintro e W1 ⟨hB1, ⟨h, _⟩ | ⟨_, sa, rfl, hsa, hS1⟩⟩
  · exact absurd hz0 h
  have hz := hB1.size
  have hb1 : W1.heap[w.heap.size]? = some (.cells #[.int .u8 (n0 : Int), .int .u8 (n1 : Int), .int .u8 (n2 : Int)] 45 (0, 0)) := (hB1.block _ (by omega)).trans hb0
  have hc1 : W1.cell? ⟨w.heap.size, 1, none⟩ = some (.int .u8 (n1 : Int)) := by simp [World.cell?, hb1]
  -- the second sorter, made beside the first; what the first one and the array are stays below both
  rw [show ((n0 : Int) + 1).toNat = n0 + 1 by omega] at hS1
  have S1 : LvS K (n0 + 1) Wb sa [] W1 none := ⟨hsa, fun b ⟨_, h⟩ => (by cases h), hB1, hS1⟩
  have hBw1 : Below w.heap.size w W1 := hBb.trans (hB1.mono (by omega))
  clear hS1 hz0 hb0
  go_wp2_with fail
  have hXo : ∀ b, OwnO NoX sa none b → b < W1.heap.size := S1.sor.own_lt
  have ckx : CVR W1 (OwnO NoX sa none) (.vs (kc K)) (.slice ka K.length kc') := ck.step ⟨fun b _ h => hBw1.block b h, (fun b h => by
    rcases h with h | rfl | ⟨_, h⟩
    · exact .inl h
    · exact .inr (by omega)
    · cases h), hBw1.size⟩
  refine Calls.mono (new_calls (K := K) ((n1 : Int) % 4 + 1) (by omega) hK (X := OwnO NoX sa none) hXo ckx (fun _ => True)) ?_
  rintro e W2 ⟨hB2, ⟨h, _⟩ | ⟨_, sb, rfl, hsb, hS2⟩⟩
  · exact absurd hz1 h
  obtain ⟨nb, hnb⟩ : ∃ nb, nb = n1 % 4 + 1 := ⟨_, rfl⟩
  have hnb2 : 1 ≤ nb ∧ nb ≤ 4 := by omega
  rw [show ((n1 : Int) % 4 + 1).toNat = nb by omega] at hS2
  have T := Two.start S1 hsb hB2 hS2
  have hz2 := hB2.size
  have hb2 : W2.heap[w.heap.size]? = some (.cells #[.int .u8 (n0 : Int), .int .u8 (n1 : Int), .int .u8 (n2 : Int)] 45 (0, 0)) := (hB2.block _ (by omega)).trans hb1
  clear hS2 hz1 hb1 hc1 hB2 ckx hXo S1 hnb
  go_wp2_with fail
  have hbW := fun (W : World) (h : Below Wb.heap.size Wb W) => hBb.trans (h.mono (by omega))
  refine Calls.mono (check_calls hK (cv_on ck (hbW _ T.hB))) ?_
  rintro e W3 ⟨rfl, hB3⟩
  have T3 := T.below hB3
  have hb3 : W3.heap[w.heap.size]? = some (.cells #[.int .u8 (n0 : Int), .int .u8 (n1 : Int), .int .u8 (n2 : Int)] 45 (0, 0)) := (hB3.block _ (by omega)).trans hb2
  rw [hgood]
  clear T hB3 hb2
  go_wp2_with fail
  refine Calls.mono (small_calls hn (cv_on cl (hbW _ T3.hB))) ?_
  rintro e W4 ⟨rfl, hB4⟩
  have T4 := T3.below hB4
  have hz3 := T3.hB.size
  have hb4 : W4.heap[w.heap.size]? = some (.cells #[.int .u8 (n0 : Int), .int .u8 (n1 : Int), .int .u8 (n2 : Int)] 45 (0, 0)) := (hB4.block _ (by omega)).trans hb3
  clear T3 hB4 hb3 hz3
  by_cases hfew : smallL LL = true ∧ K.length ≤ 20
  rotate_left
  · have fin : ∀ W, Two K (n0 + 1) nb Wb sa sb [] [] W none none → Below w.heap.size w W := fun W h => hbW _ h.hB
    cases hsm : smallL LL with
    | false =>
      go_wp2_with fail
      refine Calls.mono (live_calls W4) ?_
      rintro e W5 ⟨rfl, hB5⟩
      have T5 := T4.below hB5
      go_wp2_with fail
      exact ⟨.bool true, by simp [results, Try.results4, go_sem], rfl, fin _ T5⟩
    | true =>
      have hK20 : (20 : Int) < (K.length : Int) := by
        have : ¬ K.length ≤ 20 := fun h => hfew ⟨hsm, h⟩
        omega
      go_wp2_with fail
      refine Calls.mono (live_calls W4) ?_
      rintro e W5 ⟨rfl, hB5⟩
      have T5 := T4.below hB5
      go_wp2_with fail
      exact ⟨.bool true, by simp [results, Try.results4, go_sem], rfl, fin _ T5⟩
  obtain ⟨hsm, hK20⟩ := hfew
  have hLL := hok hsm
  obtain ⟨hl200, hl20⟩ := small_ok hsm
  have hk20 : ¬ (20 : Int) < (K.length : Int) := by omega
  rw [hsm]
  have HG := Lib.hid hgood
  have HS := Lib.hid hsm
  clear hgood hsm hok hn
  go_wp2_with fail
  go_loopw [11] (fun i wr => ∃ (k : Nat) (ta tb : Option (Nat × Nat)), i = .int .i64 (k : Nat) ∧ k ≤ LL.length ∧ Two K (n0 + 1) nb Wb sa sb (LL.take k) (LL.take k) wr ta tb ∧ wr.heap[w.heap.size]? = some (.cells #[.int .u8 (n0 : Int), .int .u8 (n1 : Int), .int .u8 (n2 : Int)] 45 (0, 0))) (fun i _ => LL.length - (intOf i).toNat)
  case atStart => exact ⟨0, none, none, by simp, by omega, by simpa using T4, hb4⟩
  case round =>
    obtain ⟨k, ta, tb, rfl, hk, T, hbr⟩ := hrel
    clear T4 hb4
    by_cases hlt : k < LL.length
    · have hlti : (k : Int) < (LL.length : Int) := by omega
      obtain ⟨b, o, c, x, hr, hcx, hx, _⟩ := row_at cl hlt
      injection hr with hr1 _ hr3
      subst hr1 hr3
      have hBr := hbW _ T.hB
      have hbo : b < w.heap.size := World.block_lt_of_cell? _ _ hcx
      have hcr : wr.cell? ⟨b, o + k, none⟩ = some x := (hBr.cell (p := ⟨b, o + k, none⟩) (World.block_lt_of_cell? _ _ hcx)).trans hcx
      have hxl := cv_on hx hBb
      have hlL : (LL.getD k []).length ≤ 1048576 := (hLL.at k).1
      have htl : (LL.take k).length < 65536 := by rw [List.length_take]; omega
      clear hcx hx
      go_wp2_with fail
      refine Calls.mono (T.addA htl hlL hxl) ?_
      rintro e w2 ⟨rfl, ta2, T2⟩
      have hcr2 : w2.cell? ⟨b, o + k, none⟩ = some x := ((hbW _ T2.hB).cell (p := ⟨b, o + k, none⟩) hbo).trans (((hbW _ T.hB).cell (p := ⟨b, o + k, none⟩) hbo).symm.trans hcr)
      have hab : Wb.heap.size = w.heap.size + 1 := hbz
      have keep : ∀ W, Two K (n0 + 1) nb Wb sa sb (LL.take k ++ [LL.getD k []]) (LL.take k ++ [LL.getD k []]) W ta2 ta2 → True := fun _ _ => trivial
      clear keep
      go_wp2_with fail
      refine Calls.mono (T2.addB htl hlL hxl) ?_
      rintro e w3 ⟨rfl, tb2, T3⟩
      have hb3 : w3.heap[w.heap.size]? = some (.cells #[.int .u8 (n0 : Int), .int .u8 (n1 : Int), .int .u8 (n2 : Int)] 45 (0, 0)) := (T3.hB.block _ (by omega)).trans ((T.hB.block _ (by omega)).symm.trans hbr)
      clear hcr2
      go_wp2_with fail
      exact ⟨⟨k + 1, ta2, tb2, by simp, by omega, by rw [take_snoc LL [] k hlt]; exact T3, hb3⟩, by simp [intOf]; omega⟩
    · have e : k = LL.length := by omega
      subst e
      rw [List.take_length] at T
      have hlK : K.length ≤ Lim := by show K.length ≤ 4611686018427387903; omega
      go_wp2_with fail
      refine Calls.mono (all_calls K hlK LL hLL (by omega) (n0 + 1) wr _ rfl (T.sortA (by omega) (by omega))) ?_
      rintro e W5 ⟨v1, rfl, hB5, hv1⟩
      have T5 := T.below hB5
      have r1 := rS_read hv1
      have hb5 : W5.heap[w.heap.size]? = some (.cells #[.int .u8 (n0 : Int), .int .u8 (n1 : Int), .int .u8 (n2 : Int)] 45 (0, 0)) := (T5.hB.block _ (by omega)).trans ((T.hB.block _ (by omega)).symm.trans hbr)
      clear T hB5 hv1 hbr
      go_wp2_with fail
      refine Calls.mono (all_calls K hlK LL hLL (by omega) nb W5 _ rfl (T5.sortB (by omega) (by omega))) ?_
      rintro e W6 ⟨v2, rfl, hB6, hv2⟩
      have T6 := T5.below hB6
      have r2 := rS_read hv2
      have r1 := cv_on r1 hB6
      have hb6 : W6.heap[w.heap.size]? = some (.cells #[.int .u8 (n0 : Int), .int .u8 (n1 : Int), .int .u8 (n2 : Int)] 45 (0, 0)) := (T6.hB.block _ (by omega)).trans ((T5.hB.block _ (by omega)).symm.trans hb5)
      clear T5 hB6 hv2 hb5
      obtain ⟨a1, c1, hv1⟩ := slice_form r1
      rw [rcL_len, sortL_len] at hv1
      subst hv1
      have hso := sortL_ok (K := K) hLL
      go_wp2_with fail
      refine Calls.mono (same_calls hso r1 r2) ?_
      rintro e W7 ⟨rfl, hB7⟩
      rw [decide_eq_true rfl]
      have T7 := T6.below hB7
      have r1 := cv_on r1 hB7
      have hb7 : W7.heap[w.heap.size]? = some (.cells #[.int .u8 (n0 : Int), .int .u8 (n1 : Int), .int .u8 (n2 : Int)] 45 (0, 0)) := (T7.hB.block _ (by omega)).trans ((T6.hB.block _ (by omega)).symm.trans hb6)
      clear T6 hB7 hb6 r2
      go_wp2_with fail
      refine Calls.mono (FnC.calls canSort (c_oSort LL K hLL hlK) W7 (fun _ => False) [.slice la LL.length lc, .slice ka K.length kc'] glo_none (fun _ h => h.elim) (by simp only [DVRs, DVR, and_true]; exact ⟨cv_on cl (hbW _ T7.hB), cv_on ck (hbW _ T7.hB)⟩)) ?_
      rintro e W8 ⟨v3, rfl, hd3, hB8⟩
      simp only [DVR] at hd3
      have T8 := T7.below hB8
      have r1 := cv_on r1 hB8
      have hb8 : W8.heap[w.heap.size]? = some (.cells #[.int .u8 (n0 : Int), .int .u8 (n1 : Int), .int .u8 (n2 : Int)] 45 (0, 0)) := (T8.hB.block _ (by omega)).trans ((T7.hB.block _ (by omega)).symm.trans hb7)
      clear T7 hB8 hb7
      go_wp2_with fail
      refine Calls.mono (same_calls hso r1 hd3) ?_
      rintro e W9 ⟨rfl, hB9⟩
      rw [decide_eq_true rfl]
      have T9 := T8.below hB9
      have r1 := cv_on r1 hB9
      have hb9 : W9.heap[w.heap.size]? = some (.cells #[.int .u8 (n0 : Int), .int .u8 (n1 : Int), .int .u8 (n2 : Int)] 45 (0, 0)) := (T9.hB.block _ (by omega)).trans ((T8.hB.block _ (by omega)).symm.trans hb8)
      clear T8 hB9 hb8 hd3
      go_wp2_with fail
      go_loopw [16] (fun i wr => ∃ k : Nat, i = .int .i64 (k : Nat) ∧ 1 ≤ k ∧ Below W9.heap.size W9 wr) (fun i _ => LL.length - (intOf i).toNat)
      case atStart => exact ⟨1, by simp, by omega, Below.refl _ _⟩
      case round =>
        obtain ⟨k, rfl, hk1, hBr⟩ := hrel
        by_cases hlt : k < LL.length
        · have hlti : (k : Int) < (LL.length : Int) := by omega
          have hsl : (sortL K LL).length = LL.length := sortL_len K LL
          have rr := cv_on r1 hBr
          obtain ⟨b, o, c, x, hr, hcx, hx, _⟩ := row_at rr (I := k - 1) (by omega)
          obtain ⟨b', o', c', y, hr', hcy, hy, _⟩ := row_at rr (I := k) (by omega)
          rw [hsl] at hr hr'
          injection hr with hr1 _ hr3
          subst hr1 hr3
          injection hr' with hr1 _ hr3
          injection hr1 with hr1
          injection hr1 with hr1 hr2 _
          subst hr1 hr2 hr3
          have hcx' : wr.cell? ⟨b, o + ((k : Int) - 1).toNat, none⟩ = some x := by rw [show ((k : Int) - 1).toNat = k - 1 by omega]; exact hcx
          have hk2 : -9223372036854775808 ≤ (k : Int) - 1 ∧ (k : Int) - 1 ≤ 9223372036854775807 := by omega
          have hk3 : -9223372036854775808 ≤ (k : Int) + 1 ∧ (k : Int) + 1 ≤ 9223372036854775807 := by omega
          have hk4 : 0 ≤ (k : Int) - 1 ∧ (k : Int) - 1 < (LL.length : Int) := by omega
          obtain ⟨z, hz⟩ : ∃ z, z = cmpR ((sortL K LL).getD (k - 1) []) ((sortL K LL).getD k []) K := ⟨_, rfl⟩
          have hzle : ¬ 0 < z := by
            have hp := (sortL_asc K LL)
            rw [List.pairwise_iff_getElem] at hp
            have := hp (k - 1) k (by omega) (by omega) (by omega)
            have : cmpR ((sortL K LL)[k - 1]'(by omega)) ((sortL K LL)[k]'(by omega)) K ≤ 0 := this
            rw [List.getD_eq_getElem?_getD, List.getD_eq_getElem?_getD, List.getElem?_eq_getElem (by omega), List.getElem?_eq_getElem (by omega)] at hz
            simp only [Option.getD_some] at hz
            omega
          have hbw := (hbW _ T9.hB).trans (hBr.mono (hbW _ T9.hB).size)
          have kw := cv_on ck hbw
          have C := fun (W : World) (hB : Below wr.heap.size wr W) => compare_calls K _ _ (hso.at (k - 1)).sz (hso.at k).sz hlK (cv_on hx hB) (cv_on hy hB) (cv_on kw hB)
          rw [← hz] at C
          have HZ := Lib.hid hz
          have hbl : b < wr.heap.size := World.block_lt_of_cell? _ _ hcx
          clear hz rr hx hy kw
          go_wp2_with fail
          ((with_reducible refine region_draws ?_); refine region_plus (by kernel_rfl) (by kernel_rfl) ?_; (repeat (go_big_quiet_step ((first | (go_at_call 20; exact plus_of (C _ (plus_below (Below.refl _ _) _))))))); refine wpQuiet_nil ?_; intro w1 hb1; obtain ⟨hc1, hf1⟩ := bcell hb1; have hz1 := hb1.size; (try simp at hz1); obtain ⟨hl1, hm1⟩ := bsz hb1; (try have hl1_0 : w.heap.size < w1.heap.size := by omega); (try have hm1_0 : w.heap.size ≤ w1.heap.size := by omega); (try have hl1_1 : w.heap.size + 1 < w1.heap.size := by omega); (try have hm1_1 : w.heap.size + 1 ≤ w1.heap.size := by omega); (try have hl1_2 : w.heap.size + 1 + 1 < w1.heap.size := by omega); (try have hm1_2 : w.heap.size + 1 + 1 ≤ w1.heap.size := by omega); (try have hl1_3 : w.heap.size + 1 + 1 + 1 < w1.heap.size := by omega); (try have hm1_3 : w.heap.size + 1 + 1 + 1 ≤ w1.heap.size := by omega))
          go_wp2_with fail
          exact ⟨⟨k + 1, by simp, by omega, hBr.trans (hb1.mono hBr.size)⟩, by simp [intOf]; omega⟩
        · have hlti : ¬ (k : Int) < (LL.length : Int) := by omega
          have TF := T9.below hBr
          go_wp2_with fail
          refine Calls.mono (rows_calls wr _ rfl) ?_
          rintro e Wq ⟨rfl, rfl⟩
          go_wp2_with fail
          obtain ⟨Wa, hWa⟩ : ∃ Wa, Wa = (wr.alloc (.cells #[.pointer (some ⟨sb, 0, none⟩)] 24)).alloc (.cells #[.slice none 0 0] 23) := ⟨_, rfl⟩
          have hr3 : Wa.heap[wr.heap.size]? = some (.cells #[.pointer (some ⟨sb, 0, none⟩)] 24 (0, 0)) := by rw [hWa]; exact (Below.heap_alloc _ _ _ (by simp)).trans (World.alloc_heap_new wr _)
          have hr4 : Wa.heap[wr.heap.size + 1]? = some (.cells #[.slice none 0 0] 23 (0, 0)) := by
            have := World.alloc_heap_new (wr.alloc (.cells #[.pointer (some ⟨sb, 0, none⟩)] 24)) (.cells #[.slice none 0 0] 23)
            rw [World.size_alloc] at this
            rw [hWa]; exact this
          have hzw : Wa.heap.size = wr.heap.size + 2 := by rw [hWa]; simp
          have hBa : Below wr.heap.size wr Wa := by rw [hWa]; exact ((Below.refl _ wr).alloc (Nat.le_refl _) _).alloc (by simp) _
          rw [← hWa]
          clear hWa
          have TA := TF.below hBa
          have hzF := TF.hB.size
          have t23 := Try.underlying23
          obtain ⟨i0, hi, hi0, hi1, hi2⟩ := info_parts iRow
          have hba : Wa.heap[w.heap.size]? = some (.cells #[.int .u8 (n0 : Int), .int .u8 (n1 : Int), .int .u8 (n2 : Int)] 45 (0, 0)) := (TA.hB.block _ (by omega)).trans ((T9.hB.block _ (by omega)).symm.trans hb9)
          have r1a := cv_on (cv_on r1 hBr) hBa
          refine wp_range (gf := 36) (lb := #[.pointer (some ⟨wr.heap.size, 0, none⟩)]) rfl (fun _ _ => canRows1 _ _) (rows_iter wr.heap.size K hlK LL hLL nb) rfl RowsE.keep
            (fun pre Fo W => OutJ K LL (wr.heap.size + 1) wr.heap.size pre Fo W ∧ pre.length ≤ n2) (fun c xs Fo W => c = .exit 4 ∧ ∃ pre x, xs = pre ++ [x] ∧ OutJ K LL (wr.heap.size + 1) wr.heap.size pre Fo W ∧ pre.length = n2)
            ⟨fun pre Fo W W' h hz hs => ⟨(OutJ.cons K LL _ _).stays _ _ _ _ h.1 hz hs, h.2⟩, fun pre Fo W b h => h.1.lt b, fun pre Fo W b h => h.1.sub b⟩
            (fun c => ⟨fun xs Fo W W' ⟨h0, pre, x, h1, h2, h3⟩ hz hs => ⟨h0, pre, x, h1, (OutJ.cons K LL _ _).stays _ _ _ _ h2 hz hs, h3⟩, fun xs Fo W b ⟨_, pre, x, _, h, _⟩ => h.lt b, fun xs Fo W b ⟨_, pre, x, _, h, _⟩ => h.sub b⟩)
            ⟨fun b => b = wr.heap.size + 1, fun b => b = wr.heap.size + 1⟩ ?start ?frame _ (fun l x W K hk => by gi_wp2; exact hk) ?body ?done ?stop
          case start =>
            exact ⟨⟨fun b h => by have h : b = wr.heap.size + 1 := h; omega, fun b h => h, rfl, ⟨none, 0, hr4, World.ownsRow_nil _ _ _ _, fun g h => by cases h⟩, fun i x h => by cases h⟩, Nat.zero_le _⟩
          case frame =>
            intro G W3 hB3 hG
            refine (TF.sortB (by omega) (by omega)).rowsH (hBa.trans (hB3.mono (by omega))) (fun b hb => ?_) (fun h => ?_) ((hB3.cell (p := ⟨wr.heap.size, 0, none⟩) (by show wr.heap.size < _; omega)).trans (cell_heap1 hr3))
            · rcases hG b hb with h | h
              · have h : b = wr.heap.size + 1 := h; omega
              · omega
            · rcases hG _ h with h | h
              · have h : wr.heap.size = wr.heap.size + 1 := h; omega
              · omega
          case body =>
            rintro l pre Fo1 x G W ⟨J, hp2⟩ hm hGb ⟨L, hL, hxG⟩ hlen
            have hb2 : W.heap[w.heap.size]? = some (.cells #[.int .u8 (n0 : Int), .int .u8 (n1 : Int), .int .u8 (n2 : Int)] 45 (0, 0)) := (hm.heap _ (by omega) (fun h => by have h : w.heap.size = wr.heap.size + 1 := h; omega)).trans hba
            have hc2 : W.cell? ⟨w.heap.size, 2, none⟩ = some (.int .u8 (n2 : Int)) := by simp [World.cell?, hb2]
            obtain ⟨xa, xn, xc, rfl⟩ : ∃ xa xn xc, x = .slice xa xn xc := by
              obtain ⟨_, ⟨rfl, _⟩ | ⟨_, _, _, rfl, _⟩⟩ := hxG.1
              · exact ⟨_, _, _, rfl⟩
              · exact ⟨_, _, _, rfl⟩
            obtain ⟨a, c, hvb, hown, hg⟩ := J.cell
            have hcv : W.cell? ⟨wr.heap.size + 1, 0, none⟩ = some (.slice a pre.length c) := cell_heap1 hvb
            have hvl : wr.heap.size + 1 < W.heap.size := J.lt _ (J.sub _ J.ov)
            obtain ⟨N, hN⟩ : ∃ N, N = pre.length := ⟨_, rfl⟩
            rw [← hN] at hcv hvb hown hg hlen hp2
            have HN := Lib.hid hN
            clear hN
            by_cases hbrk : N = n2
            · have hbi : (N : Int) = (n2 : Int) := by omega
              gi_wp2_with fail
              exact ⟨Fo1, (Moves.refl _ _).toAdd, rfl, pre, _, rfl, J, by have := HN.out; omega⟩
            · have hbi : ¬ (N : Int) = (n2 : Int) := by omega
              gi_wp2_with (gi_at_builtin; refine wpListIn_append_where _ rfl _ _ 23 rfl wr.heap.size 34 i0 (.slice none 0 0) 1 24 t23 hi hi0 hi1 hi2 rfl (by decide) _ _ _ rfl (hown.alloc _) ⟨W.heap.size, 0, none⟩ 1 1 [.slice xa xn xc] rfl rfl ?qc1 ?qc2 ?qc3 ?qc4 ?qc5 ?_)
              case qc1 => exact cell_one_new _ _ _
              case qc2 => simp [Value.oneCell']
              case qc3 =>
                have hmax : maxLen = 9223372036854775807 := by decide +kernel
                omega
              case qc4 => omega
              case qc5 => rw [World.size_alloc]; omega
              intro v' w' ho hgr hwh
              have hN := HN.out
              obtain ⟨a', c', hv'⟩ := own_form ho
              have hvb' : w'.heap[wr.heap.size + 1]? = some (.cells #[.slice a N c] 23 (0, 0)) := (hgr.block _ (by rw [World.size_alloc]; omega) (fun e => (hg _ e.symm).2 rfl)).trans ((Below.heap_alloc _ _ _ hvl).trans hvb)
              have q1 := cell_heap1 hvb'
              have q2 := frozen_heap1 hvb'
              have more := OutJ.more J Wa (by omega) hGb hL hxG hvb hg _ (by rw [← hN]; exact ho) hgr hwh
              subst hv'
              clear hN
              gi_wp2_with fail
              obtain ⟨Fo', m1, m2⟩ := more
              exact ⟨Fo', m1, m2, by have := HN.out; simp; omega⟩
          case done =>
            rintro D pre Fo' W W' hD1 hD2 hD3 hm hS hsame hl hsz ⟨J, hp2⟩ hdef
            have hlm : pre.length = min n2 LL.length := by have := J.le; omega
            clear hS hp2
            clear hsame hl hsz
            obtain ⟨a, c, hvb, hown, hg⟩ := J.cell
            obtain ⟨M, hM⟩ : ∃ M, M = pre.length := ⟨_, rfl⟩
            have hML : M ≤ LL.length := by have := J.le; omega
            have hBW : Below wr.heap.size wr W' := hBa.trans (hm.below (n := wr.heap.size) (by omega) (fun b hb => by have hb : b = wr.heap.size + 1 := hb; omega))
            have rx := cv_on (cv_on r1 hBr) hBW
            have rsx := take_cv rx hML
            have hso2 := hso.take M
            have rso : CVR W' (fun _ => False) (.vs (rcL ((sortL K LL).take M))) (.slice a M c) := by
              rw [← hM] at hown
              refine rS_read (lo := wr.heap.size) (out_cv hown (by rw [List.length_take, sortL_len]; omega) (fun i x hx => ?_))
              obtain ⟨L, g1, g2⟩ := J.rows i x hx
              refine ⟨L, ?_, g2.mono fun b hb => hb.2.2⟩
              have hi := (List.getElem?_eq_some_iff.1 hx).1
              rw [List.getElem?_take, if_pos (by omega)]
              exact g1
            have hab : W'.heap[w.heap.size]? = some (.cells #[.int .u8 (n0 : Int), .int .u8 (n1 : Int), .int .u8 (n2 : Int)] 45 (0, 0)) := (hm.heap _ (by omega) (fun h => by have h : w.heap.size = wr.heap.size + 1 := h; omega)).trans hba
            have hcs : W'.cell? ⟨wr.heap.size + 1, 0, none⟩ = some (.slice a M c) := by rw [hM]; exact cell_heap1 hvb
            have hca : W'.cell? ⟨w.heap.size, 2, none⟩ = some (.int .u8 (n2 : Int)) := by simp [World.cell?, hab]
            have hvl : wr.heap.size + 1 < W'.heap.size := J.lt _ (J.sub _ J.ov)
            have hw1 : IntKind.wrap .i64 (n2 : Int) = (n2 : Int) := i64_in _ (by omega)
            have hmin : min (n2 : Int) (LL.length : Int) = (M : Int) := by omega
            have hm1 : (M : Int) ≤ (LL.length : Int) := by omega
            have hm2 : 0 ≤ (M : Int) := by omega
            have hm3 : (M : Int) ≤ (c1 : Int) := by have := slice_cap rx; omega
            have hBWw : Below w.heap.size w W' := (hbW _ TF.hB).trans (hBW.mono (hbW _ TF.hB).size)
            clear J hown hg rx hM hlm hvb hab hba
            go_wp2_with fail
            rw [← wpIn_wide (n := 0)]
            refine regionIn_valsG (by kernel_rfl) (fun _ => trivial) rfl (fun f args w R h => callsIn_wide.2 h) (by kernel_rfl) (sizes_of (by kernel_rfl))
              (fun (_ : Unit) i => match i with | 2 => .slice a M c | 13 => .slice a M c | 15 => .slice a M c | 3 => .int .i64 (M : Int) | 16 => .int .i64 (M : Int) | 4 => .pointer (some ⟨w.heap.size, 2, none⟩) | 5 => .int .u8 (n2 : Int) | 6 => .int .i64 (n2 : Int) | 7 => .slice la LL.length lc | 8 => .int .i64 (LL.length : Int) | 9 => .int .i64 (M : Int) | 14 => .slice a1 LL.length c1 | 17 => .slice a1 M c1 | _ => .bool true)
              ?guards (fun _ _ w' => Below W'.heap.size W' w') () ((Below.refl _ _).drew) ?steps ?rdone
            case guards =>
              intro r i o g b ho hg
              have hi : i < 21 := (Array.getElem?_eq_some_iff.1 ho).1
              have : i = 0 ∨ i = 1 ∨ i = 2 ∨ i = 3 ∨ i = 4 ∨ i = 5 ∨ i = 6 ∨ i = 7 ∨ i = 8 ∨ i = 9 ∨ i = 10 ∨ i = 11 ∨ i = 12 ∨ i = 13 ∨ i = 14 ∨ i = 15 ∨ i = 16 ∨ i = 17 ∨ i = 18 ∨ i = 19 ∨ i = 20 := by omega
              rcases this with rfl | rfl | rfl | rfl | rfl | rfl | rfl | rfl | rfl | rfl | rfl | rfl | rfl | rfl | rfl | rfl | rfl | rfl | rfl | rfl | rfl
              all_goals (simp only [List.getElem?_toArray, List.getElem?_cons_zero, List.getElem?_cons_succ, Option.some.injEq] at ho; subst ho; first | (cases hg; done) | (cases hg; rfl))
            case steps =>
              intro DD i op r aa W3 hop hDi hcl hdep hA hP
              have hi : i < 21 := (Array.getElem?_eq_some_iff.1 hop).1
              have q1 : W3.cell? ⟨wr.heap.size + 1, 0, none⟩ = some (.slice a M c) := (hP.cell (p := ⟨wr.heap.size + 1, 0, none⟩) hvl).trans hcs
              have q2 : W3.cell? ⟨w.heap.size, 2, none⟩ = some (.int .u8 (n2 : Int)) := (hP.cell (p := ⟨w.heap.size, 2, none⟩) (by show w.heap.size < _; omega)).trans hca
              have : i = 0 ∨ i = 1 ∨ i = 2 ∨ i = 3 ∨ i = 4 ∨ i = 5 ∨ i = 6 ∨ i = 7 ∨ i = 8 ∨ i = 9 ∨ i = 10 ∨ i = 11 ∨ i = 12 ∨ i = 13 ∨ i = 14 ∨ i = 15 ∨ i = 16 ∨ i = 17 ∨ i = 18 ∨ i = 19 ∨ i = 20 := by omega
              rcases this with rfl | rfl | rfl | rfl | rfl | rfl | rfl | rfl | rfl | rfl | rfl | rfl | rfl | rfl | rfl | rfl | rfl | rfl | rfl | rfl | rfl
              all_goals (simp only [List.getElem?_toArray, List.getElem?_cons_zero, List.getElem?_cons_succ, Option.some.injEq] at hop; subst hop)
              · refine .inr ⟨9, #[], by simp, (by simp [execOp, go_sem]), ?_⟩
                refine Calls.mono (live_calls W3) ?_
                rintro e w4 ⟨rfl, hB4⟩
                exact ⟨(), rfl, fun _ _ => rfl, hP.trans (hB4.mono hP.size)⟩
              · have e0 := hA.was 0 174 rfl (hdep ⟨0, .data⟩ (by simp) rfl) (by simp)
                exact .inl ⟨(), W3, by simp, (by simp [execOp, go_sem, e0]), fun _ _ => rfl, hP⟩
              · have k18 := hA.keep 18 (by kernel_rfl)
                exact .inl ⟨(), W3, by simp, (by simp [execOp, go_sem, k18, q1]), fun _ _ => rfl, hP⟩
              · have e2 := hA.was 2 176 rfl (hdep ⟨2, .data⟩ (by simp) rfl) (by simp)
                exact .inl ⟨(), W3, by simp, (by simp [execOp, go_sem, e2]), fun _ _ => rfl, hP⟩
              · have k3 := hA.keep 3 (by kernel_rfl)
                exact .inl ⟨(), W3, by simp, (by simp [execOp, go_sem, k3]), fun _ _ => rfl, hP⟩
              · have e4 := hA.was 4 178 rfl (hdep ⟨4, .data⟩ (by simp) rfl) (by simp)
                exact .inl ⟨(), W3, by simp, (by simp [execOp, go_sem, e4, q2]), fun _ _ => rfl, hP⟩
              · have e5 := hA.was 5 179 rfl (hdep ⟨5, .data⟩ (by simp) rfl) (by simp)
                exact .inl ⟨(), W3, by simp, (by simp [execOp, go_sem, e5, hw1]), fun _ _ => rfl, hP⟩
              · have k2 := hA.keep 2 (by kernel_rfl)
                exact .inl ⟨(), W3, by simp, (by simp [execOp, go_sem, k2]), fun _ _ => rfl, hP⟩
              · have e7 := hA.was 7 181 rfl (hdep ⟨7, .data⟩ (by simp) rfl) (by simp)
                exact .inl ⟨(), W3, by simp, (by simp [execOp, go_sem, e7]), fun _ _ => rfl, hP⟩
              · have e6 := hA.was 6 180 rfl (hdep ⟨6, .data⟩ (by simp) rfl) (by simp)
                have e8 := hA.was 8 182 rfl (hdep ⟨8, .data⟩ (by simp) rfl) (by simp)
                exact .inl ⟨(), W3, by simp, (by simp [execOp, go_sem, e6, e8, hmin]), fun _ _ => rfl, hP⟩
              · have e3 := hA.was 3 177 rfl (hdep ⟨3, .data⟩ (by simp) rfl) (by simp)
                have e9 := hA.was 9 183 rfl (hdep ⟨9, .data⟩ (by simp) rfl) (by simp)
                exact .inl ⟨(), W3, by simp, (by simp [execOp, go_sem, e3, e9, hmin]), fun _ _ => rfl, hP⟩
              · have e1 := hA.was 1 175 rfl (hdep ⟨1, .data⟩ (by simp) rfl) (by simp)
                have e10 := hA.was 10 184 rfl (hdep ⟨10, .data⟩ (by simp) rfl) (by simp)
                exact .inl ⟨(), W3, by simp, (by simp [execOp, go_sem, e1, e10]), fun _ _ => rfl, hP⟩
              · have e11 := hA.was 11 185 rfl (hdep ⟨11, .data⟩ (by simp) rfl) (by simp)
                exact .inl ⟨(), W3, by simp, (by simp [execOp, go_sem, e11]), fun _ _ => rfl, hP⟩
              · have k18 := hA.keep 18 (by kernel_rfl)
                exact .inl ⟨(), W3, by simp, (by simp [execOp, go_sem, k18, q1]), fun _ _ => rfl, hP⟩
              · have k12 := hA.keep 12 (by kernel_rfl)
                exact .inl ⟨(), W3, by simp, (by simp [execOp, go_sem, k12]), fun _ _ => rfl, hP⟩
              · have k18 := hA.keep 18 (by kernel_rfl)
                exact .inl ⟨(), W3, by simp, (by simp [execOp, go_sem, k18, q1]), fun _ _ => rfl, hP⟩
              · have e15 := hA.was 15 189 rfl (hdep ⟨15, .data⟩ (by simp) rfl) (by simp)
                exact .inl ⟨(), W3, by simp, (by simp [execOp, go_sem, e15]), fun _ _ => rfl, hP⟩
              · have e14 := hA.was 14 188 rfl (hdep ⟨14, .data⟩ (by simp) rfl) (by simp)
                have e16 := hA.was 16 190 rfl (hdep ⟨16, .data⟩ (by simp) rfl) (by simp)
                exact .inl ⟨(), W3, by simp, (by simp [execOp, go_sem, e14, e16, hm1, hm2, hm3]), fun _ _ => rfl, hP⟩
              · have e13 := hA.was 13 187 rfl (hdep ⟨13, .data⟩ (by simp) rfl) (by simp)
                have e17 := hA.was 17 191 rfl (hdep ⟨17, .data⟩ (by simp) rfl) (by simp)
                refine .inr ⟨16, #[.slice a M c, .slice a1 M c1], by simp, (by simp [execOp, e13, e17, go_sem]), ?_⟩
                refine Calls.mono (same_calls hso2 (cv_on rso hP) (cv_on rsx hP)) ?_
                rintro e w4 ⟨rfl, hB4⟩
                exact ⟨(), by rw [decide_eq_true rfl]; rfl, fun _ _ => rfl, hP.trans (hB4.mono hP.size)⟩
              · have e12 := hA.was 12 186 rfl (hdep ⟨12, .data⟩ (by simp) rfl) (by simp)
                have e18 := hA.was 18 192 rfl (hdep ⟨18, .data⟩ (by simp) rfl) (by simp)
                exact .inl ⟨(), W3, by simp, (by simp [execOp, go_sem, e12, e18]), fun _ _ => rfl, hP⟩
              · have e19 := hA.was 19 193 rfl (hdep ⟨19, .data⟩ (by simp) rfl) (by simp)
                exact .inl ⟨(), W3, by simp, (by simp [execOp, go_sem, e19]), fun _ _ => rfl, hP⟩
            case rdone =>
              intro DD r aa W4 hall hA hP
              have ha := hA.eq (goodG.apart (by kernel_rfl)) hall
              simp only [putsR, Act.put, List.setIfInBounds_toArray, List.set_cons_zero, List.set_cons_succ] at ha
              subst ha
              clear hA hall
              gi_wp2
              go_wp2_with fail
              refine ⟨by simp, .inl ⟨D, _, rfl, run_takeDeferred ((hP.block D hD2).trans hdef), ?_⟩⟩
              refine ⟨.bool true, by simp [results, Try.results4, go_sem], rfl, ?_⟩
              have hPz := hP.size
              exact (hBWw.trans (hP.mono hBWw.size)).trans ((Moves.put (Fo := ⟨fun b => b = D, fun b => b = D⟩) rfl).below (by have := hBWw.size; omega) (fun b hb => by have hb : b = D := hb; omega))
          case stop =>
            rintro D c xs Fo' W W' hD1 hD2 hD3 hm _ hsame hl hsz ⟨rfl, pre, x, rfl, J, hp2⟩ hdef
            have hlm : pre.length = min n2 LL.length := by have := J.le; omega
            clear hp2
            clear hsame hl hsz
            obtain ⟨a, c, hvb, hown, hg⟩ := J.cell
            obtain ⟨M, hM⟩ : ∃ M, M = pre.length := ⟨_, rfl⟩
            have hML : M ≤ LL.length := by have := J.le; omega
            have hBW : Below wr.heap.size wr W' := hBa.trans (hm.below (n := wr.heap.size) (by omega) (fun b hb => by have hb : b = wr.heap.size + 1 := hb; omega))
            have rx := cv_on (cv_on r1 hBr) hBW
            have rsx := take_cv rx hML
            have hso2 := hso.take M
            have rso : CVR W' (fun _ => False) (.vs (rcL ((sortL K LL).take M))) (.slice a M c) := by
              rw [← hM] at hown
              refine rS_read (lo := wr.heap.size) (out_cv hown (by rw [List.length_take, sortL_len]; omega) (fun i x hx => ?_))
              obtain ⟨L, g1, g2⟩ := J.rows i x hx
              refine ⟨L, ?_, g2.mono fun b hb => hb.2.2⟩
              have hi := (List.getElem?_eq_some_iff.1 hx).1
              rw [List.getElem?_take, if_pos (by omega)]
              exact g1
            have hab : W'.heap[w.heap.size]? = some (.cells #[.int .u8 (n0 : Int), .int .u8 (n1 : Int), .int .u8 (n2 : Int)] 45 (0, 0)) := (hm.heap _ (by omega) (fun h => by have h : w.heap.size = wr.heap.size + 1 := h; omega)).trans hba
            have hcs : W'.cell? ⟨wr.heap.size + 1, 0, none⟩ = some (.slice a M c) := by rw [hM]; exact cell_heap1 hvb
            have hca : W'.cell? ⟨w.heap.size, 2, none⟩ = some (.int .u8 (n2 : Int)) := by simp [World.cell?, hab]
            have hvl : wr.heap.size + 1 < W'.heap.size := J.lt _ (J.sub _ J.ov)
            have hw1 : IntKind.wrap .i64 (n2 : Int) = (n2 : Int) := i64_in _ (by omega)
            have hmin : min (n2 : Int) (LL.length : Int) = (M : Int) := by omega
            have hm1 : (M : Int) ≤ (LL.length : Int) := by omega
            have hm2 : 0 ≤ (M : Int) := by omega
            have hm3 : (M : Int) ≤ (c1 : Int) := by have := slice_cap rx; omega
            have hBWw : Below w.heap.size w W' := (hbW _ TF.hB).trans (hBW.mono (hbW _ TF.hB).size)
            clear J hown hg rx hM hlm hvb hab hba
            go_wp2_with fail
            rw [← wpIn_wide (n := 0)]
            refine regionIn_valsG (by kernel_rfl) (fun _ => trivial) rfl (fun f args w R h => callsIn_wide.2 h) (by kernel_rfl) (sizes_of (by kernel_rfl))
              (fun (_ : Unit) i => match i with | 2 => .slice a M c | 13 => .slice a M c | 15 => .slice a M c | 3 => .int .i64 (M : Int) | 16 => .int .i64 (M : Int) | 4 => .pointer (some ⟨w.heap.size, 2, none⟩) | 5 => .int .u8 (n2 : Int) | 6 => .int .i64 (n2 : Int) | 7 => .slice la LL.length lc | 8 => .int .i64 (LL.length : Int) | 9 => .int .i64 (M : Int) | 14 => .slice a1 LL.length c1 | 17 => .slice a1 M c1 | _ => .bool true)
              ?guards (fun _ _ w' => Below W'.heap.size W' w') () ((Below.refl _ _).drew) ?steps ?rdone
            case guards =>
              intro r i o g b ho hg
              have hi : i < 21 := (Array.getElem?_eq_some_iff.1 ho).1
              have : i = 0 ∨ i = 1 ∨ i = 2 ∨ i = 3 ∨ i = 4 ∨ i = 5 ∨ i = 6 ∨ i = 7 ∨ i = 8 ∨ i = 9 ∨ i = 10 ∨ i = 11 ∨ i = 12 ∨ i = 13 ∨ i = 14 ∨ i = 15 ∨ i = 16 ∨ i = 17 ∨ i = 18 ∨ i = 19 ∨ i = 20 := by omega
              rcases this with rfl | rfl | rfl | rfl | rfl | rfl | rfl | rfl | rfl | rfl | rfl | rfl | rfl | rfl | rfl | rfl | rfl | rfl | rfl | rfl | rfl
              all_goals (simp only [List.getElem?_toArray, List.getElem?_cons_zero, List.getElem?_cons_succ, Option.some.injEq] at ho; subst ho; first | (cases hg; done) | (cases hg; rfl))
            case steps =>
              intro DD i op r aa W3 hop hDi hcl hdep hA hP
              have hi : i < 21 := (Array.getElem?_eq_some_iff.1 hop).1
              have q1 : W3.cell? ⟨wr.heap.size + 1, 0, none⟩ = some (.slice a M c) := (hP.cell (p := ⟨wr.heap.size + 1, 0, none⟩) hvl).trans hcs
              have q2 : W3.cell? ⟨w.heap.size, 2, none⟩ = some (.int .u8 (n2 : Int)) := (hP.cell (p := ⟨w.heap.size, 2, none⟩) (by show w.heap.size < _; omega)).trans hca
              have : i = 0 ∨ i = 1 ∨ i = 2 ∨ i = 3 ∨ i = 4 ∨ i = 5 ∨ i = 6 ∨ i = 7 ∨ i = 8 ∨ i = 9 ∨ i = 10 ∨ i = 11 ∨ i = 12 ∨ i = 13 ∨ i = 14 ∨ i = 15 ∨ i = 16 ∨ i = 17 ∨ i = 18 ∨ i = 19 ∨ i = 20 := by omega
              rcases this with rfl | rfl | rfl | rfl | rfl | rfl | rfl | rfl | rfl | rfl | rfl | rfl | rfl | rfl | rfl | rfl | rfl | rfl | rfl | rfl | rfl
              all_goals (simp only [List.getElem?_toArray, List.getElem?_cons_zero, List.getElem?_cons_succ, Option.some.injEq] at hop; subst hop)
              · refine .inr ⟨9, #[], by simp, (by simp [execOp, go_sem]), ?_⟩
                refine Calls.mono (live_calls W3) ?_
                rintro e w4 ⟨rfl, hB4⟩
                exact ⟨(), rfl, fun _ _ => rfl, hP.trans (hB4.mono hP.size)⟩
              · have e0 := hA.was 0 174 rfl (hdep ⟨0, .data⟩ (by simp) rfl) (by simp)
                exact .inl ⟨(), W3, by simp, (by simp [execOp, go_sem, e0]), fun _ _ => rfl, hP⟩
              · have k18 := hA.keep 18 (by kernel_rfl)
                exact .inl ⟨(), W3, by simp, (by simp [execOp, go_sem, k18, q1]), fun _ _ => rfl, hP⟩
              · have e2 := hA.was 2 176 rfl (hdep ⟨2, .data⟩ (by simp) rfl) (by simp)
                exact .inl ⟨(), W3, by simp, (by simp [execOp, go_sem, e2]), fun _ _ => rfl, hP⟩
              · have k3 := hA.keep 3 (by kernel_rfl)
                exact .inl ⟨(), W3, by simp, (by simp [execOp, go_sem, k3]), fun _ _ => rfl, hP⟩
              · have e4 := hA.was 4 178 rfl (hdep ⟨4, .data⟩ (by simp) rfl) (by simp)
                exact .inl ⟨(), W3, by simp, (by simp [execOp, go_sem, e4, q2]), fun _ _ => rfl, hP⟩
              · have e5 := hA.was 5 179 rfl (hdep ⟨5, .data⟩ (by simp) rfl) (by simp)
                exact .inl ⟨(), W3, by simp, (by simp [execOp, go_sem, e5, hw1]), fun _ _ => rfl, hP⟩
              · have k2 := hA.keep 2 (by kernel_rfl)
                exact .inl ⟨(), W3, by simp, (by simp [execOp, go_sem, k2]), fun _ _ => rfl, hP⟩
              · have e7 := hA.was 7 181 rfl (hdep ⟨7, .data⟩ (by simp) rfl) (by simp)
                exact .inl ⟨(), W3, by simp, (by simp [execOp, go_sem, e7]), fun _ _ => rfl, hP⟩
              · have e6 := hA.was 6 180 rfl (hdep ⟨6, .data⟩ (by simp) rfl) (by simp)
                have e8 := hA.was 8 182 rfl (hdep ⟨8, .data⟩ (by simp) rfl) (by simp)
                exact .inl ⟨(), W3, by simp, (by simp [execOp, go_sem, e6, e8, hmin]), fun _ _ => rfl, hP⟩
              · have e3 := hA.was 3 177 rfl (hdep ⟨3, .data⟩ (by simp) rfl) (by simp)
                have e9 := hA.was 9 183 rfl (hdep ⟨9, .data⟩ (by simp) rfl) (by simp)
                exact .inl ⟨(), W3, by simp, (by simp [execOp, go_sem, e3, e9, hmin]), fun _ _ => rfl, hP⟩
              · have e1 := hA.was 1 175 rfl (hdep ⟨1, .data⟩ (by simp) rfl) (by simp)
                have e10 := hA.was 10 184 rfl (hdep ⟨10, .data⟩ (by simp) rfl) (by simp)
                exact .inl ⟨(), W3, by simp, (by simp [execOp, go_sem, e1, e10]), fun _ _ => rfl, hP⟩
              · have e11 := hA.was 11 185 rfl (hdep ⟨11, .data⟩ (by simp) rfl) (by simp)
                exact .inl ⟨(), W3, by simp, (by simp [execOp, go_sem, e11]), fun _ _ => rfl, hP⟩
              · have k18 := hA.keep 18 (by kernel_rfl)
                exact .inl ⟨(), W3, by simp, (by simp [execOp, go_sem, k18, q1]), fun _ _ => rfl, hP⟩
              · have k12 := hA.keep 12 (by kernel_rfl)
                exact .inl ⟨(), W3, by simp, (by simp [execOp, go_sem, k12]), fun _ _ => rfl, hP⟩
              · have k18 := hA.keep 18 (by kernel_rfl)
                exact .inl ⟨(), W3, by simp, (by simp [execOp, go_sem, k18, q1]), fun _ _ => rfl, hP⟩
              · have e15 := hA.was 15 189 rfl (hdep ⟨15, .data⟩ (by simp) rfl) (by simp)
                exact .inl ⟨(), W3, by simp, (by simp [execOp, go_sem, e15]), fun _ _ => rfl, hP⟩
              · have e14 := hA.was 14 188 rfl (hdep ⟨14, .data⟩ (by simp) rfl) (by simp)
                have e16 := hA.was 16 190 rfl (hdep ⟨16, .data⟩ (by simp) rfl) (by simp)
                exact .inl ⟨(), W3, by simp, (by simp [execOp, go_sem, e14, e16, hm1, hm2, hm3]), fun _ _ => rfl, hP⟩
              · have e13 := hA.was 13 187 rfl (hdep ⟨13, .data⟩ (by simp) rfl) (by simp)
                have e17 := hA.was 17 191 rfl (hdep ⟨17, .data⟩ (by simp) rfl) (by simp)
                refine .inr ⟨16, #[.slice a M c, .slice a1 M c1], by simp, (by simp [execOp, e13, e17, go_sem]), ?_⟩
                refine Calls.mono (same_calls hso2 (cv_on rso hP) (cv_on rsx hP)) ?_
                rintro e w4 ⟨rfl, hB4⟩
                exact ⟨(), by rw [decide_eq_true rfl]; rfl, fun _ _ => rfl, hP.trans (hB4.mono hP.size)⟩
              · have e12 := hA.was 12 186 rfl (hdep ⟨12, .data⟩ (by simp) rfl) (by simp)
                have e18 := hA.was 18 192 rfl (hdep ⟨18, .data⟩ (by simp) rfl) (by simp)
                exact .inl ⟨(), W3, by simp, (by simp [execOp, go_sem, e12, e18]), fun _ _ => rfl, hP⟩
              · have e19 := hA.was 19 193 rfl (hdep ⟨19, .data⟩ (by simp) rfl) (by simp)
                exact .inl ⟨(), W3, by simp, (by simp [execOp, go_sem, e19]), fun _ _ => rfl, hP⟩
            case rdone =>
              intro DD r aa W4 hall hA hP
              have ha := hA.eq (goodG.apart (by kernel_rfl)) hall
              simp only [putsR, Act.put, List.setIfInBounds_toArray, List.set_cons_zero, List.set_cons_succ] at ha
              subst ha
              clear hA hall
              gi_wp2
              go_wp2_with fail
              refine ⟨by simp, .inl ⟨D, _, rfl, run_takeDeferred ((hP.block D hD2).trans hdef), ?_⟩⟩
              refine ⟨.bool true, by simp [results, Try.results4, go_sem], rfl, ?_⟩
              have hPz := hP.size
              exact (hBWw.trans (hP.mono hBWw.size)).trans ((Moves.put (Fo := ⟨fun b => b = D, fun b => b = D⟩) rfl).below (by have := hBWw.size; omega) (fun b hb => by have hb : b = D := hb; omega))
end Go.Proofs.Ytdgjcdhomfhfpaa
namespace Go.Proofs.Ytdgjcdhomfhfpaa
open Go.RowKit Go.ChangeShapes Go.WideShapes Go.IntWalk
set_option linter.unusedSimpArgs false
set_option linter.unusedVariables false
section
variable {H : Type} {enc : TypeId × Value → H} {P : Program} {W : World}
theorem slice_cells2 {t e : TypeId} (ht : P.underlying t = some (.slice e)) (hpos : 0 < P.cellsOf e) (Q : List CV → DataW H → Prop) {fuel : Nat}
    (hel : ∀ n, n < fuel → ∀ cs y, DataW.trod enc P W 0 (fun _ => true) true n e cs = some y → ∃ el : List CV, CVRs W (fun _ => False) el cs ∧ Q el y.1)
    {v : Value} {x : DataW H × List MemPlace} (h : DataW.trod enc P W 0 (fun _ => true) true fuel t [v] = some x) :
    ∃ (els : List (List CV)) (ds : List (DataW H)), CVR W (fun _ => False) (.vs els) v ∧ els.length ≤ maxLen ∧ ds.length = els.length ∧ (∀ (i : Nat) (el : List CV) (d : DataW H), els[i]? = some el → ds[i]? = some d → Q el d) ∧ Rows.uptoBulkAll ds + 1 ≤ Rows.uptoBulk x.1 := by
  rcases DataW.trod_slice ht h with ⟨h0, rfl⟩ | ⟨a, len, cap, elems, rest, n, hfu, hv, rfl, hb, hl, hm, hlen, hx, hsp, _⟩
  · simp only [List.cons.injEq, and_true] at h0
    subst h0
    exact ⟨[], [], .nil _, Nat.zero_le _, rfl, fun i el d hi => by simp at hi, by simp [Rows.uptoBulk, Rows.uptoBulkAll]⟩
  · simp only [List.cons.injEq, and_true] at hv
    subst hv
    subst hlen
    have bulk : Rows.uptoBulkAll (elems.map (·.1)) + 1 ≤ Rows.uptoBulk (.slice (elems.map (·.1)) (rest.map (·.1)) : DataW H) := by
      simp only [Rows.uptoBulk]; omega
    by_cases hc0 : cap = 0
    · have hz : elems.length = 0 := by omega
      have hz' := List.length_eq_zero_iff.1 hz
      subst hz' hc0
      exact ⟨[], [], .nil _, Nat.zero_le _, rfl, fun i el d hi => by simp at hi, by simpa using bulk⟩
    have each : ∀ i, i < elems.length → ∃ q : List CV × List Value, W.cells? 0 (a.add (i * P.cellsOf e)) (P.cellsOf e) = some q.2 ∧ CVRs W (fun _ => False) q.1 q.2 ∧ ∃ y, elems[i]? = some y ∧ Q q.1 y.1 := fun i hi => by
      have h1 := hx i hi
      rw [List.getElem?_eq_getElem hi] at h1
      obtain ⟨cs', h2, h3⟩ := Option.bind_eq_some_iff.1 h1
      obtain ⟨el, h4, h5⟩ := hel n (by omega) _ _ h3
      exact ⟨(el, cs'), h2, h4, _, List.getElem?_eq_getElem hi, h5⟩
    obtain ⟨q, hq⟩ := Go.Deep.choose_lt each
    have hl1 : ((List.range elems.length).map fun i => (q i).1).length = elems.length := by simp
    have hin : ∀ (i : Nat) (el : List CV), ((List.range elems.length).map fun i => (q i).1)[i]? = some el → i < elems.length ∧ el = (q i).1 := fun i el hi => by
      by_cases h : i < elems.length
      · rw [List.getElem?_map, List.getElem?_range h] at hi
        simp only [Option.map_some, Option.some.injEq] at hi
        exact ⟨h, hi.symm⟩
      · rw [List.getElem?_eq_none (by simp; omega)] at hi
        cases hi
    have hcl : ∀ i, i < elems.length → (q i).1.length = P.cellsOf e ∧ (q i).2.length = P.cellsOf e := fun i hi => by
      obtain ⟨h1, h2, _⟩ := hq i hi
      obtain ⟨_, h3, _⟩ := World.cells?_some h1
      exact ⟨by rw [CVRs.len h2, h3], h3⟩
    have spot_of : ∀ k cs', k = 0 → W.cells? 0 (a.add k) (P.cellsOf e) = some cs' → a.spot = none := fun k cs' hk h1 => by
      subst hk
      obtain ⟨_, h3, h4⟩ := World.cells?_some h1
      have h5 := h4 0 hpos
      rw [List.getElem?_eq_getElem (by omega)] at h5
      have := World.cell?_spot h5
      simpa [Addr.add] using this
    have hspot : a.spot = none := by
      by_cases h0 : elems.length = 0
      · obtain ⟨h1, h2⟩ := hsp rfl
        have h3 := h2 0 (by omega)
        rw [List.getElem?_eq_getElem (by omega)] at h3
        obtain ⟨cs', h4, _⟩ := Option.bind_eq_some_iff.1 h3
        exact spot_of _ _ (by rw [h0]; simp) h4
      · exact spot_of _ _ (by simp) (hq 0 (by omega)).1
    refine ⟨(List.range elems.length).map fun i => (q i).1, elems.map (·.1), ?_, by rw [hl1]; omega, by simp, fun i el d hi hd => ?_, bulk⟩
    · obtain ⟨b, o, spot⟩ := a
      have hspot : spot = none := hspot
      subst hspot
      have hc := CVR.vs (w := W) (X := fun _ => False) ((List.range elems.length).map fun i => (q i).1) b o (P.cellsOf e) cap (fun i f => ((q i).2[f]?).getD default)
        (fun el hel => by
          simp only [List.mem_map, List.mem_range] at hel
          obtain ⟨i, hi, rfl⟩ := hel
          exact (hcl i hi).1)
        (by rw [hl1]; exact hl)
        (fun i el hi f cv hf => by
          obtain ⟨hj, rfl⟩ := hin i el hi
          have hf2 : f < P.cellsOf e := by
            rw [← (hcl i hj).1]
            exact (List.getElem?_eq_some_iff.1 hf).1
          obtain ⟨h1, h2, _⟩ := hq i hj
          obtain ⟨_, h3, h4⟩ := World.cells?_some h1
          have h5 := h4 f hf2
          rw [Go.WideShapes.add_plain, Go.WideShapes.add_plain, List.getElem?_eq_getElem (by omega)] at h5
          refine ⟨fun h => h, ?_⟩
          rw [h5, List.getElem?_eq_getElem (by omega)]; rfl)
        (fun i el hi f cv hf => by
          obtain ⟨hj, rfl⟩ := hin i el hi
          obtain ⟨_, h2, _⟩ := hq i hj
          obtain ⟨r, hr, hv⟩ := h2.at f cv hf
          rw [hr]; exact hv)
      rwa [hl1] at hc
    · obtain ⟨hj, rfl⟩ := hin i el hi
      obtain ⟨_, _, y, hy, hQ⟩ := hq i hj
      rw [List.getElem?_map, hy] at hd
      simp only [Option.map_some, Option.some.injEq] at hd
      subst hd
      exact hQ
theorem bulk_at : ∀ {ds : List (DataW H)} {i : Nat} {d : DataW H}, ds[i]? = some d → Rows.uptoBulk d ≤ Rows.uptoBulkAll ds
  | [], i, d, h => by simp at h
  | e :: ds, 0, d, h => by
    simp only [List.getElem?_cons_zero, Option.some.injEq] at h
    subst h
    simp only [Rows.uptoBulkAll]; omega
  | e :: ds, i + 1, d, h => by
    have := bulk_at (ds := ds) (i := i) (by simpa using h)
    simp only [Rows.uptoBulkAll]; omega
theorem bulk_pos (d : DataW H) : 1 ≤ Rows.uptoBulk d := by
  cases d with
  | lit l => cases l <;> simp [Rows.uptoBulk]
  | nil => simp [Rows.uptoBulk]
  | ptr d => simp [Rows.uptoBulk]
  | slice a b => simp [Rows.uptoBulk]
  | agg a => simp [Rows.uptoBulk]
  | iface t d => simp [Rows.uptoBulk]
  | map es => simp [Rows.uptoBulk]
  | held h => simp [Rows.uptoBulk]
theorem bulk_len : ∀ (ds : List (DataW H)), ds.length ≤ Rows.uptoBulkAll ds
  | [] => by simp
  | d :: ds => by
    have h1 := bulk_len ds
    have h2 := bulk_pos d
    simp only [Rows.uptoBulkAll, List.length_cons]; omega
theorem val_cells2 {t : TypeId} {f0 f1 f2 : Field} (ht : P.underlying t = some (.struct #[f0, f1, f2])) (ct : P.cellsOf t = 3) (o0 : f0.offset = 0) (o1 : f1.offset = 1) (o2 : f2.offset = 2)
    (c0 : P.cellsOf f0.type = 1) (c1 : P.cellsOf f1.type = 1) (c2 : P.cellsOf f2.type = 1) (h0 : P.underlying f0.type = some (.int .i64)) (h1 : P.underlying f1.type = some (.int .i64)) (h2 : P.underlying f2.type = some .string)
    (n : Nat) (cs : List Value) (x : DataW H × List MemPlace) (h : DataW.trod enc P W 0 (fun _ => true) true n t cs = some x) :
    ∃ el : List CV, CVRs W (fun _ => False) el cs ∧ ∃ v : V3, el = [.v (.int .i64 v.1), .v (.int .i64 v.2.1), .v (.string (bs v.2.2))] ∧ I64 v.1 ∧ I64 v.2.1 ∧ v.2.2.length ≤ Rows.uptoBulk x.1 := by
  obtain ⟨xs, k, hx1, hx2, hl, hxl, hf⟩ := DataW.trod_struct ht h
  rw [ct] at hl
  match cs, hl, xs, hxl with
  | [a, b, c], _, [y0, y1, y2], _ =>
    have g0 := hf 0 f0 rfl
    have g1 := hf 1 f1 rfl
    have g2 := hf 2 f2 rfl
    simp [o0, o1, o2, c0, c1, c2] at g0 g1 g2
    obtain ⟨z0, e0, _, w0⟩ := DataW.trod_int h0 g0
    obtain ⟨z1, e1, _, w1⟩ := DataW.trod_int h1 g1
    obtain ⟨s, e2, hy2, w2⟩ := DataW.trod_string h2 g2
    simp only [List.cons.injEq, and_true] at e0 e1 e2
    subst e0 e1 e2
    refine ⟨[.v (.int .i64 z0), .v (.int .i64 z1), .v (.string s)], ?_, (z0, z1, s.data.toList), ?_, wf_i64 w0, wf_i64 w1, ?_⟩
    · simp only [CVRs]
      exact ⟨.v _ rfl, .v _ rfl, .v _ rfl, trivial⟩
    · show _ = [_, _, CV.v (.string (bs s.data.toList))]
      rw [← bs_of s]
    · subst hx2 hy2
      show s.data.toList.length ≤ _
      simp only [List.map_cons, List.map_nil, Rows.uptoBulk, Rows.uptoBulkAll]
      omega
end
theorem cells_one {W : World} {v : Value} {t e : TypeId} (ht : Try.prog.underlying t = some (.slice e)) (hval : Value.okWide Try.prog W .any 0 t v) : v.cells.toList = [v] := by
  unfold Value.okWide at hval
  rw [ht] at hval
  simp only [] at hval
  cases v <;> first | rfl | (exfalso; unfold Cell.okWide Cell.ok at hval; rw [ht] at hval; exact hval)
def ValB (n : Nat) (v : V3) : Prop := I64 v.1 ∧ I64 v.2.1 ∧ v.2.2.length ≤ n
def ValsB (n : Nat) (L : List V3) : Prop := L.length ≤ n ∧ ∀ v ∈ L, ValB n v
theorem ValsB.mono {n m : Nat} {L : List V3} (h : ValsB n L) (hm : n ≤ m) : ValsB m L := ⟨Nat.le_trans h.1 hm, fun v hv => ⟨(h.2 v hv).1, (h.2 v hv).2.1, Nat.le_trans (h.2 v hv).2.2 hm⟩⟩
section
variable {H : Type}
theorem vals_of2 : ∀ {els : List (List CV)} {ds : List (DataW H)} (_ : ds.length = els.length) (_ : ∀ (i : Nat) (el : List CV) (d : DataW H), els[i]? = some el → ds[i]? = some d → ∃ v : V3, el = [.v (.int .i64 v.1), .v (.int .i64 v.2.1), .v (.string (bs v.2.2))] ∧ I64 v.1 ∧ I64 v.2.1 ∧ v.2.2.length ≤ Rows.uptoBulk d),
    ∃ L : List V3, els = vc L ∧ ∀ v ∈ L, ValB (Rows.uptoBulkAll ds) v
  | [], ds, _, _ => ⟨[], rfl, by simp⟩
  | el :: els, [], hl, _ => by simp at hl
  | el :: els, d :: ds, hl, h => by
    obtain ⟨v, rfl, h1, h2, h3⟩ := h 0 el d rfl rfl
    obtain ⟨L, rfl, hL⟩ := vals_of2 (els := els) (ds := ds) (by simpa using hl) (fun i el' d' hi hd => h (i + 1) el' d' (by simpa using hi) (by simpa using hd))
    refine ⟨v :: L, rfl, fun u hu => ?_⟩
    simp only [Rows.uptoBulkAll]
    rcases List.mem_cons.1 hu with rfl | hu
    · exact ⟨h1, h2, by omega⟩
    · obtain ⟨g1, g2, g3⟩ := hL u hu
      exact ⟨g1, g2, by omega⟩
theorem rows_of2 : ∀ {els : List (List CV)} {ds : List (DataW H)} (_ : ds.length = els.length) (_ : ∀ (i : Nat) (el : List CV) (d : DataW H), els[i]? = some el → ds[i]? = some d → ∃ L : List V3, el = [.vs (vc L)] ∧ ValsB (Rows.uptoBulk d) L),
    ∃ LL : List (List V3), els = rcL LL ∧ ∀ L ∈ LL, ValsB (Rows.uptoBulkAll ds) L
  | [], ds, _, _ => ⟨[], rfl, by simp⟩
  | el :: els, [], hl, _ => by simp at hl
  | el :: els, d :: ds, hl, h => by
    obtain ⟨L, rfl, h1⟩ := h 0 el d rfl rfl
    obtain ⟨LL, rfl, hL⟩ := rows_of2 (els := els) (ds := ds) (by simpa using hl) (fun i el' d' hi hd => h (i + 1) el' d' (by simpa using hi) (by simpa using hd))
    refine ⟨L :: LL, rfl, fun u hu => ?_⟩
    simp only [Rows.uptoBulkAll]
    rcases List.mem_cons.1 hu with rfl | hu
    · exact h1.mono (by omega)
    · exact (hL u hu).mono (by omega)
end
set_option maxRecDepth 100000 in
theorem row_trod2 {H : Type} {enc : TypeId × Value → H} {W : World} (n : Nat) (cs : List Value) (x : DataW H × List MemPlace) (h : DataW.trod enc Try.prog W 0 (fun _ => true) true n 34 cs = some x) :
    ∃ el : List CV, CVRs W (fun _ => False) el cs ∧ ∃ L : List V3, el = [.vs (vc L)] ∧ ValsB (Rows.uptoBulk x.1) L := by
  have hone : ∃ v, cs = [v] := by
    rcases Go.Deep.open_slice Try.underlying34 h with ⟨h0, _⟩ | ⟨a, len, cap, m, n, D, Pl, hv, _⟩
    · exact ⟨_, h0⟩
    · exact ⟨_, hv⟩
  obtain ⟨v, rfl⟩ := hone
  obtain ⟨els, ds, h1, h2, h3, h4, h5⟩ := slice_cells2 Try.underlying34 (of_decide_eq_true (by kernel_rfl)) (fun el d => ∃ v : V3, el = [.v (.int .i64 v.1), .v (.int .i64 v.2.1), .v (.string (bs v.2.2))] ∧ I64 v.1 ∧ I64 v.2.1 ∧ v.2.2.length ≤ Rows.uptoBulk d)
    (fun m _ cs' y hy => val_cells2 Try.underlying38 (by kernel_rfl) rfl rfl rfl (by kernel_rfl) (by kernel_rfl) (by kernel_rfl) Try.underlying3 Try.underlying2 Try.underlying9 m cs' y hy) h
  obtain ⟨L, rfl, hL⟩ := vals_of2 h3 h4
  have hb := bulk_len ds
  rw [h3, vc_len] at hb
  refine ⟨[.vs (vc L)], ?_, L, rfl, by omega, fun v hv => ?_⟩
  · simp only [CVRs]
    exact ⟨h1, trivial⟩
  · obtain ⟨g1, g2, g3⟩ := hL v hv
    exact ⟨g1, g2, by omega⟩
set_option maxRecDepth 100000 in
theorem rows_arg2 {H : Type} {enc : TypeId × Value → H} {W : World} {v : Value} {d : DataW H} {ps : List MemPlace} (hval : Value.okWide Try.prog W .any 0 23 v) (h : DataW.Trod enc Try.prog W 0 (fun _ => true) true 23 v d ps) :
    ∃ LL : List (List V3), CVR W (fun _ => False) (.vs (rcL LL)) v ∧ (∀ L ∈ LL, ValsB (Rows.uptoBulk d) L) ∧ LL.length ≤ Rows.uptoBulk d := by
  obtain ⟨fuel, h⟩ := h
  rw [cells_one Try.underlying23 hval] at h
  obtain ⟨els, ds, h1, h2, h3, h4, h5⟩ := slice_cells2 Try.underlying23 (of_decide_eq_true (by kernel_rfl)) (fun el d => ∃ L : List V3, el = [.vs (vc L)] ∧ ValsB (Rows.uptoBulk d) L) (fun m _ cs' y hy => row_trod2 m cs' y hy) h
  have h5 : Rows.uptoBulkAll ds + 1 ≤ Rows.uptoBulk d := h5
  obtain ⟨LL, rfl, hL⟩ := rows_of2 h3 h4
  have hb := bulk_len ds
  rw [h3, rcL_len] at hb
  exact ⟨LL, h1, fun L hm => (hL L hm).mono (by omega), by omega⟩
set_option maxRecDepth 100000 in
theorem keys_arg2 {H : Type} {enc : TypeId × Value → H} {W : World} {v : Value} {d : DataW H} {ps : List MemPlace} (hval : Value.okWide Try.prog W .any 0 22 v) (h : DataW.Trod enc Try.prog W 0 (fun _ => true) true 22 v d ps) :
    ∃ K : List K3, CVR W (fun _ => False) (.vs (kc K)) v ∧ K.length ≤ Rows.uptoBulk d := by
  obtain ⟨fuel, h⟩ := h
  rw [cells_one Try.underlying22 hval] at h
  obtain ⟨els, ds, h1, h2, h3, h4, h5⟩ := slice_cells2 Try.underlying22 (of_decide_eq_true (by kernel_rfl)) (fun el _ => ∃ k : K3, el = [.v (.int .i64 k.1), .v (.int .i64 k.2.1), .v (.bool k.2.2)])
    (fun m _ cs' y hy => key_cells Try.underlying55 (by kernel_rfl) rfl rfl rfl (by kernel_rfl) (by kernel_rfl) (by kernel_rfl) Try.underlying3 Try.underlying3 Try.underlying4 m cs' y hy) h
  have h5 : Rows.uptoBulkAll ds + 1 ≤ Rows.uptoBulk d := h5
  obtain ⟨K, rfl⟩ := keys_of fun el hel => by
    obtain ⟨i, hi⟩ := List.getElem?_of_mem hel
    have hlt := (List.getElem?_eq_some_iff.1 hi).1
    exact h4 i el (ds[i]'(by omega)) hi (List.getElem?_eq_getElem _)
  have hb := bulk_len ds
  rw [h3, kc_len] at hb
  exact ⟨K, h1, by omega⟩
set_option maxRecDepth 100000 in
/-- an array of three bytes -/
theorem arr3_arg {H : Type} {enc : TypeId × Value → H} {W : World} {v : Value} {d : DataW H} {ps : List MemPlace} (hval : Value.okWide Try.prog W .any 0 45 v) (h : DataW.Trod enc Try.prog W 0 (fun _ => true) true 45 v d ps) :
    ∃ a b c : Int, v = .agg #[.int .u8 a, .int .u8 b, .int .u8 c] ∧ (Lit.int .u8 a).wf = true ∧ (Lit.int .u8 b).wf = true ∧ (Lit.int .u8 c).wf = true := by
  have hu := Try.underlying45
  have hc : Try.prog.cellsOf 45 = 3 := by kernel_rfl
  have hc1 : Try.prog.cellsOf 5 = 1 := by kernel_rfl
  have h8 := Try.underlying5
  simp only [Value.okWide, hu] at hval
  obtain ⟨cs, rfl, hsz, _⟩ := hval
  obtain ⟨c0, c1, c2, rfl⟩ := Go.Joins.array3 (hsz.trans hc)
  obtain ⟨fuel, hf⟩ := h
  cases fuel with
  | zero => simp [DataW.trod] at hf
  | succ m =>
    rw [DataW.trod_step] at hf
    unfold DataW.trodStep at hf
    simp only [hu, Value.cells] at hf
    rw [if_pos (by rw [hc]; rfl)] at hf
    simp only [Option.map_eq_some_iff] at hf
    obtain ⟨ys, hy, _⟩ := hf
    have hr : List.range 3 = [0, 1, 2] := rfl
    rw [hr] at hy
    simp only [List.mapM_cons, List.mapM_nil, bind, Option.bind_eq_some_iff, pure, Option.some.injEq, hc1] at hy
    obtain ⟨y0, g0, _, ⟨y1, g1, _, ⟨y2, g2, _⟩, _⟩, _⟩ := hy
    simp at g0 g1 g2
    obtain ⟨z0, e0, _, w0⟩ := DataW.trod_int h8 g0
    obtain ⟨z1, e1, _, w1⟩ := DataW.trod_int h8 g1
    obtain ⟨z2, e2, _, w2⟩ := DataW.trod_int h8 g2
    simp only [List.cons.injEq, and_true] at e0 e1 e2
    subst e0 e1 e2
    exact ⟨z0, z1, z2, rfl, w0, w1, w2⟩
end Go.Proofs.Ytdgjcdhomfhfpaa
