/- A symbolic run of Go code: functions that are handed a row of their caller's own. No condition. -/
import Derived.Test.YtdgjcdhomfhfpaaAb18
namespace Go.Proofs.Ytdgjcdhomfhfpaa
open Go.RowKit
set_option linter.unusedSimpArgs false
set_option linter.unusedVariables false

section
variable {P : Program} {T : Tab} {X : Nat → Prop}

/-- what a function leaves of the row that it was handed, at its end: handed back, or left where it is -/
def resM (T : Tab) (back : Bool) (e : TypeId) (sz : Nat) (rs : List ResultVar) (S : St) : Option (List LV × List Need) :=
  bif back then match rs with
    | [x] => match resOne T S x with
      | some (.rs j ver (.int 0) n, ns) => match getO S.L j with
        | some ⟨ver', .row c e' sz'⟩ => bif Nat.beq ver ver' && Nat.beq e e' && Nat.beq sz sz' then some ([.vs c], ns ++ (bif isClen c n then [] else [.le n (.clen c), .le (.clen c) n])) else none
        | _ => none
      | _ => none
    | _ => none
  else match rs, S.G with
    | [], [.rs j ver (.int 0) _] => match getO S.L j with
      | some ⟨ver', .row c e' sz'⟩ => bif Nat.beq ver ver' && Nat.beq e e' && Nat.beq sz sz' then some ([.vs c], []) else none
      | _ => none
    | _, _ => none
/-- What a function hands back is res, in general. -/
def FinG (R : St → Option (List LV × List Need)) (res : DV) (ν : Nu) (_ : Ex) (S : St) : Prop :=
  match R S with
  | some (vs, ns) => denNs ν ns ∧ resDV ν vs = res
  | none => False

theorem dvsOf_get (ν : Nu) (v : LV) : ∀ (pre post : List LV), (dvsOf ν (pre ++ v :: post))[pre.length]? = some (dvOf ν v)
  | [], post => by simp [dvsOf]
  | x :: pre, post => by simpa [dvsOf] using dvsOf_get ν v pre post
theorem res_shape {ν : Nu} {w : World} {σ : List Pl} : ∀ {ps : List LV} {vs : List Value}, ps.all shapeB = true → DVRs w (Exc X σ) (dvsOf ν ps) vs → LRs ν w X σ ps vs := fun h1 h2 => res_ones h1 (.inr rfl) h2
theorem argsM_to {ν : Nu} {w : World} {σ : List Pl} {at_ : Option (Nat × Nat)} {sz : Nat} {c : E} (hσ : σ[0]? = some ⟨1, at_, sz⟩) {post : List LV} (hpost : post.all shapeB = true) : ∀ (pre : List LV) (vs : List Value), pre.all shapeB = true →
    ArgsM w (Exc X σ) at_ pre.length (dvsOf ν (pre ++ .vs c :: post)) vs → LRs ν w X σ (pre ++ .rs 0 1 (.int 0) (.clen c) :: post) vs ∧ ∃ r, vs[pre.length]? = some r ∧ SlP at_ (denC ν c).length r ∧ LR ν w X σ (.rs 0 1 (.int 0) (.clen c)) r
  | [], [], _, h => by simp [dvsOf, ArgsM] at h
  | [], v :: vs, _, h => by
    simp only [List.nil_append, dvsOf, List.length_nil, ArgsM] at h
    obtain ⟨⟨c0, hc0, hsl⟩, h2⟩ := h
    simp only [dvOf, DV.c.injEq, CV.vs.injEq] at hc0
    subst hc0
    have lr : LR ν w X σ (.rs 0 1 (.int 0) (.clen c)) v := by
      obtain ⟨a, len, rc, rfl, hrs⟩ := SlP.to (pl := ⟨1, at_, sz⟩) hsl
      simp only [LR]
      exact ⟨a, len, rc, _, rfl, hσ, Nat.le_refl _, fun _ => by simpa only [denI] using hrs⟩
    refine ⟨?_, v, rfl, hsl, lr⟩
    simp only [List.nil_append, LRs]
    exact ⟨lr, res_shape hpost h2⟩
  | x :: pre, [], _, h => by simp [dvsOf, ArgsM] at h
  | x :: pre, v :: vs, hp, h => by
    simp only [List.all_cons, Bool.and_eq_true] at hp
    simp only [List.cons_append, dvsOf, List.length_cons, ArgsM] at h
    obtain ⟨h1, r, h2, h3, h4⟩ := argsM_to hσ hpost pre vs hp.2 h.2
    refine ⟨?_, r, by simpa using h2, h3, h4⟩
    simp only [List.cons_append, LRs]
    exact ⟨res_one hp.1 (.inr rfl) h.1, h1⟩

theorem RowP.mono {w : World} {X Y : Nat → Prop} (h : ∀ b, Y b → X b) {at_ : Option (Nat × Nat)} {c : List (List CV)} {e : TypeId} {sz : Nat} (hr : RowP w X at_ c e sz) : RowP w Y at_ c e sz := by
  obtain ⟨h1, h2, h3⟩ := hr
  refine ⟨h1, h2, ?_⟩
  rcases h3 with h3 | ⟨b, cap, a, fr, g1, g2, g3, g4, g5, g6⟩
  · exact .inl h3
  · refine .inr ⟨b, cap, a, fr, g1, g2, g3, g4, g5, fun i el hi f cv hf => ?_⟩
    obtain ⟨r, hr, hv⟩ := g6 i el hi f cv hf
    exact ⟨r, hr, hv.mono h⟩

/-- From a tree to the contract of a function that is handed a row. -/
theorem fnM_of (hT : TOK P T) (hm : P.follows .mixedOrders = true) {B : FuncId → Option Func} (hB : ∀ f fn, B f = some fn → P.funcs[f]? = some fn) {f : FuncId} {fn : Func} (hf : P.funcs[f]? = some fn) (hn : (fn.name == "runtime.NumGoroutine") = false) {c : Code} (hb : fn.body = some c) (n : Nat) (ν : Nu)
    (pre post : List LV) (k : Nat) (e : TypeId) (sz : Nat) (back : Bool) (hpre : pre.all shapeB = true) (hpost : post.all shapeB = true) (hlen : pre.length + 1 + post.length ≤ fn.ntmps) {c' : List (List CV)} (hl : back = false → c'.length = (denC ν (.var k)).length)
    (hd : den P (FinG (resM T back e sz fn.results.toList) (.c (.vs c'))) (fun _ _ _ => False) ν (runB T B n (resMask fn.results.toList) .done 0 [.code c] ⟨(pre ++ .rs 0 1 (.int 0) (.clen (.var k)) :: post) ++ List.replicate (fn.ntmps - (pre.length + 1 + post.length)) (.tup []), [⟨1, .row (.var k) e sz⟩], ν.length, [.rs 0 1 (.int 0) (.clen (.var k))]⟩)) :
    FnM P ⟨pre.length, e, sz, back⟩ f (dvsOf ν (pre ++ .vs (.var k) :: post)) (.c (.vs c')) := by
  refine ⟨canEnter_of hf hn (by rw [hb]; rfl), denC ν (.var k), c', dvsOf_get ν _ pre post, rfl, hl, fun w X at_ vs hglo hX hat hrow hvs => ?_⟩
  refine calls_of_wp hf hb ?_
  simp only at hrow hvs
  obtain ⟨σ0, hσ0⟩ : ∃ σ0 : List Pl, σ0 = [⟨1, at_, sz⟩] := ⟨_, rfl⟩
  have hown : ∀ b, Own σ0 b ↔ AtB at_ b := fun b => by
    rw [hσ0]
    constructor
    · rintro ⟨i, p, cc, hi, hc⟩
      cases i with
      | zero =>
        simp only [List.getElem?_cons_zero, Option.some.injEq] at hi
        subst hi
        exact ⟨cc, hc⟩
      | succ i => simp at hi
    · rintro ⟨cc, hc⟩
      exact ⟨0, _, cc, rfl, hc⟩
  have hE : Exc X σ0 = fun b => X b ∨ AtB at_ b := by
    funext b
    apply propext
    unfold Exc
    rw [hown]
  rw [← hE] at hrow hvs
  obtain ⟨l1, r, hr, hsl, lr⟩ := argsM_to (X := X) (σ := σ0) (sz := sz) (by rw [hσ0]; rfl) hpost pre vs hpre hvs
  have hl1 := LRs_len l1
  simp only [List.length_append, List.length_cons] at hl1
  have hR : Rel ⟨w, AtB at_, [r]⟩ X ν ⟨(pre ++ .rs 0 1 (.int 0) (.clen (.var k)) :: post) ++ List.replicate (fn.ntmps - (pre.length + 1 + post.length)) (.tup []), [⟨1, .row (.var k) e sz⟩], ν.length, [.rs 0 1 (.int 0) (.clen (.var k))]⟩ σ0 { tmps := vs.toArray ++ Array.replicate (fn.ntmps - vs.toArray.size) undef, defers := [] } w :=
    { defers := rfl, F := by
        have e1 : fn.ntmps - vs.toArray.size = fn.ntmps - (pre.length + 1 + post.length) := by simp; omega
        rw [e1]
        have := LRs_append l1 (LRs_undef (ν := ν) (w := w) (X := X) (σ := σ0) (fn.ntmps - (pre.length + 1 + post.length)))
        simpa using this
      len := by rw [hσ0]; rfl
      L := fun i ob pl hob hi => by
        rw [hσ0] at hi
        cases i with
        | zero =>
          simp only [getO, Option.some.injEq] at hob
          simp only [List.getElem?_cons_zero, Option.some.injEq] at hi
          subst hob hi
          exact ⟨rfl, OR_row.2 ⟨rfl, hrow⟩⟩
        | succ i => simp at hi
      inj := fun i j p q b cc d hi hj _ _ => by
        rw [hσ0] at hi hj
        cases i with
        | zero =>
          cases j with
          | zero => rfl
          | succ j => simp at hj
        | succ i => simp at hi
      own := fun b hb => by
        rw [hown] at hb
        exact ⟨.inr hb, (hat b hb).1⟩
      old := ⟨rfl, rfl, rfl, Nat.le_refl _, fun _ _ _ => rfl, fun g hg hy => (hat g hy).2.2 g hg rfl, fun b a e fr h => ⟨a, e, fr, h, rfl⟩⟩
      ex := fun b hb => ⟨hX b hb, fun hy => (hat b hy).2.1 hb⟩, glo := hglo, n := rfl
      G := by
        simp only [LRs, and_true]
        exact lr }
  have hsz0 := hrow.1
  have := run_sound (Q := bodyPost P fn fun ex w' => ∃ v at', ex = .returned v ∧ Turn (at_.map (·.1)) w w' ∧ (∀ b, AtB at' b → (AtB at_ b ∨ w.heap.size ≤ b) ∧ b < w'.heap.size) ∧
        RowP w' (fun b => X b ∨ AtB at' b) at' c' e sz ∧ (if back = true then SlP at' c'.length v else v = .tuple #[] ∧ at' = at_)) hT hm hB _ (fun ν' ex S σ a w' hfin hR' => by
      have hturn : Turn (at_.map (·.1)) w w' := ⟨hR'.old.os, hR'.old.tape, hR'.old.output, hR'.old.size, fun b hb hne => hR'.old.block b hb (fun ⟨cc, hy⟩ => hne (by rw [hy]; rfl)), hR'.old.ysz⟩
      have hmine : ∀ b, Own σ b → (AtB at_ b ∨ w.heap.size ≤ b) ∧ b < w'.heap.size := fun b hb => by
        obtain ⟨h1, h2⟩ := hR'.own b hb
        rcases h1 with h1 | h1
        · exact ⟨.inr h1, h2⟩
        · exact ⟨.inl h1, h2⟩
      -- the row, at the end
      have row : ∀ (j ver : Nat) (cE : E) (pl : Pl), getO S.L j = some ⟨ver, .row cE e sz⟩ → σ[j]? = some pl → denC ν' cE = c' → pl.ver = ver ∧ RowP w' (fun b => X b ∨ AtB pl.at_ b) pl.at_ c' e sz ∧ pl.sz = sz := fun j ver cE pl hob hpl hc => by
        obtain ⟨h1, h2⟩ := hR'.L j _ pl hob hpl
        obtain ⟨h3, h4⟩ := OR_row.1 h2
        rw [hc] at h4
        refine ⟨h1, h4.mono fun b hb => ?_, h3⟩
        rcases hb with hb | ⟨cc, hb⟩
        · exact .inl hb
        · exact .inr ⟨j, pl, cc, hpl, hb⟩
      suffices hgoal : ∃ v at', (results fn a.tmps).run P w' = .ok v w' ∧ Turn (at_.map (·.1)) w w' ∧ (∀ b, AtB at' b → (AtB at_ b ∨ w.heap.size ≤ b) ∧ b < w'.heap.size) ∧ RowP w' (fun b => X b ∨ AtB at' b) at' c' e sz ∧ (if back = true then SlP at' c'.length v else v = .tuple #[] ∧ at' = at_) by
        obtain ⟨v, at', hrun, hrest⟩ := hgoal
        cases ex with
        | normal => exact ⟨hR'.defers, v, hrun, v, at', rfl, hrest⟩
        | ret => exact ⟨hR'.defers, v, hrun, v, at', rfl, hrest⟩
      unfold FinG resM at hfin
      cases back with
      | true =>
        simp only [cond_true] at hfin
        split at hfin
        rotate_left
        · exact hfin.elim
        rename_i lvs ns hm'
        split at hm'
        rotate_left
        · simp at hm'
        rename_i rx hrs
        split at hm'
        rotate_left
        · simp at hm'
        rename_i j ver nn ns' hx
        split at hm'
        rotate_left
        · simp at hm'
        rename_i ver' cE e' sz' hob
        cases hbq : Nat.beq ver ver' && Nat.beq e e' && Nat.beq sz sz'
        · rw [hbq] at hm'; simp at hm'
        rw [hbq] at hm'
        simp only [cond_true, Option.some.injEq, Prod.mk.injEq] at hm'
        obtain ⟨rfl, rfl⟩ := hm'
        simp only [Bool.and_eq_true] at hbq
        obtain rfl := Nat.eq_of_beq_eq_true hbq.1.1
        obtain rfl := Nat.eq_of_beq_eq_true hbq.1.2
        obtain rfl := Nat.eq_of_beq_eq_true hbq.2
        obtain ⟨hns, hres⟩ := hfin
        simp only [resDV, dvOf, DV.c.injEq, CV.vs.injEq] at hres
        obtain ⟨q, hq, lq⟩ := res_oneV hT hR' hx (fun n hm => hns n (by simp [hm]))
        have hnn : denI ν' nn = (denC ν' cE).length := by
          cases hcl : isClen cE nn
          · have h1 := hns (.le nn (.clen cE)) (by simp [hcl])
            have h2 := hns (.le (.clen cE) nn) (by simp [hcl])
            simp only [denN, denI] at h1 h2
            omega
          · exact isClen_den hcl
        simp only [LR] at lq
        obtain ⟨ad, len, rc, pl, rfl, hpl, _, hv⟩ := lq
        obtain ⟨g1, g2, g3⟩ := row j ver cE pl hob hpl hres
        have hsl' := (SlP.of (hv g1.symm)).1
        rw [hnn, hres] at hsl'
        refine ⟨.slice ad len rc, pl.at_, ?_, hturn, fun b ⟨cc, hb⟩ => hmine b ⟨j, pl, cc, hpl, hb⟩, g2, ?_⟩
        · rw [results_eq, Array.mapM_eq_mapM_toList, hrs]
          simp only [List.mapM_cons, List.mapM_nil, Sem.run_bind, Sem.run_map, hq, Result.andThen_ok, Sem.run_pure]
          rfl
        · simp only [if_true]
          simpa using hsl'
      | false =>
        simp only [cond_false] at hfin
        split at hfin
        rotate_left
        · exact hfin.elim
        rename_i lvs ns hm'
        split at hm'
        rotate_left
        · simp at hm'
        rename_i j ver nn hrs hG
        split at hm'
        rotate_left
        · simp at hm'
        rename_i ver' cE e' sz' hob
        cases hbq : Nat.beq ver ver' && Nat.beq e e' && Nat.beq sz sz'
        · rw [hbq] at hm'; simp at hm'
        rw [hbq] at hm'
        simp only [cond_true, Option.some.injEq, Prod.mk.injEq] at hm'
        obtain ⟨rfl, rfl⟩ := hm'
        simp only [Bool.and_eq_true] at hbq
        obtain rfl := Nat.eq_of_beq_eq_true hbq.1.1
        obtain rfl := Nat.eq_of_beq_eq_true hbq.1.2
        obtain rfl := Nat.eq_of_beq_eq_true hbq.2
        obtain ⟨hns, hres⟩ := hfin
        simp only [resDV, dvOf, DV.c.injEq, CV.vs.injEq] at hres
        have lg := hR'.G
        rw [hG] at lg
        simp only [LRs, and_true, LR] at lg
        obtain ⟨ad, len, rc, pl, hre, hpl, _, hv⟩ := lg
        obtain ⟨g1, g2, g3⟩ := row j ver cE pl hob hpl hres
        have hv := hv g1.symm
        have hl' := hl rfl
        refine ⟨.tuple #[], at_, ?_, hturn, fun b hb => ⟨.inl hb, Nat.lt_of_lt_of_le (hat b hb).1 hR'.old.size⟩, ?_, ?_⟩
        · rw [results_eq, Array.mapM_eq_mapM_toList, hrs]
          simp only [List.mapM_nil, Sem.run_bind, Sem.run_map, Result.andThen_ok, Sem.run_pure]
          rfl
        · rcases hsl with ⟨h1, h2, h3⟩ | ⟨b0, c0, rc0, h1, h2, h3, h4⟩
          · rw [h2] at hre
            simp only [Value.slice.injEq] at hre
            obtain ⟨rfl, rfl, rfl⟩ := hre
            rcases hv with ⟨k1, _⟩ | ⟨_, _, _, _, k2, _⟩
            · rw [h1]
              rw [k1] at g2
              exact g2
            · simp at k2
          · rw [h2] at hre
            simp only [Value.slice.injEq] at hre
            obtain ⟨rfl, rfl, rfl⟩ := hre
            rcases hv with ⟨_, k2, _⟩ | ⟨b1, c1, off, k1, k2, _⟩
            · simp at k2
            · simp only [Option.some.injEq, Addr.mk.injEq] at k2
              obtain ⟨rfl, _, _⟩ := k2
              obtain ⟨r1, r2, r3⟩ := hrow
              obtain ⟨q1, q2, q3⟩ := g2
              refine ⟨q1, q2, ?_⟩
              rcases r3 with ⟨r3, _⟩ | ⟨b2, cap2, a2, fr2, s1, s2, s3, s4, s5, s6⟩
              · rw [h1] at r3; simp at r3
              rcases q3 with ⟨q3, _⟩ | ⟨b3, cap3, a3, fr3, t1, t2, t3, t4, t5, t6⟩
              · rw [k1] at q3; simp at q3
              rw [h1] at s1
              rw [k1] at t1
              simp only [Option.some.injEq, Prod.mk.injEq] at s1 t1
              obtain ⟨rfl, rfl⟩ := s1
              obtain ⟨rfl, rfl⟩ := t1
              obtain ⟨a4, e4, fr4, u1, u2⟩ := hR'.old.ysz b0 a2 e fr2 s2
              rw [t2] at u1
              simp only [Option.some.injEq, Obj.cells.injEq] at u1
              obtain ⟨rfl, rfl, rfl⟩ := u1
              refine .inr ⟨b0, c0, a3, fr3, h1, t2, t3, by omega, by omega, fun i el hi f cv hf => ?_⟩
              obtain ⟨r, hr, hc⟩ := t6 i el hi f cv hf
              refine ⟨r, hr, hc.mono fun b hb => ?_⟩
              rcases hb with hb | ⟨cc, hb⟩
              · exact .inl hb
              · rw [h1] at hb
                simp only [Option.some.injEq, Prod.mk.injEq] at hb
                exact .inr ⟨c1, by rw [k1, hb.1]⟩
        · simp
      ) (fun l a w h => h) n c ν _ σ0 _ w hd hR
  exact this
end
end Go.Proofs.Ytdgjcdhomfhfpaa
