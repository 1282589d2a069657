/- A symbolic run of Go code: functions that are handed a struct of their caller's own, one of whose fields is a row of the caller's own. No condition. -/
import Derived.Test.YtdgjcdhomfhfpaaAbN
import Derived.Test.YtdgjcdhomfhfpaaAb19
namespace Go.Proofs.Ytdgjcdhomfhfpaa
open Go.RowKit
set_option linter.unusedSimpArgs false
set_option linter.unusedVariables false

/-- which cell of the struct is the row; the struct's type; the row's elements -/
structure Mo where
  j : Nat
  el : TypeId
  e : TypeId
  sz : Nat
def OwnO (X : Nat → Prop) (bb : Nat) (at_ : Option (Nat × Nat)) : Nat → Prop := fun b => X b ∨ (b = bb ∨ AtB at_ b)
/-- the struct, in memory -/
def BoxP (w : World) (X : Nat → Prop) (bb : Nat) (at_ : Option (Nat × Nat)) (m : Mo) (cs : List DV) : Prop :=
  ∃ (a : Array Value) (fr : Nat × Nat), w.heap[bb]? = some (.cells a m.el fr) ∧ Free fr a.size ∧ ArgsM w X at_ m.j cs a.toList
/-- what a call may turn: the struct, the row -/
structure TurnO (bb : Nat) (at_ : Option (Nat × Nat)) (w w' : World) : Prop where
  os : w'.os = w.os
  tape : w'.tape = w.tape
  output : w'.output = w.output
  size : w.heap.size ≤ w'.heap.size
  heap : ∀ b, b < w.heap.size → b ≠ bb → ¬ AtB at_ b → w'.heap[b]? = w.heap[b]?
  sz : SzKept w w'
/-- A FUNCTION THAT IS HANDED A STRUCT OF ITS CALLER'S OWN: it may write the struct and the row that one of its fields is; nothing else that was there has changed. -/
def FnO (P : Program) (m : Mo) (f : FuncId) (cs : List DV) (args : List DV) (res : DV) (cs' : List DV) : Prop :=
  CanEnter P f ∧ ∃ c c', cs[m.j]? = some (.c (.vs c)) ∧ cs'[m.j]? = some (.c (.vs c')) ∧
    ∀ (w : World) (X : Nat → Prop) (bb : Nat) (at_ : Option (Nat × Nat)) (vs : List Value), Glo w → (∀ b, X b → b < w.heap.size) → (bb < w.heap.size ∧ ¬ X bb ∧ ∀ g ∈ gloList, g ≠ bb) →
      (∀ b, AtB at_ b → b < w.heap.size ∧ ¬ X b ∧ b ≠ bb ∧ ∀ g ∈ gloList, g ≠ b) →
      BoxP w (OwnO X bb at_) bb at_ m cs → RowP w (OwnO X bb at_) at_ c m.e m.sz → DVRs w (OwnO X bb at_) args vs →
      Calls P f ((.pointer (some ⟨bb, 0, none⟩) : Value) :: vs).toArray w fun ex w' => ∃ v at', ex = .returned v ∧ TurnO bb at_ w w' ∧
        (∀ b, AtB at' b → (AtB at_ b ∨ w.heap.size ≤ b) ∧ b < w'.heap.size ∧ b ≠ bb) ∧ BoxP w' (OwnO X bb at') bb at' m cs' ∧ RowP w' (OwnO X bb at') at' c' m.e m.sz ∧ DVR w' (OwnO X bb at') res v

section
variable {P : Program} {T : Tab} {X : Nat → Prop}
/-- what is left, at the end: the results, the struct's cells -/
def resO (T : Tab) (m : Mo) (rs : List ResultVar) (S : St) : Option (List LV × List Need) :=
  match resVals T S rs, getO S.L 0, getO S.L 1, S.G with
  | some (vs, ns), some ⟨ver', .row cE e' sz'⟩, some ⟨v1, .box cs el'⟩, [.ptr 1 1 0] => match cs.drop m.j with
    | .rs 0 ver (.int 0) n :: post => match shutArgs (getO S.L) vs, shutArgs (getO S.L) (cs.take m.j), shutArgs (getO S.L) post with
      | some (vs', n1), some (pre', n2), some (post', n3) => bif Nat.beq ver ver' && Nat.beq v1 1 && Nat.beq m.e e' && Nat.beq m.sz sz' && Nat.beq m.el el' && !(vs.any isRs) && !((cs.take m.j).any isRs) && !(post.any isRs) then
          some ([resV vs', .tup (pre' ++ .vs (mkTake cE n) :: post')], ns ++ n1 ++ n2 ++ n3 ++ (bif isClen cE n then [] else [.le n (.clen cE)])) else none
      | _, _, _ => none
    | _ => none
  | _, _, _, _ => none

theorem dvOf_resV (ν : Nu) (vs : List LV) : dvOf ν (resV vs) = resDV ν vs := by
  match vs with
  | [] => rfl
  | [v] => rfl
  | _ :: _ :: _ => rfl
theorem dvsOf_append (ν : Nu) : ∀ (a b : List LV), dvsOf ν (a ++ b) = dvsOf ν a ++ dvsOf ν b
  | [], _ => by simp [dvsOf]
  | x :: a, b => by simp only [List.cons_append, dvsOf, dvsOf_append ν a b]
theorem dvsOf_length (ν : Nu) : ∀ (a : List LV), (dvsOf ν a).length = a.length
  | [] => by simp [dvsOf]
  | x :: a => by simp only [List.length_cons, dvsOf, dvsOf_length ν a]
theorem shutArgs_len (get : Nat → Option Ob) : ∀ (vs vs' : List LV) (ns : List Need), shutArgs get vs = some (vs', ns) → vs'.length = vs.length
  | [], vs', ns, h => by
    simp only [shutArgs, Option.some.injEq, Prod.mk.injEq] at h
    obtain ⟨rfl, _⟩ := h
    rfl
  | v :: vs, vs', ns, h => by
    simp only [shutArgs] at h
    split at h
    · rename_i a ns1 b ns2 ha hb
      simp only [Option.some.injEq, Prod.mk.injEq] at h
      obtain ⟨rfl, _⟩ := h
      simp [shutArgs_len get vs b ns2 hb]
    · simp at h
theorem argsM_of {w : World} {Y : Nat → Prop} {at_ : Option (Nat × Nat)} {c : List (List CV)} {v : Value} (hv : SlP at_ c.length v) {post : List DV} {vs2 : List Value} (h2 : DVRs w Y post vs2) : ∀ (pre : List DV) (vs1 : List Value), DVRs w Y pre vs1 →
    ArgsM w Y at_ pre.length (pre ++ .c (.vs c) :: post) (vs1 ++ v :: vs2)
  | [], [], _ => ⟨⟨c, rfl, hv⟩, h2⟩
  | d :: pre, r :: vs1, h => by
    simp only [DVRs] at h
    exact ⟨h.1, argsM_of hv h2 pre vs1 h.2⟩
  | [], _ :: _, h => by simp [DVRs] at h
  | _ :: _, [], h => by simp [DVRs] at h
theorem res_value {w : World} {Y : Nat → Prop} {ν : Nu} {rvs : List LV} {qs : List Value} (hdv : DVRs w Y (dvsOf ν rvs) qs) : DVR w Y (resDV ν rvs) (if h : qs.toArray.size = 1 then qs.toArray[0] else .tuple qs.toArray) := by
  cases rvs with
  | nil =>
    cases qs with
    | nil =>
      simp only [resDV, DVR]
      exact ⟨#[], rfl, hdv⟩
    | cons q qs => simp [dvsOf, DVRs] at hdv
  | cons v rvs =>
    cases qs with
    | nil => simp [dvsOf, DVRs] at hdv
    | cons q qs =>
      cases rvs with
      | nil =>
        cases qs with
        | nil =>
          simp only [dvsOf, DVRs] at hdv
          simpa [resDV] using hdv.1
        | cons q' qs => simp [dvsOf, DVRs] at hdv
      | cons v' rvs =>
        cases qs with
        | nil => simp [dvsOf, DVRs] at hdv
        | cons q' qs =>
          simp only [resDV, DVR]
          refine ⟨(q :: q' :: qs).toArray, by simp, hdv⟩
theorem RowP.take {w : World} {Y : Nat → Prop} {at_ : Option (Nat × Nat)} {c : List (List CV)} {e : TypeId} {sz : Nat} (h : RowP w Y at_ c e sz) (n : Nat) : RowP w Y at_ (c.take n) e sz := by
  obtain ⟨h1, h2, h3⟩ := h
  refine ⟨h1, fun el he => h2 el (List.mem_of_mem_take he), ?_⟩
  rcases h3 with ⟨h3, rfl⟩ | ⟨b, cap, a, fr, g1, g2, g3, g4, g5, g6⟩
  · exact .inl ⟨h3, by simp⟩
  · refine .inr ⟨b, cap, a, fr, g1, g2, g3, g4, by rw [List.length_take]; omega, fun i el hi => ?_⟩
    rw [List.getElem?_take] at hi
    split at hi
    · exact g6 i el hi
    · cases hi
theorem no_rs {vs : List LV} (h : (!(vs.any isRs)) = true) : ∀ v ∈ vs, isRs v = false := fun v hv => by
  cases hb : isRs v
  · rfl
  · have : vs.any isRs = true := List.any_eq_true.2 ⟨v, hv, hb⟩
    rw [this] at h
    cases h

/-- From a tree to the contract of a function that is handed a struct. -/
theorem fnO_of (hT : TOK P T) (hm : P.follows .mixedOrders = true) {B : FuncId → Option Func} (hB : ∀ f fn, B f = some fn → P.funcs[f]? = some fn) {f : FuncId} {fn : Func} (hf : P.funcs[f]? = some fn) (hn : (fn.name == "runtime.NumGoroutine") = false) {c : Code} (hb : fn.body = some c) (n : Nat) (ν : Nu)
    (pre post ps : List LV) (k : Nat) (el e : TypeId) (sz : Nat) (hpre : pre.all shapeB = true) (hpost : post.all shapeB = true) (hps : ps.all shapeB = true) (hlen : 1 + ps.length ≤ fn.ntmps) {res : DV} {cs' : List DV} {c' : List (List CV)} (hc' : cs'[pre.length]? = some (.c (.vs c')))
    (hd : den P (FinG (resO T ⟨pre.length, el, e, sz⟩ fn.results.toList) (.tup [res, .tup cs'])) (fun _ _ _ => False) ν (runB T B n (resMask fn.results.toList) .done 0 [.code c] ⟨(.ptr 1 1 0 :: ps) ++ List.replicate (fn.ntmps - (1 + ps.length)) (.tup []), [⟨1, .row (.var k) e sz⟩, ⟨1, .box (pre ++ .rs 0 1 (.int 0) (.clen (.var k)) :: post) el⟩], ν.length, [.ptr 1 1 0]⟩)) :
    FnO P ⟨pre.length, el, e, sz⟩ f (dvsOf ν (pre ++ .vs (.var k) :: post)) (dvsOf ν ps) res cs' := by
  refine ⟨canEnter_of hf hn (by rw [hb]; rfl), denC ν (.var k), c', dvsOf_get ν _ pre post, hc', fun w X bb at_ vs hglo hX hbb hat hbox hrow hvs => ?_⟩
  refine calls_of_wp hf hb ?_
  simp only at hrow hvs hbox
  obtain ⟨σ0, hσ0⟩ : ∃ σ0 : List Pl, σ0 = [⟨1, at_, sz⟩, ⟨1, some (bb, 0), 0⟩] := ⟨_, rfl⟩
  have hown : ∀ b, Own σ0 b ↔ (b = bb ∨ AtB at_ b) := fun b => by
    rw [hσ0]
    constructor
    · rintro ⟨i, p, cc, hi, hc⟩
      match i with
      | 0 =>
        simp only [List.getElem?_cons_zero, Option.some.injEq] at hi
        subst hi
        exact .inr ⟨cc, hc⟩
      | 1 =>
        simp only [List.getElem?_cons_succ, List.getElem?_cons_zero, Option.some.injEq] at hi
        subst hi
        simp only [Option.some.injEq, Prod.mk.injEq] at hc
        exact .inl hc.1.symm
      | i + 2 => simp at hi
    · rintro (rfl | ⟨cc, hc⟩)
      · exact ⟨1, _, 0, rfl, rfl⟩
      · exact ⟨0, _, cc, rfl, hc⟩
  have hE : Exc X σ0 = OwnO X bb at_ := by
    funext b
    apply propext
    unfold Exc OwnO
    rw [hown]
  rw [← hE] at hrow hvs hbox
  obtain ⟨a0, fr0, hba, hfree, hcells⟩ := hbox
  obtain ⟨lc, _⟩ := argsM_to (X := X) (σ := σ0) (sz := sz) (by rw [hσ0]; rfl) hpost pre a0.toList hpre hcells
  have l1 : LRs ν w X σ0 ps vs := res_shape hps hvs
  have hl1 := LRs_len l1
  have lp : LR ν w X σ0 (.ptr 1 1 0) (.pointer (some ⟨bb, 0, none⟩)) := by
    simp only [LR]
    exact ⟨_, ⟨1, some (bb, 0), 0⟩, rfl, by rw [hσ0]; rfl, Nat.le_refl _, fun _ => ⟨bb, 0, rfl, rfl⟩⟩
  have hR : Rel ⟨w, fun b => b = bb ∨ AtB at_ b, [.pointer (some ⟨bb, 0, none⟩)]⟩ X ν ⟨(.ptr 1 1 0 :: ps) ++ List.replicate (fn.ntmps - (1 + ps.length)) (.tup []), [⟨1, .row (.var k) e sz⟩, ⟨1, .box (pre ++ .rs 0 1 (.int 0) (.clen (.var k)) :: post) el⟩], ν.length, [.ptr 1 1 0]⟩ σ0
      { tmps := ((.pointer (some ⟨bb, 0, none⟩) : Value) :: vs).toArray ++ Array.replicate (fn.ntmps - ((.pointer (some ⟨bb, 0, none⟩) : Value) :: vs).toArray.size) undef, defers := [] } w :=
    { defers := rfl, F := by
        have e1 : fn.ntmps - ((.pointer (some ⟨bb, 0, none⟩) : Value) :: vs).toArray.size = fn.ntmps - (1 + ps.length) := by simp; omega
        rw [e1]
        have l2 : LRs ν w X σ0 (.ptr 1 1 0 :: ps) ((.pointer (some ⟨bb, 0, none⟩) : Value) :: vs) := by
          simp only [LRs]
          exact ⟨lp, l1⟩
        have := LRs_append l2 (LRs_undef (ν := ν) (w := w) (X := X) (σ := σ0) (fn.ntmps - (1 + ps.length)))
        simpa using this
      len := by rw [hσ0]; rfl
      L := fun i ob pl hob hi => by
        rw [hσ0] at hi
        match i with
        | 0 =>
          simp only [getO, Option.some.injEq] at hob
          simp only [List.getElem?_cons_zero, Option.some.injEq] at hi
          subst hob hi
          exact ⟨rfl, OR_row.2 ⟨rfl, hrow⟩⟩
        | 1 =>
          simp only [getO, Option.some.injEq] at hob
          simp only [List.getElem?_cons_succ, List.getElem?_cons_zero, Option.some.injEq] at hi
          subst hob hi
          exact ⟨rfl, bb, 0, a0, fr0, rfl, hba, hfree, lc⟩
        | i + 2 => simp at hi
      inj := fun i j p q b cc d hi hj hp hq => by
        rw [hσ0] at hi hj
        match i, j with
        | 0, 0 => rfl
        | 1, 1 => rfl
        | 0, 1 =>
          simp only [List.getElem?_cons_zero, List.getElem?_cons_succ, Option.some.injEq] at hi hj
          subst hi hj
          simp only [Option.some.injEq, Prod.mk.injEq] at hq
          exact absurd hq.1.symm (hat b ⟨cc, hp⟩).2.2.1
        | 1, 0 =>
          simp only [List.getElem?_cons_zero, List.getElem?_cons_succ, Option.some.injEq] at hi hj
          subst hi hj
          simp only [Option.some.injEq, Prod.mk.injEq] at hp
          exact absurd hp.1.symm (hat b ⟨d, hq⟩).2.2.1
        | i + 2, _ => simp at hi
        | 0, j + 2 => simp at hj
        | 1, j + 2 => simp at hj
      own := fun b hb => by
        rw [hown] at hb
        refine ⟨.inr hb, ?_⟩
        rcases hb with rfl | hb
        · exact hbb.1
        · exact (hat b hb).1
      old := ⟨rfl, rfl, rfl, Nat.le_refl _, fun _ _ _ => rfl, fun g hg hy => by
        rcases hy with rfl | hy
        · exact hbb.2.2 _ hg rfl
        · exact (hat g hy).2.2.2 g hg rfl, fun b a e fr h => ⟨a, e, fr, h, rfl⟩⟩
      ex := fun b hb => ⟨hX b hb, fun hy => by
        rcases hy with rfl | hy
        · exact hbb.2.1 hb
        · exact (hat b hy).2.1 hb⟩, glo := hglo, n := rfl
      G := by
        simp only [LRs, and_true]
        exact lp }
  have := run_sound (Q := bodyPost P fn fun ex w' => ∃ v at', ex = .returned v ∧ TurnO bb at_ w w' ∧
        (∀ b, AtB at' b → (AtB at_ b ∨ w.heap.size ≤ b) ∧ b < w'.heap.size ∧ b ≠ bb) ∧ BoxP w' (OwnO X bb at') bb at' ⟨pre.length, el, e, sz⟩ cs' ∧ RowP w' (OwnO X bb at') at' c' e sz ∧ DVR w' (OwnO X bb at') res v) hT hm hB _ (fun ν' ex S σ a w' hfin hR' => by
      have hturn : TurnO bb at_ w w' := ⟨hR'.old.os, hR'.old.tape, hR'.old.output, hR'.old.size, fun b hb h1 h2 => hR'.old.block b hb (fun hy => by
        rcases hy with hy | hy
        · exact h1 hy
        · exact h2 hy), hR'.old.ysz⟩
      suffices hgoal : ∃ v at', (results fn a.tmps).run P w' = .ok v w' ∧ (∀ b, AtB at' b → (AtB at_ b ∨ w.heap.size ≤ b) ∧ b < w'.heap.size ∧ b ≠ bb) ∧ BoxP w' (OwnO X bb at') bb at' ⟨pre.length, el, e, sz⟩ cs' ∧ RowP w' (OwnO X bb at') at' c' e sz ∧ DVR w' (OwnO X bb at') res v by
        obtain ⟨v, at', hrun, h1, h2, h3, h4⟩ := hgoal
        cases ex with
        | normal => exact ⟨hR'.defers, v, hrun, v, at', rfl, hturn, h1, h2, h3, h4⟩
        | ret => exact ⟨hR'.defers, v, hrun, v, at', rfl, hturn, h1, h2, h3, h4⟩
      unfold FinG resO at hfin
      split at hfin
      rotate_left
      · exact hfin.elim
      rename_i lvs ns hm'
      split at hm'
      rotate_left
      · simp at hm'
      rename_i vs0 ns0 ver' cE e' sz' v1 bcs el' hrv hob0 hob1 hG
      split at hm'
      rotate_left
      · simp at hm'
      rename_i ver nn post2 hdrop
      split at hm'
      rotate_left
      · simp at hm'
      rename_i vs' n1 pre' n2 post' n3 hs1 hs2 hs3
      cases hbq : Nat.beq ver ver' && Nat.beq v1 1 && Nat.beq e e' && Nat.beq sz sz' && Nat.beq el el' && !(vs0.any isRs) && !((bcs.take pre.length).any isRs) && !(post2.any isRs)
      · simp only at hm'
        rw [hbq] at hm'; simp at hm'
      simp only at hm'
      rw [hbq] at hm'
      simp only [cond_true, Option.some.injEq, Prod.mk.injEq] at hm'
      obtain ⟨rfl, rfl⟩ := hm'
      simp only [Bool.and_eq_true] at hbq
      obtain ⟨⟨⟨⟨⟨⟨⟨q1, q2⟩, q3⟩, q4⟩, q5⟩, q6⟩, q7⟩, q8⟩ := hbq
      obtain rfl := Nat.eq_of_beq_eq_true q1
      obtain rfl := Nat.eq_of_beq_eq_true q2
      obtain rfl := Nat.eq_of_beq_eq_true q3
      obtain rfl := Nat.eq_of_beq_eq_true q4
      obtain rfl := Nat.eq_of_beq_eq_true q5
      obtain ⟨hns, hres⟩ := hfin
      simp only [resDV, dvsOf, dvOf, DV.tup.injEq, List.cons.injEq, and_true] at hres
      obtain ⟨hres, hcs⟩ := hres
      have hns0 : denNs ν' ns0 := fun n hm => hns n (by simp [hm])
      have hns1 : denNs ν' n1 := fun n hm => hns n (by simp [hm])
      have hns2 : denNs ν' n2 := fun n hm => hns n (by simp [hm])
      have hns3 : denNs ν' n3 := fun n hm => hns n (by simp [hm])
      have hct : denC ν' (mkTake cE nn) = (denC ν' cE).take (denI ν' nn).toNat ∧ denI ν' nn ≤ (denC ν' cE).length := by
        unfold mkTake
        cases hcl : isClen cE nn
        · have h1 := hns (.le nn (.clen cE)) (by simp [hcl])
          simp only [denN, denI] at h1
          exact ⟨by simp only [cond_false, denC], h1⟩
        · have := isClen_den (ν := ν') hcl
          simp only [cond_true]
          rw [this, Int.toNat_natCast, List.take_length]
          exact ⟨rfl, Int.le_refl _⟩
      -- where the struct lies
      have lg := hR'.G
      rw [hG] at lg
      simp only [LRs, and_true, LR] at lg
      obtain ⟨p1, pl1, hp1, hpl1, _, hv1⟩ := lg
      obtain ⟨hver1, hor1⟩ := hR'.L 1 _ pl1 hob1 hpl1
      obtain ⟨b1, c1, hat1, hpe⟩ := hv1 hver1.symm
      simp only [Value.pointer.injEq] at hp1
      rw [hpe] at hp1
      simp only [Option.some.injEq, Addr.mk.injEq, and_true] at hp1
      obtain rfl := hp1
      obtain ⟨b2, c2, a2, fr2, g1, g2, g3, g4⟩ := hor1
      rw [hat1] at g1
      simp only [Option.some.injEq, Prod.mk.injEq] at g1
      obtain ⟨rfl, _⟩ := g1
      -- the row
      obtain ⟨pl0, hpl0⟩ : ∃ pl0, σ[0]? = some pl0 := by
        have hl : 0 < σ.length := by
          rw [hR'.len]
          exact getO_lt _ _ _ hob0
        exact ⟨_, List.getElem?_eq_getElem hl⟩
      obtain ⟨hver0, hor0⟩ := hR'.L 0 _ pl0 hob0 hpl0
      obtain ⟨r3, r4⟩ := OR_row.1 hor0
      have hY : ∀ b, OwnO X bb pl0.at_ b → Exc X σ b := fun b hb => by
        rcases hb with hb | rfl | ⟨cc, hb⟩
        · exact .inl hb
        · exact .inr ⟨1, pl1, c1, hpl1, hat1⟩
        · exact .inr ⟨0, pl0, cc, hpl0, hb⟩
      -- the struct's cells
      have hj : pre.length < bcs.length := by
        have := congrArg List.length hdrop
        simp only [List.length_drop, List.length_cons] at this
        omega
      have hsplit : bcs = bcs.take pre.length ++ .rs 0 ver (.int 0) nn :: post2 := by
        rw [← hdrop, List.take_append_drop]
      rw [hsplit] at g4
      have htl : (bcs.take pre.length).length = pre.length := by rw [List.length_take]; omega
      obtain ⟨va, vb, hav, la, lb⟩ : ∃ va vb, a2.toList = va ++ vb ∧ LRs ν' w' X σ (bcs.take pre.length) va ∧ LRs ν' w' X σ (.rs 0 ver (.int 0) nn :: post2) vb := by
        have hle := LRs_len g4
        simp only [List.length_append, List.length_cons, htl] at hle
        have hlen2 : (a2.toList.take pre.length).length = pre.length := by rw [List.length_take]; omega
        rw [← List.take_append_drop pre.length a2.toList] at g4
        obtain ⟨h1, h2⟩ := LRs_split _ _ g4
        rw [hlen2] at h1 h2
        rw [List.take_append_of_le_length (by omega), List.take_of_length_le (by omega)] at h1
        rw [List.drop_append_of_le_length (by omega), List.drop_of_length_le (by omega), List.nil_append] at h2
        exact ⟨_, _, (List.take_append_drop pre.length a2.toList).symm, h1, h2⟩
      cases vb with
      | nil => simp only [LRs] at lb
      | cons vr vb =>
        simp only [LRs] at lb
        obtain ⟨lr, lpost⟩ := lb
        simp only [LR] at lr
        obtain ⟨ad, len, rc, plr, hvr, hplr, _, hvv⟩ := lr
        rw [hpl0] at hplr
        simp only [Option.some.injEq] at hplr
        subst hplr
        have hsl := (SlP.of (hvv hver0.symm)).1
        rw [← hvr] at hsl
        have hsl : SlP pl0.at_ (denC ν' (mkTake cE nn)).length vr := by
          have e : (denC ν' (mkTake cE nn)).length = (denI ν' nn).toNat := by rw [hct.1, List.length_take]; omega
          rw [e]
          exact hsl
        have d2 := args_LR hY hs2 la (any_ids hR' la) hns2 (fun v hv => .inl (no_rs q7 v hv))
        have d3 := args_LR hY hs3 lpost (any_ids hR' lpost) hns3 (fun v hv => .inl (no_rs q8 v hv))
        have hM := argsM_of (c := denC ν' (mkTake cE nn)) hsl d3 _ _ d2
        have hcs2 : dvsOf ν' pre' ++ .c (.vs (denC ν' (mkTake cE nn))) :: dvsOf ν' post' = cs' := by
          rw [← hcs, dvsOf_append]
          rfl
        have hpl : (dvsOf ν' pre').length = pre.length := by
          rw [dvsOf_length, shutArgs_len _ _ _ _ hs2, htl]
        rw [hcs2, hpl, ← hav] at hM
        have hcc : denC ν' (mkTake cE nn) = c' := by
          rw [← hcs2, ← hpl, List.getElem?_append_right (Nat.le_refl _), Nat.sub_self] at hc'
          simpa using hc'
        have r4 := r4.take (denI ν' nn).toNat
        rw [← hct.1, hcc] at r4
        obtain ⟨qs, hqs, lq⟩ := res_vals hT hR' _ _ _ hrv hns0
        have dq := args_LR hY hs1 lq (any_ids hR' lq) hns1 (fun v hv => .inl (no_rs q6 v hv))
        refine ⟨if h : qs.toArray.size = 1 then qs.toArray[0] else .tuple qs.toArray, pl0.at_, ?_, fun b ⟨cc, hb⟩ => ?_, ⟨a2, fr2, g2, g3, hM⟩, r4.mono hY, ?_⟩
        · rw [results_eq, Array.mapM_eq_mapM_toList]
          simp only [Sem.run_bind, Sem.run_map, hqs, Result.andThen_ok, Sem.run_pure]
        · obtain ⟨h1, h2⟩ := hR'.own b ⟨0, pl0, cc, hpl0, hb⟩
          have h3 : b ≠ bb := fun e => by
            subst e
            have := hR'.inj 0 1 pl0 pl1 b cc c1 hpl0 hpl1 hb hat1
            omega
          refine ⟨?_, h2, h3⟩
          rcases h1 with h1 | h1 | h1
          · exact .inr h1
          · exact absurd h1 h3
          · exact .inl h1
        · rw [← hres, dvOf_resV]
          exact res_value dq
      ) (fun l a w h => h) n c ν _ σ0 _ w hd hR
  exact this
theorem fnO_w {P : Program} {T : Tab} (hT : TOK P T) (hm : P.follows .mixedOrders = true) {B : FuncId → Option Func} (hB : ∀ f fn, B f = some fn → P.funcs[f]? = some fn) {f : FuncId} {fn : Func} (hf : P.funcs[f]? = some fn) (hn : (fn.name == "runtime.NumGoroutine") = false) (n : Nat) (ν : Nu) (pre post ps : List LV) (k : Nat) (el e : TypeId) (sz : Nat)
    (ok : (match fn.body with | some _ => pre.all shapeB && post.all shapeB && ps.all shapeB && Nat.ble (1 + ps.length) fn.ntmps | none => false) = true) {res : DV} {cs' : List DV} {c' : List (List CV)} (hc' : cs'[pre.length]? = some (.c (.vs c'))) {as_ bs_ : List DV} {G : Prop}
    (hd : (denT P (resO T ⟨pre.length, el, e, sz⟩ fn.results.toList) (.tup [res, .tup cs']) (fun _ _ _ => False) ν (match fn.body with | some c => runB T B n (resMask fn.results.toList) .done 0 [.code c] ⟨(.ptr 1 1 0 :: ps) ++ List.replicate (fn.ntmps - (1 + ps.length)) (.tup []), [⟨1, .row (.var k) e sz⟩, ⟨1, .box (pre ++ .rs 0 1 (.int 0) (.clen (.var k)) :: post) el⟩], ν.length, [.ptr 1 1 0]⟩ | none => .fail 0)) = G)
    (hb : dvsOf ν (pre ++ .vs (.var k) :: post) = bs_) (ha : dvsOf ν ps = as_) (h : G) : FnO P ⟨pre.length, el, e, sz⟩ f bs_ as_ res cs' := by
  subst ha hb hd
  cases hb : fn.body with
  | none => rw [hb] at ok; simp at ok
  | some c =>
    rw [hb] at ok h
    simp only [Bool.and_eq_true] at ok
    exact fnO_of hT hm hB hf hn hb n ν pre post ps k el e sz ok.1.1.1 ok.1.1.2 ok.1.2 (by simpa using ok.2) hc' (denT_den _ _ _ _ (fun _ _ _ _ _ h => h.elim) h)
end
end Go.Proofs.Ytdgjcdhomfhfpaa
