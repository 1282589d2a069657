/- A symbolic run of Go code, thirteenth part: operations that make or write memory. No condition. -/
import Derived.Test.YtdgjcdhomfhfpaaAb12
namespace Go.Proofs.Ytdgjcdhomfhfpaa
open Go.RowKit
set_option linter.unusedSimpArgs false
set_option linter.unusedVariables false

/-- rows keep their sizes -/
def SzKept (w w' : World) : Prop := ∀ (b : Nat) (a : Array Value) (e : TypeId) (fr : Nat × Nat), w.heap[b]? = some (.cells a e fr) → ∃ (a' : Array Value) (e' : TypeId) (fr' : Nat × Nat), w'.heap[b]? = some (.cells a' e' fr') ∧ a'.size = a.size
theorem SzKept.refl (w : World) : SzKept w w := fun b a e fr h => ⟨a, e, fr, h, rfl⟩
theorem SzKept.trans {w w1 w2 : World} (h : SzKept w w1) (k : SzKept w1 w2) : SzKept w w2 := fun b a e fr h0 => by
  obtain ⟨a1, e1, fr1, h1, h2⟩ := h b a e fr h0
  obtain ⟨a2, e2, fr2, h3, h4⟩ := k b a1 e1 fr1 h1
  exact ⟨a2, e2, fr2, h3, h4.trans h2⟩
theorem SzKept.of_heap {w w' : World} (h : ∀ b, b < w.heap.size → w'.heap[b]? = w.heap[b]?) : SzKept w w' := fun b a e fr h0 =>
  ⟨a, e, fr, by rw [h b (Array.getElem?_eq_some_iff.1 h0).1]; exact h0, rfl⟩
/-- Only block b0 may have turned; there may be new blocks. -/
structure Turn (b0 : Option Nat) (w w' : World) : Prop where
  os : w'.os = w.os
  tape : w'.tape = w.tape
  output : w'.output = w.output
  size : w.heap.size ≤ w'.heap.size
  heap : ∀ b, b < w.heap.size → b0 ≠ some b → w'.heap[b]? = w.heap[b]?
  sz : SzKept w w'
theorem Turn.refl (b0 : Option Nat) (w : World) : Turn b0 w w := ⟨rfl, rfl, rfl, Nat.le_refl _, fun _ _ _ => rfl, SzKept.refl w⟩
theorem Turn.trans {b0 : Option Nat} {w w1 w2 : World} (h : Turn b0 w w1) (k : Turn b0 w1 w2) : Turn b0 w w2 :=
  ⟨k.os.trans h.os, k.tape.trans h.tape, k.output.trans h.output, Nat.le_trans h.size k.size, fun b hb hn => (k.heap b (Nat.lt_of_lt_of_le hb h.size) hn).trans (h.heap b hb hn), h.sz.trans k.sz⟩
theorem Turn.below {b0 : Option Nat} {w w' : World} (h : Turn b0 w w') {B : Nat} (hB : B ≤ w.heap.size) (hb : ∀ b, b0 = some b → B ≤ b) : Below B w w' :=
  ⟨h.os, h.tape, h.output, h.size, fun k hk => h.heap k (by omega) (fun e => by have := hb k e; omega)⟩
theorem Turn.alloc (w : World) (o : Obj) : Turn none w (w.alloc o) :=
  ⟨rfl, rfl, rfl, by simp, fun b hb _ => Below.heap_alloc w o b hb, .of_heap fun b hb => Below.heap_alloc w o b hb⟩
theorem Turn.drew (w : World) : Turn none w w.drew := ⟨rfl, rfl, rfl, Nat.le_refl _, fun _ _ _ => rfl, .of_heap fun _ _ => rfl⟩
theorem heap_new (w : World) (o : Obj) : (w.alloc o).heap[w.heap.size]? = some o := by
  show (w.heap.push o)[w.heap.size]? = _
  simp

/-- what an operation hands on: a value, or nothing -/
def NextR (n : Next) (r : Value) : Prop := n = .value r ∨ n = .skip ∧ r = undef

section
variable {P : Program} {ν : Nu} {w : World} {X : Nat → Prop} {σ : List Pl}

/-- where a new object lies -/
def NewPl (w w' : World) (pl : Pl) : Prop := pl.at_ = none ∨ ∃ c, pl.at_ = some (w.heap.size, c) ∧ w.heap.size < w'.heap.size

/-- cells laid over others, from a place on -/
def putV (a : Array Value) (o : Nat) (vs : List Value) (k : Nat) : Array Value := (vs.zipIdx k).foldl (fun cs (c, j) => cs.setIfInBounds (o + j) c) a
theorem putV_size (o : Nat) : ∀ (vs : List Value) (k : Nat) (a : Array Value), (putV a o vs k).size = a.size
  | [], k, a => rfl
  | v :: vs, k, a => by
    unfold putV
    rw [List.zipIdx_cons, List.foldl_cons]
    have := putV_size o vs (k + 1) (a.setIfInBounds (o + k) v)
    unfold putV at this
    rw [this]
    simp

theorem one_of {v : LV} (hv : v.one = true) {r : Value} (h : LR ν w X σ v r) : r.oneCell' = true := by
  cases v with
  | b e => simp only [LR] at h; subst h; rfl
  | i k e => simp only [LR] at h; subst h; rfl
  | s e => simp only [LR] at h; subst h; rfl
  | k x =>
    simp only [LR] at h
    subst h
    simp only [LV.one] at hv
    cases r <;> first | rfl | simp [valOne] at hv
  | vs c =>
    simp only [LR] at h
    rcases CVR_inv h with ⟨_, _, rfl⟩ | ⟨_, _, _, _, _, rfl, _⟩ <;> rfl
  | vp c i f => simp only [LR] at h; obtain ⟨_, _, _, rfl, _⟩ := h; rfl
  | o e => simp only [LR] at h; exact h.one
  | fn f cs => simp only [LR] at h; obtain ⟨_, rfl, _⟩ := h; rfl
  | nl c n => simp only [LR] at h; obtain ⟨_, rfl, _⟩ := h; rfl
  | ptr a b c => simp only [LR] at h; obtain ⟨_, _, rfl, _⟩ := h; rfl
  | mp a b => simp only [LR] at h; obtain ⟨_, _, rfl, _⟩ := h; rfl
  | ifc a b => simp only [LR] at h; obtain ⟨_, rfl, _⟩ := h; rfl
  | rp a b c d => simp only [LR] at h; obtain ⟨_, _, rfl, _⟩ := h; rfl
  | rs a b c d => simp only [LR] at h; obtain ⟨_, _, _, _, rfl, _⟩ := h; rfl
  | _ => simp [LV.one] at hv
theorem cv_LR {v : LV} (hv : v.shut = true) {r : Value} (h : LR ν w X σ v r) : CVR w (Exc X σ) (cvOf ν v) r := by
  cases v with
  | b e => simp only [LR] at h; subst h; exact .v _ rfl
  | i k e => simp only [LR] at h; subst h; exact .v _ rfl
  | s e => simp only [LR] at h; subst h; exact .v _ rfl
  | k x => simp only [LR] at h; subst h; exact .v _ (one_of (ν := ν) (w := w) (X := X) (σ := σ) (v := .k r) hv (by simp only [LR]))
  | vs c => simpa only [LR, cvOf] using h
  | o e => simpa only [LR, cvOf] using h
  | _ => simp [LV.shut] at hv
theorem ones_of : ∀ {vs : List LV} {rs : List Value}, vs.all LV.one = true → LRs ν w X σ vs rs → ∀ r ∈ rs, r.oneCell' = true
  | [], [], _, _, r, hr => by simp at hr
  | v :: vs, q :: rs, hv, h, r, hr => by
    simp only [List.all_cons, Bool.and_eq_true] at hv
    simp only [LRs] at h
    rcases List.mem_cons.1 hr with rfl | hr
    · exact one_of hv.1 h.1
    · exact ones_of hv.2 h.2 r hr
  | [], _ :: _, _, h, _, _ => by simp only [LRs] at h
  | _ :: _, [], _, h, _, _ => by simp only [LRs] at h

theorem store_run {b : Nat} {e : TypeId} {fr : Nat × Nat} (o : Nat) : ∀ (vs : List Value) (k : Nat) (a : Array Value) (w : World), w.heap[b]? = some (.cells a e fr) → Free fr a.size → o + k + vs.length ≤ a.size → (∀ v ∈ vs, v.oneCell' = true) →
    ∃ w', (storeCells ⟨b, o, none⟩ vs k).run P w = .ok () w' ∧ Turn (some b) w w' ∧ w'.heap.size = w.heap.size ∧ w'.heap[b]? = some (.cells (putV a o vs k) e fr)
  | [], k, a, w, hh, _, _, _ => ⟨w, rfl, Turn.refl _ _, rfl, hh⟩
  | v :: vs, k, a, w, hh, hf, hl, h1 => by
    have hi : o + k < a.size := by simp at hl; omega
    have hadd : (⟨b, o, none⟩ : Addr).add k = ⟨b, o + k, none⟩ := Addr.add_lit b o k
    have hcell : w.cell? ⟨b, o + k, none⟩ = some a[o + k] := by rw [heap_cell hh]; simp [hi]
    have hfro : w.frozen? ⟨b, o + k, none⟩ = false := by
      have := hf (o + k) hi
      unfold World.frozen?
      rw [hh]
      simp only [Bool.and_eq_false_iff, decide_eq_false_iff_not]
      by_cases h : fr.1 ≤ o + k
      · exact .inr (fun h2 => this ⟨h, h2⟩)
      · exact .inl h
    have hst : (store ((⟨b, o, none⟩ : Addr).add k) v).run P w = .ok () (w.setCell ⟨b, o + k, none⟩ v) := by
      rw [hadd, run_store P w _ v _ (h1 v (by simp)), hcell]
      simp [hfro]
    have hb : b < w.heap.size := by
      have := (Array.getElem?_eq_some_iff.1 hh).1
      exact this
    have hh1 : (w.setCell ⟨b, o + k, none⟩ v).heap[b]? = some (.cells (a.setIfInBounds (o + k) v) e fr) := by
      simp only [World.setCell, Array.getElem?_modify, hh]
      simp
    obtain ⟨w', hr, ht, hs, hh'⟩ := store_run o vs (k + 1) (a.setIfInBounds (o + k) v) (w.setCell ⟨b, o + k, none⟩ v) hh1 (by simpa using hf) (by simp at hl ⊢; omega) (fun x hx => h1 x (by simp [hx]))
    have ht0 : Turn (some b) w (w.setCell ⟨b, o + k, none⟩ v) := ⟨rfl, rfl, rfl, by simp [World.setCell], fun b' hb' hn => Below.heap_setCell w ⟨b, o + k, none⟩ v b' (fun h => hn (by rw [h])), fun b' a' e' fr' h' => by
      by_cases hbb : b' = b
      · subst hbb
        rw [hh] at h'
        simp only [Option.some.injEq, Obj.cells.injEq] at h'
        obtain ⟨rfl, rfl, rfl⟩ := h'
        exact ⟨_, _, _, hh1, by simp⟩
      · exact ⟨a', e', fr', by rw [Below.heap_setCell w ⟨b, o + k, none⟩ v b' hbb]; exact h', rfl⟩⟩
    refine ⟨w', ?_, ht0.trans ht, by rw [hs]; simp [World.setCell], ?_⟩
    · simp only [storeCells, Sem.run_bind, hst, Result.andThen_ok, hr]
    · rw [hh']
      unfold putV
      rw [List.zipIdx_cons, List.foldl_cons]

/-- how one object has changed, or come to be -/
def Moved (w w' : World) (pl pl' : Pl) : Prop := (∃ b c c', pl.at_ = some (b, c) ∧ pl'.at_ = some (b, c') ∧ Turn (some b) w w') ∨ (Turn none w w' ∧ NewPl w w' pl')
def EffU (ν : Nu) (w : World) (X : Nat → Prop) (σ : List Pl) (i : Nat) (ob : Ob) (v : LV) (res : Result Next) : Prop :=
  ∃ (n : Next) (r : Value) (w' : World) (pl pl' : Pl), res = .ok n w' ∧ NextR n r ∧ σ[i]? = some pl ∧ pl'.ver = ob.ver ∧ (pl' = pl ∨ pl.ver < pl'.ver) ∧ Moved w w' pl pl' ∧ LR ν w' X (σ.set i pl') v r ∧ OR ν w' X (σ.set i pl') pl' ob.o
/-- what memory has become; a new object takes the place of a hole -/
def EffOK (ν : Nu) (w : World) (X : Nat → Prop) (σ : List Pl) (fresh : Nat) (out : Out) (res : Result Next) : Prop :=
  match out.e with
  | .no => True
  | .new o => σ[fresh]? = some ⟨0, none, 0⟩ → EffU ν w X σ fresh ⟨1, o⟩ out.v res
  | .upd i ob => EffU ν w X σ i ob out.v res
  | .newc d o v => ∀ m, Nu.at ν m = .l (denDC ν d) → σ[fresh]? = some ⟨0, none, 0⟩ → EffU ν w X σ fresh ⟨1, o (.var m)⟩ (v (.var m)) res
  | .updc d i o v => ∀ m, Nu.at ν m = .l (denDC ν d) → EffU ν w X σ i (o (.var m)) (v (.var m)) res

theorem stays_new {w' : World} {pl : Pl} (ht : Turn none w w') (hp : NewPl w w' pl) : Stays (Exc X σ) (Exc X (σ ++ [pl])) w w' := by
  refine ⟨fun b _ hb => ht.heap b hb (by simp), fun b hb => ?_, ht.size⟩
  rcases hb with hb | ⟨i, p, c, hi, hc⟩
  · exact .inl (.inl hb)
  · by_cases h : i < σ.length
    · rw [List.getElem?_append_left h] at hi
      exact .inl (.inr ⟨i, p, c, hi, hc⟩)
    · rw [List.getElem?_append_right (by omega)] at hi
      cases h0 : i - σ.length with
      | succ n => rw [h0] at hi; simp at hi
      | zero =>
        rw [h0] at hi
        simp only [List.getElem?_cons_zero, Option.some.injEq] at hi
        subst hi
        rcases hp with hp | ⟨c', hp, _⟩
        · rw [hp] at hc; simp at hc
        · rw [hp] at hc
          simp only [Option.some.injEq, Prod.mk.injEq] at hc
          exact .inr (by omega)
theorem later_new (pl : Pl) : Later' σ (σ ++ [pl]) := ⟨fun i p hi => ⟨p, by rw [List.getElem?_append_left (List.getElem?_eq_some_iff.1 hi).1]; exact hi, .inl rfl⟩⟩
theorem set_get {i : Nat} {pl pl' : Pl} (hpl : σ[i]? = some pl) (j : Nat) (p : Pl) (hj : (σ.set i pl')[j]? = some p) : (j = i ∧ p = pl') ∨ (j ≠ i ∧ σ[j]? = some p) := by
  by_cases e : i = j
  · subst e
    rw [List.getElem?_set_self (List.getElem?_eq_some_iff.1 hpl).1] at hj
    exact .inl ⟨rfl, by simpa using hj.symm⟩
  · rw [List.getElem?_set_ne e] at hj
    exact .inr ⟨fun e' => e e'.symm, hj⟩
theorem later_set {i : Nat} {pl pl' : Pl} (hpl : σ[i]? = some pl) (hvv : pl' = pl ∨ pl.ver < pl'.ver) : Later' σ (σ.set i pl') := ⟨fun j p hj => by
  by_cases e : i = j
  · subst e
    obtain rfl : pl = p := by rw [hpl] at hj; simpa using hj
    exact ⟨pl', List.getElem?_set_self (List.getElem?_eq_some_iff.1 hpl).1, hvv⟩
  · exact ⟨p, by rw [List.getElem?_set_ne e]; exact hj, .inl rfl⟩⟩
theorem still_set {w' : World} {pl pl' : Pl} (hm : Moved w w' pl pl') (b : Nat) (hb : b < w.heap.size) (hne : ∀ c, pl.at_ ≠ some (b, c)) : w'.heap[b]? = w.heap[b]? := by
  rcases hm with ⟨b', c, c', hc, hc', ht⟩ | ⟨ht, _⟩
  · exact ht.heap b hb (fun e => by
      simp only [Option.some.injEq] at e
      subst e
      exact hne c hc)
  · exact ht.heap b hb (by simp)
theorem moved_at {w' : World} {pl pl' : Pl} (hm : Moved w w' pl pl') (b c : Nat) (hc : pl'.at_ = some (b, c)) : (∃ c', pl.at_ = some (b, c')) ∨ (b = w.heap.size ∧ w.heap.size < w'.heap.size) := by
  rcases hm with ⟨b', c', c'', h1, h2, ht⟩ | ⟨ht, hp⟩
  · rw [h2] at hc
    simp only [Option.some.injEq, Prod.mk.injEq] at hc
    obtain ⟨rfl, rfl⟩ := hc
    exact .inl ⟨c', h1⟩
  · rcases hp with hp | ⟨c', hp, hlt⟩
    · rw [hp] at hc; simp at hc
    · rw [hp] at hc
      simp only [Option.some.injEq, Prod.mk.injEq] at hc
      exact .inr ⟨hc.1.symm, hlt⟩
theorem stays_set {w' : World} {i : Nat} {pl pl' : Pl} (hpl : σ[i]? = some pl) (hm : Moved w w' pl pl') : Stays (Exc X σ) (Exc X (σ.set i pl')) w w' := by
  refine ⟨fun b hb hlt => still_set hm b hlt (fun c hc => hb (.inr ⟨i, pl, c, hpl, hc⟩)), fun b hb => ?_, by rcases hm with ⟨_, _, _, _, _, h⟩ | ⟨h, _⟩ <;> exact h.size⟩
  rcases hb with hb | ⟨j, p, c, hj, hc⟩
  · exact .inl (.inl hb)
  · rcases set_get hpl j p hj with ⟨rfl, rfl⟩ | ⟨hne, hj'⟩
    · rcases moved_at hm b c hc with ⟨c', h1⟩ | ⟨rfl, _⟩
      · exact .inl (.inr ⟨j, pl, c', hpl, h1⟩)
      · exact .inr (Nat.le_refl _)
    · exact .inl (.inr ⟨j, p, c, hj', hc⟩)
theorem set_self {i : Nat} {pl : Pl} (hpl : σ[i]? = some pl) : σ.set i pl = σ := by
  apply List.ext_getElem?
  intro j
  by_cases e : i = j
  · subst e
    rw [List.getElem?_set_self (List.getElem?_eq_some_iff.1 hpl).1, hpl]
  · rw [List.getElem?_set_ne e]

theorem s_box {T : Tab} {ρ : Operand → LV} {val : Operand → Value} {get : Nat → Option Ob} {fresh : Nat} {o : Oper} {e : TypeId} {x : Operand} (ho : o.op = .box e x) {out : Out} (h : opRun T ρ get fresh o.op = some out) (lx : LR ν w X σ (ρ x) (val x)) :
    EffOK ν w X σ fresh out ((execOp val o).run P w) := by
  rw [ho] at h
  simp only [opRun] at h
  cases hb : (ρ x).cells.all LV.one
  · rw [hb] at h; simp at h
  rw [hb] at h
  simp only [cond_true, Option.some.injEq] at h
  subst h
  intro hpl
  have lc := cells_LRs hb lx
  have hm : Moved w (w.alloc (.cells (val x).cells e)) ⟨0, none, 0⟩ ⟨1, some (w.heap.size, 0), 0⟩ := .inr ⟨Turn.alloc w _, .inr ⟨0, rfl, by simp⟩⟩
  refine ⟨.value (.pointer (some ⟨w.heap.size, 0, none⟩)), _, w.alloc (.cells (val x).cells e), _, ⟨1, some (w.heap.size, 0), 0⟩, ?_, .inl rfl, hpl, rfl, .inr (by simp), hm, ?_, ?_⟩
  · simp [execOp, ho, Instr.box, newVar, newRow]
  · exact ptr_back (pl := ⟨1, some (w.heap.size, 0), 0⟩) (List.getElem?_set_self (List.getElem?_eq_some_iff.1 hpl).1) rfl rfl
  · exact ⟨_, _, _, (0, 0), rfl, heap_new _ _, fun o _ h => by simp at h, LRs.step (stays_set hpl hm) (later_set hpl (.inr (by simp))) _ _ lc⟩

theorem s_alloc {T : Tab} (hT : TOK P T) {ρ : Operand → LV} {val : Operand → Value} {get : Nat → Option Ob} {fresh : Nat} {o : Oper} {e : TypeId} (ho : o.op = .alloc e) {out : Out} (h : opRun T ρ get fresh o.op = some out) (hbox : ∀ d f g, out.e ≠ .newc d f g) :
    EffOK ν w X σ fresh out ((execOp val o).run P w) := by
  rw [ho] at h
  simp only [opRun] at h
  split at h
  · split at h
    · have := cond_some h
      subst this
      exact absurd rfl (hbox _ _ _)
    · simp at h
  · rename_i z _ _ hg
    obtain ⟨hu, ⟨i, hi, hs, _, hz⟩, _⟩ := hT.get hg
    simp only [Option.some.injEq] at h
    subst h
    intro hpl
    have lc : LRs ν w X σ (zeroCells z) z.cells.toList := by
      have := lv_LR ν w X σ z
      cases z with
      | agg cs => simpa [zeroCells, lvOf, LV.cells, Value.cells] using lits_LRs ν w X σ cs.toList
      | tuple vs =>
        simp only [zeroCells, lvOf, LV.cells, Value.cells, LRs]
        exact ⟨by simpa only [lvOf] using this, trivial⟩
      | _ =>
        simp only [zeroCells, lvOf, litOf, LV.cells, Value.cells, LRs]
        exact ⟨by simpa only [lvOf, litOf] using this, trivial⟩
    have hm : Moved w (w.alloc (.cells z.cells e)) ⟨0, none, 0⟩ ⟨1, some (w.heap.size, 0), 0⟩ := .inr ⟨Turn.alloc w _, .inr ⟨0, rfl, by simp⟩⟩
    refine ⟨.value (.pointer (some ⟨w.heap.size, 0, none⟩)), _, w.alloc (.cells z.cells e), _, ⟨1, some (w.heap.size, 0), 0⟩, ?_, .inl rfl, hpl, rfl, .inr (by simp), hm, ?_, ?_⟩
    · simp [execOp, ho, Instr.alloc, run_zero hi (hz z rfl), newVar, newRow]
    · exact ptr_back (pl := ⟨1, some (w.heap.size, 0), 0⟩) (List.getElem?_set_self (List.getElem?_eq_some_iff.1 hpl).1) rfl rfl
    · exact ⟨_, _, _, (0, 0), rfl, heap_new _ _, fun o _ h => by simp at h, LRs.step (stays_set hpl hm) (later_set hpl (.inr (by simp))) _ _ lc⟩
  · simp at h

theorem stays_same {w' : World} {b c : Nat} {i : Nat} {pl : Pl} (hpl : σ[i]? = some pl) (hat : pl.at_ = some (b, c)) (ht : Turn (some b) w w') : Stays (Exc X σ) (Exc X σ) w w' :=
  ⟨fun b' hb' hlt => ht.heap b' hlt (fun h => hb' (.inr (by
    simp only [Option.some.injEq] at h
    subst h
    exact ⟨i, pl, c, hpl, hat⟩))), fun b' hb' => .inl hb', ht.size⟩

theorem s_storeB {T : Tab} (hT : TOK P T) {ρ : Operand → LV} {val : Operand → Value} {get : Nat → Option Ob} {fresh : Nat} {o : Oper} {t : TypeId} {a x : Operand} (ho : o.op = .store t a x) {out : Out} (h : opRun T ρ get fresh o.op = some out)
    (hbox : ∀ d i f g, out.e ≠ .updc d i f g) (la : LR ν w X σ (ρ a) (val a)) (lx : LR ν w X σ (ρ x) (val x)) (hk : ∀ id, (ρ a).id? = some id → Known ν w X σ get id) :
    EffOK ν w X σ fresh out ((execOp val o).run P w) := by
  rw [ho] at h
  simp only [opRun] at h
  split at h
  · rename_i ti id ver off hg hx
    rw [hx] at la hk
    split at h
    · rename_i ver' cs e hob
      cases hb : Nat.beq ver ver' && (ρ x).cells.all LV.one && Nat.beq (ρ x).cells.length ti.size && Nat.ble (off + ti.size) cs.length
      · rw [hb] at h; simp at h
      rw [hb] at h
      simp only [cond_true, Option.some.injEq] at h
      subst h
      simp only [Bool.and_eq_true] at hb
      obtain ⟨⟨⟨hv, hone⟩, hlen⟩, hle⟩ := hb
      have hlen := Nat.eq_of_beq_eq_true hlen
      have hle : off + ti.size ≤ cs.length := by simpa using hle
      obtain ⟨b, c, pl, hpl, hver, hat, hva, ho'⟩ := ptr_live (ρ := .junk) la (hk id rfl) hob hv
      obtain ⟨b', c', ar, fr, hat', hh, hfr, lcs⟩ := ho'
      rw [hat] at hat'
      simp only [Option.some.injEq, Prod.mk.injEq] at hat'
      obtain ⟨rfl, rfl⟩ := hat'
      obtain ⟨hu, ⟨i, hi, hs, _, _⟩, _⟩ := hT.get hg
      have lxc := cells_LRs hone lx
      have l1 := LRs_len lxc
      have l2 := LRs_len lcs
      simp only [Array.length_toList] at l1 l2
      obtain ⟨w', hr, ht, hsz, hh'⟩ := store_run (P := P) off (val x).cells.toList 0 ar w hh hfr (by simp; omega) (ones_of hone lxc)
      have hst := stays_same (X := X) hpl hat ht
      refine ⟨.skip, undef, w', pl, pl, ?_, .inr ⟨rfl, rfl⟩, hpl, hver, .inl rfl, .inl ⟨b, c, c, hat, hat, ht⟩, ?_, ?_⟩
      · have hne : ¬ (val x).cells.size ≠ i.size := by rw [hs]; omega
        simp only [execOp, ho, Sem.run_bind, hva, Instr.storeAt, Instr.sureAddr, Sem.run_pure, Result.andThen_ok, storeVar, run_size hi, hne, if_false, hr]
      · simp only [LR]
        exact ⟨#[], rfl, by simp [LRs]⟩
      · rw [set_self hpl]
        refine ⟨b, c, putV ar off (val x).cells.toList 0, fr, hat, hh', ?_, ?_⟩
        · rw [putV_size]; exact hfr
        · have := put_LRs _ _ 0 off cs ar lxc lcs
          exact LRs.step hst (Later'.refl σ) _ _ this
    · split at h
      · have := cond_some h
        subst this
        exact absurd rfl (hbox _ _ _ _)
      · simp at h
    · simp at h
  · split at h
    · have := cond_some h
      subst this
      exact absurd rfl (hbox _ _ _ _)
    · simp at h
  · simp at h
end
end Go.Proofs.Ytdgjcdhomfhfpaa
