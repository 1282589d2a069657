/- A symbolic run of Go code, fourteenth part: contracts over closed data; what a state becomes by an operation. No condition. -/
import Derived.Test.YtdgjcdhomfhfpaaAb13
namespace Go.Proofs.Ytdgjcdhomfhfpaa
open Go.RowKit
set_option linter.unusedSimpArgs false
set_option linter.unusedVariables false

/-- Closed data, of one cell or more. -/
inductive DV where
  | c (x : CV)
  | agg (cs : List CV)
  | tup (vs : List DV)
  | box (el : List CV) (f : Nat)
  | fn (f : FuncId) (caps : List DV)
  deriving Inhabited
def CVRs (w : World) (X : Nat → Prop) : List CV → List Value → Prop
  | [], [] => True
  | c :: cs, r :: rs => CVR w X c r ∧ CVRs w X cs rs
  | _, _ => False
mutual
def DVR (w : World) (X : Nat → Prop) : DV → Value → Prop
  | .c x, r => CVR w X x r
  | .agg cs, r => ∃ a : Array Value, r = .agg a ∧ CVRs w X cs a.toList
  | .tup vs, r => ∃ a : Array Value, r = .tuple a ∧ DVRs w X vs a.toList
  | .box el f, r => ElR w X el f r
  | .fn f cs, r => ∃ a : Array Value, r = .func (.func f) #[] a ∧ DVRs w X cs a.toList
def DVRs (w : World) (X : Nat → Prop) : List DV → List Value → Prop
  | [], [] => True
  | c :: cs, r :: rs => DVR w X c r ∧ DVRs w X cs rs
  | _, _ => False
end
def CanEnter (P : Program) (f : FuncId) : Prop := ∀ (args : Array Value) (w : World), (callFunc f args).run P w = .ok (.enter f args) w
theorem canEnter_of {P : Program} {f : FuncId} {fn : Func} (hf : P.funcs[f]? = some fn) (hn : (fn.name == "runtime.NumGoroutine") = false) (hb : fn.body.isNone = false) : CanEnter P f := fun args w => by
  simp only [callFunc, Sem.run_bind, run_program, Result.andThen_ok, hf, hn, hb, Bool.false_eq_true, if_false, Sem.run_pure]
/-- a call, of a function of the program or of one that the model answers for -/
def CallsX (P : Program) (f : FuncId) (args : Array Value) (w : World) (R : Ending → World → Prop) : Prop :=
  ((callFunc f args).run P w = .ok (.enter f args) w ∧ Calls P f args w R) ∨ ∃ v w', (callFunc f args).run P w = .ok (.value v) w' ∧ R (.returned v) w'
/-- A FUNCTION OF CLOSED DATA: called with values that read as args it hands back a value that reads as res; nothing that was there has changed. -/
def FnC (P : Program) (f : FuncId) (args : List DV) (res : DV) : Prop :=
  ∀ (w : World) (X : Nat → Prop) (vs : List Value), Glo w → (∀ b, X b → b < w.heap.size) → DVRs w X args vs →
    CallsX P f vs.toArray w fun e w' => ∃ v, e = .returned v ∧ DVR w' X res v ∧ Below w.heap.size w w'
theorem FnC.of {P : Program} {f : FuncId} {args : List DV} {res : DV} (hent : CanEnter P f) (h : ∀ (w : World) (X : Nat → Prop) (vs : List Value), Glo w → (∀ b, X b → b < w.heap.size) → DVRs w X args vs →
    Calls P f vs.toArray w fun e w' => ∃ v, e = .returned v ∧ DVR w' X res v ∧ Below w.heap.size w w') : FnC P f args res :=
  fun w X vs h1 h2 h3 => .inl ⟨hent _ _, h w X vs h1 h2 h3⟩
theorem FnC.calls {P : Program} {f : FuncId} {args : List DV} {res : DV} (hent : CanEnter P f) (h : FnC P f args res) (w : World) (X : Nat → Prop) (vs : List Value) (h1 : Glo w) (h2 : ∀ b, X b → b < w.heap.size) (h3 : DVRs w X args vs) :
    Calls P f vs.toArray w fun e w' => ∃ v, e = .returned v ∧ DVR w' X res v ∧ Below w.heap.size w w' := by
  rcases h w X vs h1 h2 h3 with h | ⟨v, w', h, _⟩
  · exact h.2
  · rw [hent] at h
    cases h
theorem CallsX.wp {P : Program} {f : FuncId} {args : Array Value} {w : World} {R : Ending → World → Prop} (h : CallsX P f args w R) {o : Oper} {a : Act} {K : Act → World → Prop} {Q : Exit → Act → World → Prop}
    (hexec : (execOp a.eval o).run P w = (callFunc f args).run P w) (hK : ∀ e w', R e w' → ∃ v, e = .returned v ∧ K (a.put o.dst v) w') : o.wp P a w K Q := by
  unfold Oper.wp
  rw [hexec]
  rcases h with ⟨h1, h2⟩ | ⟨v, w', h1, h2⟩
  · rw [h1]
    refine h2.mono ?_
    intro e w' hr
    obtain ⟨v, rfl, hk⟩ := hK e w' hr
    exact hk
  · rw [h1]
    obtain ⟨v', e, hk⟩ := hK _ _ h2
    cases e
    exact hk

/-- a place, in words -/
def AtB (at_ : Option (Nat × Nat)) (b : Nat) : Prop := ∃ c, at_ = some (b, c)
/-- a row of one's own, in memory -/
def RowP (w : World) (X : Nat → Prop) (at_ : Option (Nat × Nat)) (c : List (List CV)) (e : TypeId) (sz : Nat) : Prop :=
  0 < sz ∧ (∀ el ∈ c, el.length = sz) ∧ ((at_ = none ∧ c = []) ∨
    ∃ (b cap : Nat) (a : Array Value) (fr : Nat × Nat), at_ = some (b, cap) ∧ w.heap[b]? = some (.cells a e fr) ∧ FreeR fr a.size sz ∧ cap * sz ≤ a.size ∧ c.length ≤ cap ∧
      ∀ (i : Nat) (el : List CV), c[i]? = some el → ∀ (f : Nat) (cv : CV), el[f]? = some cv → ∃ r, a[i * sz + f]? = some r ∧ CVR w X cv r)
theorem OR_row {ν : Nu} {w : World} {X : Nat → Prop} {σ : List Pl} {pl : Pl} {c : E} {e : TypeId} {sz : Nat} : OR ν w X σ pl (.row c e sz) ↔ pl.sz = sz ∧ RowP w (Exc X σ) pl.at_ (denC ν c) e sz := Iff.rfl
/-- a slice of the whole of a row -/
def SlP (at_ : Option (Nat × Nat)) (n : Nat) (r : Value) : Prop :=
  (at_ = none ∧ r = .slice none 0 0 ∧ n = 0) ∨ ∃ b c rc, at_ = some (b, c) ∧ r = .slice (some ⟨b, 0, none⟩) n rc ∧ n ≤ rc ∧ rc ≤ c
theorem SlP.of {pl : Pl} {n : Int} {a : Option Addr} {len rc : Nat} (h : RsR pl 0 n a len rc) : SlP pl.at_ n.toNat (.slice a len rc) ∧ 0 ≤ n := by
  rcases h with ⟨h1, rfl, rfl, rfl, rfl, _⟩ | ⟨b, c, off, h1, rfl, h2, _, h3, h4, h5, _⟩
  · exact ⟨.inl ⟨h1, rfl, rfl⟩, Int.le_refl _⟩
  · obtain ⟨rfl, h6⟩ := h5 rfl
    subst h3
    exact ⟨.inr ⟨b, c, rc, h1, rfl, h4, h6⟩, h2⟩
theorem SlP.to {pl : Pl} {n : Nat} {r : Value} (h : SlP pl.at_ n r) : ∃ a len rc, r = .slice a len rc ∧ RsR pl 0 n a len rc := by
  rcases h with ⟨h1, rfl, rfl⟩ | ⟨b, c, rc, h1, rfl, h4, h6⟩
  · exact ⟨none, 0, 0, rfl, .inl ⟨h1, rfl, rfl, rfl, rfl, rfl⟩⟩
  · exact ⟨_, _, _, rfl, .inr ⟨b, c, 0, h1, rfl, by omega, Int.le_refl _, (Int.toNat_natCast _).symm, h4, fun _ => ⟨rfl, h6⟩, fun _ => by simp⟩⟩
def ArgsM (w : World) (X : Nat → Prop) (at_ : Option (Nat × Nat)) : Nat → List DV → List Value → Prop
  | 0, a :: as, v :: vs => (∃ c, a = .c (.vs c) ∧ SlP at_ c.length v) ∧ DVRs w X as vs
  | i + 1, a :: as, v :: vs => DVR w X a v ∧ ArgsM w X at_ i as vs
  | _, _, _ => False
/-- A FUNCTION THAT IS HANDED A ROW OF ITS CALLER'S OWN: it may write that row, and may hand it back, moved or not; nothing else that was there has changed. -/
def FnM (P : Program) (md : Md) (f : FuncId) (args : List DV) (res : DV) : Prop :=
  CanEnter P f ∧ ∃ c c', args[md.i]? = some (.c (.vs c)) ∧ res = .c (.vs c') ∧ (md.back = false → c'.length = c.length) ∧
    ∀ (w : World) (X : Nat → Prop) (at_ : Option (Nat × Nat)) (vs : List Value), Glo w → (∀ b, X b → b < w.heap.size) → (∀ b, AtB at_ b → b < w.heap.size ∧ ¬ X b ∧ ∀ g ∈ gloList, g ≠ b) →
      RowP w (fun b => X b ∨ AtB at_ b) at_ c md.e md.sz → ArgsM w (fun b => X b ∨ AtB at_ b) at_ md.i args vs →
      Calls P f vs.toArray w fun ex w' => ∃ v at', ex = .returned v ∧ Turn (at_.map (·.1)) w w' ∧ (∀ b, AtB at' b → (AtB at_ b ∨ w.heap.size ≤ b) ∧ b < w'.heap.size) ∧
        RowP w' (fun b => X b ∨ AtB at' b) at' c' md.e md.sz ∧ (if md.back = true then SlP at' c'.length v else v = .tuple #[] ∧ at' = at_)
/-- what is owed at a call -/
def CallOK (P : Program) : Option Md → FuncId → List DV → DV → Prop
  | none, f, as_, res => FnC P f as_ res
  | some md, f, as_, res => FnM P md f as_ res

mutual
def dvOf (ν : Nu) : LV → DV
  | .b e => .c (.v (.bool (denB ν e)))
  | .i k e => .c (.v (.int k (denI ν e)))
  | .s e => .c (.v (.string (denS ν e)))
  | .k v => .c (.v v)
  | .vs c => .c (.vs (denC ν c))
  | .o e => .c (cvE ν e)
  | .agg cs => .agg (cs.map (cvOf ν))
  | .tup vs => .tup (dvsOf ν vs)
  | .vp c i f => .box ((denC ν c).getD (denI ν i).toNat []) f
  | .fn f cs => .fn f (dvsOf ν cs)
  | _ => default
def dvsOf (ν : Nu) : List LV → List DV
  | [] => []
  | v :: r => dvOf ν v :: dvsOf ν r
end

theorem CVR.mono {w : World} {X Y : Nat → Prop} (h : ∀ b, Y b → X b) {c : CV} {r : Value} (hr : CVR w X c r) : CVR w Y c r :=
  hr.step ⟨fun _ _ _ => rfl, fun b hb => .inl (h b hb), Nat.le_refl _⟩

section
variable {P : Program} {ν : Nu} {w : World} {X : Nat → Prop} {σ : List Pl}

theorem cvs_LR : ∀ {cs : List LV} {rs : List Value}, cs.all LV.shut = true → LRs ν w X σ cs rs → CVRs w (Exc X σ) (cs.map (cvOf ν)) rs
  | [], [], _, _ => by simp [CVRs]
  | c :: cs, r :: rs, hv, h => by
    simp only [List.all_cons, Bool.and_eq_true] at hv
    simp only [LRs] at h
    simp only [List.map_cons, CVRs]
    exact ⟨cv_LR hv.1 h.1, cvs_LR hv.2 h.2⟩
  | [], _ :: _, _, h => by simp only [LRs] at h
  | _ :: _, [], _, h => by simp only [LRs] at h
theorem CVRs.mono {X Y : Nat → Prop} (h : ∀ b, Y b → X b) : ∀ {cs : List CV} {rs : List Value}, CVRs w X cs rs → CVRs w Y cs rs
  | [], [], _ => by simp [CVRs]
  | c :: cs, r :: rs, hr => by
    simp only [CVRs] at hr ⊢
    exact ⟨hr.1.mono h, CVRs.mono h hr.2⟩
  | [], _ :: _, hr => by simp only [CVRs] at hr
  | _ :: _, [], hr => by simp only [CVRs] at hr

theorem ElR.mono {X Y : Nat → Prop} (h : ∀ b, Y b → X b) {el : List CV} {f : Nat} {r : Value} (hr : ElR w X el f r) : ElR w Y el f r := by
  obtain ⟨b, o, g, hr, hg⟩ := hr
  refine ⟨b, o, g, hr, fun f' cv hf => ?_⟩
  obtain ⟨h1, h2, h3⟩ := hg f' cv hf
  exact ⟨fun hb => h1 (h _ hb), h2, h3.mono h⟩
theorem argV_LR {v : LV} (hv : shutV v = true) {r : Value} (h : LR ν w X σ v r) {Y : Nat → Prop} (hY : ∀ b, Y b → Exc X σ b) : DVR w Y (dvOf ν v) r := by
  have go : v.shut = true → dvOf ν v = .c (cvOf ν v) → DVR w Y (dvOf ν v) r := fun h1 h2 => by
    rw [h2]
    simp only [DVR]
    exact (cv_LR h1 h).mono hY
  cases v with
  | vp c i f =>
    simp only [LR] at h
    simp only [dvOf, DVR]
    exact h.mono hY
  | b e => exact go rfl rfl
  | i k e => exact go rfl rfl
  | s e => exact go rfl rfl
  | k x => exact go hv rfl
  | vs c => exact go rfl rfl
  | o e => exact go rfl rfl
  | _ => simp [shutV, LV.shut] at hv
theorem argVs_LR {Y : Nat → Prop} (hY : ∀ b, Y b → Exc X σ b) : ∀ {vs : List LV} {rs : List Value}, vs.all shutV = true → LRs ν w X σ vs rs → DVRs w Y (dvsOf ν vs) rs
  | [], [], _, _ => by simp [dvsOf, DVRs]
  | v :: vs, r :: rs, hv, h => by
    simp only [List.all_cons, Bool.and_eq_true] at hv
    simp only [LRs] at h
    simp only [dvsOf, DVRs]
    exact ⟨argV_LR hv.1 h.1 hY, argVs_LR hY hv.2 h.2⟩
  | [], _ :: _, _, h => by simp only [LRs] at h
  | _ :: _, [], _, h => by simp only [LRs] at h
theorem cv_nil {v : LV} {Y : Nat → Prop} {r : Value} (h : CVR w Y (cvOf ν v) r) : CVR w Y (cvOf ν (nilV v)) r := by
  unfold nilV
  split
  · simp only [cvOf] at h
    cases h
    simp only [cvOf, denC]
    exact .nil _
  · exact h
theorem cvs_nil {Y : Nat → Prop} : ∀ {cs : List LV} {rs : List Value}, CVRs w Y (cs.map (cvOf ν)) rs → CVRs w Y ((cs.map nilV).map (cvOf ν)) rs
  | [], [], _ => by simp [CVRs]
  | c :: cs, r :: rs, h => by
    simp only [List.map_cons, CVRs] at h ⊢
    exact ⟨cv_nil h.1, cvs_nil h.2⟩
  | [], _ :: _, h => by simp [CVRs] at h
  | _ :: _, [], h => by simp [CVRs] at h
theorem arg_LR {get : Nat → Option Ob} {v v' : LV} {ns : List Need} (hs : shutArg get v = some (v', ns)) {r : Value} (h : LR ν w X σ v r) (hk : ∀ id, v.id? = some id → Known ν w X σ get id) (hn : denNs ν ns)
    {Y : Nat → Prop} (hY : ∀ b, Y b → Exc X σ b) (hY2 : isRs v = false ∨ ∀ (id : Nat) (p : Pl) (b c : Nat), v.id? = some id → σ[id]? = some p → p.at_ = some (b, c) → ¬ Y b) : DVR w Y (dvOf ν v') r := by
  unfold shutArg at hs
  split at hs
  · simp only [Option.some.injEq, Prod.mk.injEq] at hs
    obtain ⟨rfl, rfl⟩ := hs
    simp only [LR] at h
    subst h
    simp only [dvOf, denC, DVR]
    exact .nil _
  · rename_i cs
    have := cond_some hs
    cases hb : cs.all LV.shut
    · rw [hb] at hs; simp at hs
    simp only [Prod.mk.injEq] at this
    obtain ⟨rfl, rfl⟩ := this
    simp only [LR] at h
    obtain ⟨a, rfl, ha⟩ := h
    have := cvs_nil (cvs_LR hb ha)
    simp only [dvOf, DVR]
    exact ⟨a, rfl, this.mono hY⟩
  · simp only [Option.some.injEq, Prod.mk.injEq] at hs
    obtain ⟨rfl, rfl⟩ := hs
    exact argV_LR rfl h hY
  · rename_i f cs
    have := cond_some hs
    cases hb : cs.all shutV
    · rw [hb] at hs; simp at hs
    simp only [Prod.mk.injEq] at this
    obtain ⟨rfl, rfl⟩ := this
    simp only [LR] at h
    obtain ⟨a, rfl, ha⟩ := h
    simp only [dvOf, DVR]
    exact ⟨a, rfl, argVs_LR hY hb ha⟩
  · rename_i id ver o n
    split at hs
    rotate_left
    · simp at hs
    rename_i c ns' hc
    simp only [Option.some.injEq, Prod.mk.injEq] at hs
    obtain ⟨rfl, rfl⟩ := hs
    have hY2 := hY2.resolve_left (by simp [isRs])
    simp only [dvOf, DVR]
    obtain ⟨a, len, rc, rfl, hlen, hle, hcase⟩ := content_CVR hc h hk hn
    rcases hcase with ⟨rfl, rfl⟩ | ⟨b, o', sz, g, rfl, how, hsz, hcell⟩
    · rw [List.length_eq_zero_iff.1 hlen.symm]
      exact .nil _
    · have hown : ¬ Y b := by
        rcases how with ⟨c', hc'⟩ | ⟨id', p, c'', h1, h2, h3⟩
        · simp at hc'
        · exact hY2 id' p b c'' h1 h2 h3
      rw [hlen]
      exact .vs _ b o' sz rc g hsz (by omega) (fun i el hi f cv hf => ⟨hown, (hcell i el hi f cv hf).1⟩) (fun i el hi f cv hf => (hcell i el hi f cv hf).2.mono hY)
  · have h0 := cond_some hs
    cases hb : v.shut
    · rw [hb] at hs; simp at hs
    simp only [Prod.mk.injEq] at h0
    obtain ⟨rfl, rfl⟩ := h0
    have h1 := cv_LR hb h
    have h2 : dvOf ν v = .c (cvOf ν v) := by
      cases v <;> first | rfl | simp [LV.shut] at hb
    rw [h2]
    simp only [DVR]
    exact h1.mono hY

theorem args_LR {get : Nat → Option Ob} {Y : Nat → Prop} (hY : ∀ b, Y b → Exc X σ b) : ∀ {vs vs' : List LV} {ns : List Need} (hs : shutArgs get vs = some (vs', ns)) {rs : List Value} (h : LRs ν w X σ vs rs) (hk : ∀ v ∈ vs, ∀ id, v.id? = some id → Known ν w X σ get id) (hn : denNs ν ns)
    (hY2 : ∀ v ∈ vs, isRs v = false ∨ ∀ (id : Nat) (p : Pl) (b c : Nat), v.id? = some id → σ[id]? = some p → p.at_ = some (b, c) → ¬ Y b), DVRs w Y (dvsOf ν vs') rs
  | [], vs', ns, hs, rs, h, hk, hn, _ => by
    simp only [shutArgs, Option.some.injEq, Prod.mk.injEq] at hs
    obtain ⟨rfl, rfl⟩ := hs
    cases rs with
    | nil => simp [dvsOf, DVRs]
    | cons r rs => simp only [LRs] at h
  | v :: vs, vs', ns, hs, rs, h, hk, hn, hY2 => by
    cases rs with
    | nil => simp only [LRs] at h
    | cons r rs =>
      simp only [LRs] at h
      simp only [shutArgs] at hs
      split at hs
      rotate_left
      · simp at hs
      rename_i a ns1 b ns2 ha hb
      simp only [Option.some.injEq, Prod.mk.injEq] at hs
      obtain ⟨rfl, rfl⟩ := hs
      have h1 := arg_LR ha h.1 (hk v (by simp)) (fun n hm => hn n (by simp [hm])) hY (hY2 v (by simp))
      have h2 := args_LR hY hb h.2 (fun v' hv' => hk v' (by simp [hv'])) (fun n hm => hn n (by simp [hm])) (fun v' hv' => hY2 v' (by simp [hv']))
      simp only [dvsOf, DVRs]
      exact ⟨h1, h2⟩

/-- a result, of new variables -/
theorem res_cell {Y : Nat → Prop} {v : LV} (hv : v.shut = true) (hy : v.flat = true ∨ Y = Exc X σ) {r : Value} (h : CVR w Y (cvOf ν v) r) : LR ν w X σ v r := by
  cases v with
  | b e => simp only [cvOf] at h; cases h; simp only [LR]
  | i k e => simp only [cvOf] at h; cases h; simp only [LR]
  | s e => simp only [cvOf] at h; cases h; simp only [LR]
  | k x => simp only [cvOf] at h; cases h; simp only [LR]
  | vs c =>
    rcases hy with hy | rfl
    · simp [LV.flat] at hy
    · simpa only [LR, cvOf] using h
  | o e =>
    rcases hy with hy | rfl
    · simp [LV.flat] at hy
    · simpa only [LR, cvOf] using h
  | _ => simp [LV.shut] at hv
theorem res_cells {Y : Nat → Prop} : ∀ {vs : List LV} (hv : vs.all LV.shut = true) (hy : vs.all LV.flat = true ∨ Y = Exc X σ) {rs : List Value} (h : CVRs w Y (vs.map (cvOf ν)) rs), LRs ν w X σ vs rs
  | [], _, _, [], _ => by simp [LRs]
  | v :: vs, hv, hy, r :: rs, h => by
    simp only [List.all_cons, Bool.and_eq_true] at hv hy
    simp only [List.map_cons, CVRs] at h
    simp only [LRs]
    exact ⟨res_cell hv.1 (hy.imp (·.1) id) h.1, res_cells hv.2 (hy.imp (·.2) id) h.2⟩
  | [], _, _, _ :: _, h => by simp [CVRs] at h
  | _ :: _, _, _, [], h => by simp [CVRs] at h

/-- a shape: cells that are shut -/
def shapeB : LV → Bool
  | .agg cs => cs.all LV.shut
  | .vp _ _ _ => true
  | .fn _ cs => cs.all shutV
  | v => v.shut
theorem resV_LR {v : LV} (hv : shutV v = true) {r : Value} (h : DVR w (Exc X σ) (dvOf ν v) r) : LR ν w X σ v r := by
  have go : v.shut = true → dvOf ν v = .c (cvOf ν v) → LR ν w X σ v r := fun h1 h3 => by
    rw [h3] at h
    simp only [DVR] at h
    exact res_cell h1 (.inr rfl) h
  cases v with
  | vp c i f =>
    simp only [dvOf, DVR] at h
    simpa only [LR] using h
  | b e => exact go rfl rfl
  | i k e => exact go rfl rfl
  | s e => exact go rfl rfl
  | k x => exact go hv rfl
  | vs c => exact go rfl rfl
  | o e => exact go rfl rfl
  | _ => simp [shutV, LV.shut] at hv
theorem resVs_LR : ∀ {vs : List LV} {rs : List Value}, vs.all shutV = true → DVRs w (Exc X σ) (dvsOf ν vs) rs → LRs ν w X σ vs rs
  | [], [], _, _ => by simp [LRs]
  | v :: vs, r :: rs, hv, h => by
    simp only [List.all_cons, Bool.and_eq_true] at hv
    simp only [dvsOf, DVRs] at h
    simp only [LRs]
    exact ⟨resV_LR hv.1 h.1, resVs_LR hv.2 h.2⟩
  | [], _ :: _, _, h => by simp [dvsOf, DVRs] at h
  | _ :: _, [], _, h => by simp [dvsOf, DVRs] at h
theorem res_one {Y : Nat → Prop} {v : LV} (hv : shapeB v = true) (hy : flat1 v = true ∨ Y = Exc X σ) {r : Value} (h : DVR w Y (dvOf ν v) r) : LR ν w X σ v r := by
  have go : v.shut = true → (v.flat = true ∨ Y = Exc X σ) → dvOf ν v = .c (cvOf ν v) → LR ν w X σ v r := fun h1 h2 h3 => by
    rw [h3] at h
    simp only [DVR] at h
    exact res_cell h1 h2 h
  cases v with
  | agg cs =>
    simp only [dvOf, DVR] at h
    obtain ⟨a, rfl, ha⟩ := h
    simp only [LR]
    exact ⟨a, rfl, res_cells hv hy ha⟩
  | vp c i f =>
    rcases hy with hy | rfl
    · simp [flat1, LV.flat] at hy
    · exact resV_LR rfl h
  | fn f cs =>
    rcases hy with hy | rfl
    · simp [flat1, LV.flat] at hy
    · simp only [dvOf, DVR] at h
      obtain ⟨a, rfl, ha⟩ := h
      simp only [LR]
      exact ⟨a, rfl, resVs_LR hv ha⟩
  | b e => exact go rfl hy rfl
  | i k e => exact go rfl hy rfl
  | s e => exact go rfl hy rfl
  | k x => exact go hv hy rfl
  | vs c => exact go rfl hy rfl
  | o e => exact go rfl hy rfl
  | _ => simp [shapeB, LV.shut] at hv
theorem res_ones {Y : Nat → Prop} : ∀ {vs : List LV} (hv : vs.all shapeB = true) (hy : vs.all flat1 = true ∨ Y = Exc X σ) {rs : List Value} (h : DVRs w Y (dvsOf ν vs) rs), LRs ν w X σ vs rs
  | [], _, _, [], _ => by simp [LRs]
  | v :: vs, hv, hy, r :: rs, h => by
    simp only [List.all_cons, Bool.and_eq_true] at hv hy
    simp only [dvsOf, DVRs] at h
    simp only [LRs]
    exact ⟨res_one hv.1 (hy.imp (·.1) id) h.1, res_ones hv.2 (hy.imp (·.2) id) h.2⟩
  | [], _, _, _ :: _, h => by simp [dvsOf, DVRs] at h
  | _ :: _, _, _, [], h => by simp [dvsOf, DVRs] at h
def shapeOK : LV → Bool
  | .tup vs => vs.all shapeB
  | v => shapeB v
theorem res_LR {Y : Nat → Prop} {v : LV} (hv : shapeOK v = true) (hy : flatR v = true ∨ Y = Exc X σ) {r : Value} (h : DVR w Y (dvOf ν v) r) : LR ν w X σ v r := by
  cases v with
  | tup vs =>
    simp only [dvOf, DVR] at h
    obtain ⟨a, rfl, ha⟩ := h
    simp only [LR]
    exact ⟨a, rfl, res_ones hv hy ha⟩
  | agg cs => exact res_one (by simpa only [shapeOK] using hv) (by simpa only [flatR] using hy) h
  | b e => exact res_one (by simpa only [shapeOK] using hv) (by simpa only [flatR] using hy) h
  | i k e => exact res_one (by simpa only [shapeOK] using hv) (by simpa only [flatR] using hy) h
  | s e => exact res_one (by simpa only [shapeOK] using hv) (by simpa only [flatR] using hy) h
  | k x => exact res_one (by simpa only [shapeOK] using hv) (by simpa only [flatR] using hy) h
  | vp c i f => exact res_one (by simpa only [shapeOK] using hv) (by simpa only [flatR] using hy) h
  | fn f cs => exact res_one (by simpa only [shapeOK] using hv) (by simpa only [flatR] using hy) h
  | vs c => exact res_one (by simpa only [shapeOK] using hv) (by simpa only [flatR] using hy) h
  | o e => exact res_one (by simpa only [shapeOK] using hv) (by simpa only [flatR] using hy) h
  | _ => simp [shapeOK, shapeB, LV.shut] at hv
end
end Go.Proofs.Ytdgjcdhomfhfpaa
