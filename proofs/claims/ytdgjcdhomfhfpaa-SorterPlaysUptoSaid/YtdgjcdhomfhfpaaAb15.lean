/- A symbolic run of Go code, fifteenth part: what a state becomes. No condition. -/
import Derived.Test.YtdgjcdhomfhfpaaAb14
import Derived.Test.YtdgjcdhomfhfpaaAbG
namespace Go.Proofs.Ytdgjcdhomfhfpaa
open Go.RowKit
set_option linter.unusedSimpArgs false
set_option linter.unusedVariables false
section
variable {P : Program} {w0 : Base} {ν : Nu} {w : World} {X : Nat → Prop} {σ : List Pl} {S : St} {a : Act}

theorem Kept.turn {B : Base} {o : Option Nat} {w w' : World} (h : Kept B w) (ht : Turn o w w') (hb : ∀ b, o = some b → B.mine b) : Kept B w' :=
  ⟨ht.os.trans h.os, ht.tape.trans h.tape, ht.output.trans h.output, Nat.le_trans h.size ht.size, fun k hk hy => (ht.heap k (Nat.lt_of_lt_of_le hk h.size) (fun e => by
    rcases hb k e with h1 | h1
    · omega
    · exact hy h1)).trans (h.block k hk hy), h.gy, fun b a e fr h0 => by
    obtain ⟨a1, e1, fr1, h1, h2⟩ := h.ysz b a e fr h0
    obtain ⟨a2, e2, fr2, h3, h4⟩ := ht.sz b a1 e1 fr1 h1
    exact ⟨a2, e2, fr2, h3, h4.trans h2⟩⟩
theorem Glo.kept {B : Base} {w : World} (h : Glo B.w) (hk : Kept B w) : Glo w := fun g hg => by
  obtain ⟨m, hm⟩ := h g hg
  refine ⟨m, ?_⟩
  have hlt := World.block_lt_of_cell? _ _ hm
  rw [cell_of_heap (hk.block g hlt (hk.gy g hg))]
  exact hm
theorem Rel.free (h : Rel w0 X ν S σ a w) {b : Nat} (ho : Own σ b) (hx : X b) : False := by
  obtain ⟨h1, h2⟩ := h.ex b hx
  rcases (h.own b ho).1 with h3 | h3
  · omega
  · exact h2 h3
theorem LRs_reset : ∀ {cs : List LV} {rs : List Value} (_ : LRs ν w X σ cs rs) (i : Nat) (v : LV), (∀ r, rs[i]? = some r → LR ν w X σ v r) → LRs ν w X σ (setL cs i v) rs
  | [], [], _, _, _, _ => by simp [setL, LRs]
  | c :: cs, r :: rs, h, 0, v, hv => by
    simp only [LRs] at h
    simp only [setL, LRs]
    exact ⟨hv r rfl, h.2⟩
  | c :: cs, r :: rs, h, i + 1, v, hv => by
    simp only [LRs] at h
    simp only [setL, LRs]
    exact ⟨h.1, LRs_reset h.2 i v (fun r hr => hv r (by simpa using hr))⟩
  | [], _ :: _, h, _, _, _ => by simp only [LRs] at h
  | _ :: _, [], h, _, _, _ => by simp only [LRs] at h

theorem Rel.put (h : Rel w0 X ν S σ a w) (dst : Option Tmp) {v : LV} {r : Value} (lv : LR ν w X σ v r) : Rel w0 X ν (S.put dst v) σ (a.put dst r) w := by
  cases dst with
  | none => exact h
  | some d =>
    have e : ({ a with tmps := a.tmps.setIfInBounds d r } : Act).tmps.toList = a.tmps.toList.set d r := by simp
    exact { defers := h.defers, F := by
              show LRs ν w X σ (setL S.F d v) (a.tmps.setIfInBounds d r).toList
              rw [Array.toList_setIfInBounds]
              exact LRs_set h.F d v r lv
            len := h.len, L := h.L, inj := h.inj, own := h.own, old := h.old, ex := h.ex, glo := h.glo, n := h.n, G := h.G }
theorem Rel.reset (h : Rel w0 X ν S σ a w) (d : Nat) {v : LV} (hv : ∀ r, a.tmps[d]? = some r → LR ν w X σ v r) : Rel w0 X ν { S with F := setL S.F d v } σ a w :=
  { defers := h.defers, F := LRs_reset h.F d v (fun r hr => hv r (by simpa using hr)), len := h.len, L := h.L, inj := h.inj, own := h.own, old := h.old, ex := h.ex, glo := h.glo, n := h.n, G := h.G }

theorem getO_lt : ∀ (l : List Ob) (i : Nat) (x : Ob), getO l i = some x → i < l.length
  | [], i, x, h => by simp [getO] at h
  | _ :: _, 0, x, h => by simp
  | _ :: l, i + 1, x, h => by
    have := getO_lt l i x (by simpa [getO] using h)
    simp; omega
theorem getO_app : ∀ (l : List Ob) (x : Ob) (i : Nat), getO (l ++ [x]) i = if i < l.length then getO l i else if i = l.length then some x else none
  | [], x, i => by
    cases i <;> simp [getO]
  | y :: l, x, 0 => by simp [getO]
  | y :: l, x, i + 1 => by
    simp only [List.cons_append, getO, getO_app l x i, List.length_cons, Nat.add_lt_add_iff_right, Nat.add_right_cancel_iff]
theorem getO_set : ∀ (l : List Ob) (i : Nat) (x : Ob) (j : Nat), getO (setO l i x) j = if j = i ∧ i < l.length then some x else getO l j
  | [], i, x, j => by simp [setO, getO]
  | y :: l, 0, x, 0 => by simp [setO, getO]
  | y :: l, 0, x, j + 1 => by simp [setO, getO]
  | y :: l, i + 1, x, 0 => by simp [setO, getO]
  | y :: l, i + 1, x, j + 1 => by
    simp only [setO, getO, getO_set l i x j, Nat.add_right_cancel_iff, List.length_cons, Nat.add_lt_add_iff_right]
theorem setO_len : ∀ (l : List Ob) (i : Nat) (x : Ob), (setO l i x).length = l.length
  | [], _, _ => rfl
  | _ :: _, 0, _ => rfl
  | _ :: l, i + 1, x => by simp [setO, setO_len l i x]

theorem Rel.new (h : Rel w0 X ν S σ a w) {w' : World} {pl : Pl} {o : LO} (ht : Turn none w w') (hp : NewPl w w' pl) (hv : pl.ver = 0) (ho : OR ν w' X (σ ++ [pl]) pl o) (n : Nat) (hn : ν.length = n) :
    Rel w0 X ν { S with L := S.L ++ [⟨0, o⟩], n := n } (σ ++ [pl]) a w' := by
  have hst := stays_new (X := X) (σ := σ) ht hp
  have hla := later_new (σ := σ) pl
  have hw0 : w0.w.heap.size ≤ w.heap.size := h.old.size
  have oldB : ∀ (i : Nat) (p : Pl) (b c : Nat), σ[i]? = some p → p.at_ = some (b, c) → b < w.heap.size := fun i p b c hi hc => (h.own b ⟨i, p, c, hi, hc⟩).2
  have newB : ∀ (b c : Nat), pl.at_ = some (b, c) → b = w.heap.size ∧ w.heap.size < w'.heap.size := fun b c hc => by
    rcases hp with hp | ⟨c', hp, hlt⟩
    · rw [hp] at hc; simp at hc
    · rw [hp] at hc
      simp only [Option.some.injEq, Prod.mk.injEq] at hc
      exact ⟨hc.1.symm, hlt⟩
  have split' : ∀ (i : Nat) (p : Pl), (σ ++ [pl])[i]? = some p → (i < σ.length ∧ σ[i]? = some p) ∨ (i = σ.length ∧ p = pl) := fun i p hi => by
    by_cases hlt : i < σ.length
    · rw [List.getElem?_append_left hlt] at hi
      exact .inl ⟨hlt, hi⟩
    · rw [List.getElem?_append_right (by omega)] at hi
      cases h0 : i - σ.length with
      | succ k => rw [h0] at hi; simp at hi
      | zero =>
        rw [h0] at hi
        simp only [List.getElem?_cons_zero, Option.some.injEq] at hi
        exact .inr ⟨by omega, hi.symm⟩
  refine { defers := h.defers, F := LRs.step hst hla _ _ h.F, len := by simp [h.len], L := ?_, inj := ?_, own := ?_, old := h.old.turn ht (fun b hb => by simp at hb), ex := h.ex, glo := h.glo, n := hn, G := LRs.step hst hla _ _ h.G }
  · intro i ob p hob hi
    simp only [getO_app] at hob
    rcases split' i p hi with ⟨hlt, hi'⟩ | ⟨rfl, rfl⟩
    · rw [if_pos (by rw [← h.len]; exact hlt)] at hob
      obtain ⟨h1, h2⟩ := h.L i ob p hob hi'
      exact ⟨h1, OR.step hst hla (fun b c hc => ht.heap b (oldB i p b c hi' hc) (by simp)) _ h2⟩
    · rw [if_neg (by rw [h.len]; omega), if_pos h.len] at hob
      simp only [Option.some.injEq] at hob
      subst hob
      exact ⟨hv, ho⟩
  · intro i j p q b c d hi hj hc hd
    rcases split' i p hi with ⟨hlt, hi'⟩ | ⟨rfl, rfl⟩ <;> rcases split' j q hj with ⟨hlt', hj'⟩ | ⟨rfl, rfl⟩
    · exact h.inj i j p q b c d hi' hj' hc hd
    · have := oldB i p b c hi' hc
      have := (newB b d hd).1
      omega
    · have := oldB j q b d hj' hd
      have := (newB b c hc).1
      omega
    · rfl
  · rintro b ⟨i, p, c, hi, hc⟩
    rcases split' i p hi with ⟨hlt, hi'⟩ | ⟨rfl, rfl⟩
    · have h1 := h.own b ⟨i, p, c, hi', hc⟩
      have := ht.size
      exact ⟨h1.1, by omega⟩
    · have := newB b c hc
      exact ⟨.inl (by omega), by omega⟩

theorem Rel.upd (h : Rel w0 X ν S σ a w) {w' : World} {i : Nat} {pl pl' : Pl} {ob : Ob} (hpl : σ[i]? = some pl) (hv : pl'.ver = ob.ver) (hvv : pl' = pl ∨ pl.ver < pl'.ver)
    (hm : Moved w w' pl pl') (ho : OR ν w' X (σ.set i pl') pl' ob.o) :
    Rel w0 X ν { S with L := setO S.L i ob } (σ.set i pl') a w' := by
  have hw0 : w0.w.heap.size ≤ w.heap.size := h.old.size
  have hi0 : i < σ.length := (List.getElem?_eq_some_iff.1 hpl).1
  have oldB : ∀ (j : Nat) (p : Pl) (b c : Nat), σ[j]? = some p → p.at_ = some (b, c) → w0.mine b ∧ b < w.heap.size := fun j p b c hj hc => h.own b ⟨j, p, c, hj, hc⟩
  have get := fun j p hj => set_get (pl' := pl') hpl j p hj
  have hla : Later' σ (σ.set i pl') := later_set hpl hvv
  have hsz : w.heap.size ≤ w'.heap.size := by
    rcases hm with ⟨_, _, _, _, _, ht⟩ | ⟨ht, _⟩ <;> exact ht.size
  have hst : Stays (Exc X σ) (Exc X (σ.set i pl')) w w' := stays_set hpl hm
  have other : ∀ (j : Nat) (p : Pl), j ≠ i → σ[j]? = some p → Same p w w' := fun j p hne hj b c hc =>
    still_set hm b (oldB j p b c hj hc).2 (fun c' hc' => hne (h.inj j i p pl b c c' hj hpl hc hc'))
  refine { defers := h.defers, F := LRs.step hst hla _ _ h.F, len := by simp [h.len, setO_len], L := ?_, inj := ?_, own := ?_, old := ?_, ex := h.ex, glo := h.glo, n := h.n, G := LRs.step hst hla _ _ h.G }
  · intro j ob' p hob hj
    simp only [getO_set] at hob
    rcases get j p hj with ⟨rfl, rfl⟩ | ⟨hne, hj'⟩
    · rw [if_pos ⟨rfl, by rw [← h.len]; exact hi0⟩] at hob
      simp only [Option.some.injEq] at hob
      subst hob
      exact ⟨hv, ho⟩
    · rw [if_neg (by intro e; exact hne e.1)] at hob
      obtain ⟨h1, h2⟩ := h.L j ob' p hob hj'
      exact ⟨h1, OR.step hst hla (other j p hne hj') _ h2⟩
  · intro j k p q b c d hj hk hc hd
    rcases get j p hj with ⟨rfl, rfl⟩ | ⟨hne, hj'⟩ <;> rcases get k q hk with ⟨rfl, rfl⟩ | ⟨hne', hk'⟩
    · rfl
    · rcases moved_at hm b c hc with ⟨c', h1⟩ | ⟨rfl, _⟩
      · exact h.inj j k pl q b c' d hpl hk' h1 hd
      · have := oldB k q _ d hk' hd
        omega
    · rcases moved_at hm b d hd with ⟨c', h1⟩ | ⟨rfl, _⟩
      · exact h.inj j k p pl b c c' hj' hpl hc h1
      · have := oldB j p _ c hj' hc
        omega
    · exact h.inj j k p q b c d hj' hk' hc hd
  · rintro b ⟨j, p, c, hj, hc⟩
    rcases get j p hj with ⟨rfl, rfl⟩ | ⟨hne, hj'⟩
    · rcases moved_at hm b c hc with ⟨c', h1⟩ | ⟨rfl, hlt⟩
      · have := oldB j pl b c' hpl h1
        exact ⟨this.1, by omega⟩
      · exact ⟨.inl (by omega), by omega⟩
    · have := oldB j p b c hj' hc
      exact ⟨this.1, by omega⟩
  · rcases hm with ⟨b, c, c', h1, h2, ht⟩ | ⟨ht, _⟩
    · exact h.old.turn ht (fun b' hb' => by
        simp only [Option.some.injEq] at hb'
        subst hb'
        exact (oldB i pl _ c hpl h1).1)
    · exact h.old.turn ht (fun b' hb' => by simp at hb')

/-- a row of one's own that a call has turned -/
theorem Rel.updM (h : Rel w0 X ν S σ a w) {w' : World} {i : Nat} {pl pl' : Pl} {ob : Ob} (hpl : σ[i]? = some pl) (hv : pl'.ver = ob.ver) (hvv : pl' = pl ∨ pl.ver < pl'.ver)
    (ht : Turn (pl.at_.map (·.1)) w w') (hat : ∀ b c, pl'.at_ = some (b, c) → ((∃ c', pl.at_ = some (b, c')) ∨ w.heap.size ≤ b) ∧ b < w'.heap.size) (ho : OR ν w' X (σ.set i pl') pl' ob.o) :
    Rel w0 X ν { S with L := setO S.L i ob } (σ.set i pl') a w' := by
  have hw0 : w0.w.heap.size ≤ w.heap.size := h.old.size
  have hi0 : i < σ.length := (List.getElem?_eq_some_iff.1 hpl).1
  have oldB : ∀ (j : Nat) (p : Pl) (b c : Nat), σ[j]? = some p → p.at_ = some (b, c) → w0.mine b ∧ b < w.heap.size := fun j p b c hj hc => h.own b ⟨j, p, c, hj, hc⟩
  have get := fun j p hj => set_get (pl' := pl') hpl j p hj
  have hla : Later' σ (σ.set i pl') := later_set hpl hvv
  have hsz : w.heap.size ≤ w'.heap.size := ht.size
  have still : ∀ b, b < w.heap.size → (∀ c, pl.at_ ≠ some (b, c)) → w'.heap[b]? = w.heap[b]? := fun b hb hne => ht.heap b hb (fun e => by
    cases hp : pl.at_ with
    | none => rw [hp] at e; simp at e
    | some q =>
      rw [hp] at e
      simp only [Option.map_some, Option.some.injEq] at e
      exact hne q.2 (by rw [hp, ← e]))
  have hst : Stays (Exc X σ) (Exc X (σ.set i pl')) w w' := by
    refine ⟨fun b hb hlt => still b hlt (fun c hc => hb (.inr ⟨i, pl, c, hpl, hc⟩)), fun b hb => ?_, hsz⟩
    rcases hb with hb | ⟨j, p, c, hj, hc⟩
    · exact .inl (.inl hb)
    · rcases get j p hj with ⟨rfl, rfl⟩ | ⟨hne, hj'⟩
      · rcases (hat b c hc).1 with ⟨c', h1⟩ | h1
        · exact .inl (.inr ⟨j, pl, c', hpl, h1⟩)
        · exact .inr h1
      · exact .inl (.inr ⟨j, p, c, hj', hc⟩)
  have other : ∀ (j : Nat) (p : Pl), j ≠ i → σ[j]? = some p → Same p w w' := fun j p hne hj b c hc =>
    still b (oldB j p b c hj hc).2 (fun c' hc' => hne (h.inj j i p pl b c c' hj hpl hc hc'))
  refine { defers := h.defers, F := LRs.step hst hla _ _ h.F, len := by simp [h.len, setO_len], L := ?_, inj := ?_, own := ?_, old := ?_, ex := h.ex, glo := h.glo, n := h.n, G := LRs.step hst hla _ _ h.G }
  · intro j ob' p hob hj
    simp only [getO_set] at hob
    rcases get j p hj with ⟨rfl, rfl⟩ | ⟨hne, hj'⟩
    · rw [if_pos ⟨rfl, by rw [← h.len]; exact hi0⟩] at hob
      simp only [Option.some.injEq] at hob
      subst hob
      exact ⟨hv, ho⟩
    · rw [if_neg (by intro e; exact hne e.1)] at hob
      obtain ⟨h1, h2⟩ := h.L j ob' p hob hj'
      exact ⟨h1, OR.step hst hla (other j p hne hj') _ h2⟩
  · intro j k p q b c d hj hk hc hd
    rcases get j p hj with ⟨rfl, rfl⟩ | ⟨hne, hj'⟩ <;> rcases get k q hk with ⟨rfl, rfl⟩ | ⟨hne', hk'⟩
    · rfl
    · rcases (hat b c hc).1 with ⟨c', h1⟩ | h1
      · exact h.inj j k pl q b c' d hpl hk' h1 hd
      · have := oldB k q b d hk' hd
        omega
    · rcases (hat b d hd).1 with ⟨c', h1⟩ | h1
      · exact h.inj j k p pl b c c' hj' hpl hc h1
      · have := oldB j p b c hj' hc
        omega
    · exact h.inj j k p q b c d hj' hk' hc hd
  · rintro b ⟨j, p, c, hj, hc⟩
    rcases get j p hj with ⟨rfl, rfl⟩ | ⟨hne, hj'⟩
    · refine ⟨?_, (hat b c hc).2⟩
      rcases (hat b c hc).1 with ⟨c', h1⟩ | h1
      · exact (oldB j pl b c' hpl h1).1
      · exact .inl (by omega)
    · have := oldB j p b c hj' hc
      exact ⟨this.1, by omega⟩
  · exact h.old.turn ht (fun b hb => by
      cases hp : pl.at_ with
      | none => rw [hp] at hb; simp at hb
      | some q =>
        rw [hp] at hb
        simp only [Option.map_some, Option.some.injEq] at hb
        exact (oldB i pl b q.2 hpl (by rw [hp, ← hb])).1)

theorem obsOk_set : ∀ (n : Nat) (l : List Ob) (i : Nat) (x : Ob), obsOk n l = true → x.o.ok n = true → obsOk n (setO l i x) = true
  | n, [], i, x, h, _ => by simpa [setO] using h
  | n, y :: l, 0, x, h, hx => by
    simp only [obsOk, Bool.and_eq_true] at h
    simp only [setO, obsOk, Bool.and_eq_true]
    exact ⟨hx, h.2⟩
  | n, y :: l, i + 1, x, h, hx => by
    simp only [obsOk, Bool.and_eq_true] at h
    simp only [setO, obsOk, Bool.and_eq_true]
    exact ⟨h.1, obsOk_set n l i x h.2 hx⟩
theorem frz_ok {get : Nat → Option Ob} {vs : List LV} {i : Nat} {ob : Ob} (hf : frz get vs = some (i, ob)) (n : Nat) : ob.o.ok n = true := by
  unfold frz at hf
  split at hf
  · split at hf
    · simp only [Option.some.injEq, Prod.mk.injEq] at hf
      obtain ⟨_, rfl⟩ := hf
      rfl
    · simp at hf
  · simp at hf
def szO : LO → Nat
  | .row _ _ sz => sz
  | _ => 0
/-- a row that is given up -/
theorem frz_args (h : Rel w0 X ν S σ a w) {vs as_ : List LV} {rs : List Value} {ns : List Need} {get : Nat → Option Ob} (hs : shutArgs get vs = some (as_, ns)) (hl : LRs ν w X σ vs rs) (hk : ∀ v ∈ vs, ∀ id, v.id? = some id → Known ν w X σ get id) (hn : denNs ν ns)
    {i : Nat} {ob : Ob} (hf : frz get vs = some (i, ob)) : Rel w0 X ν { S with L := setO S.L i ob } (σ.set i ⟨ob.ver, none, szO ob.o⟩) a w ∧ DVRs w (Exc X (σ.set i ⟨ob.ver, none, szO ob.o⟩)) (dvsOf ν as_) rs := by
  have key : ∀ (vs : List LV) (id : Nat), rsId vs = some id → (∃ v ∈ vs, v.id? = some id) ∧ ∀ v ∈ vs, isRs v = true → v.id? = some id := by
    intro vs
    induction vs with
    | nil => intro id h; simp [rsId] at h
    | cons v vs ih =>
      intro id h
      have other : isRs v = false → rsId vs = some id → (∃ v' ∈ v :: vs, v'.id? = some id) ∧ ∀ v' ∈ v :: vs, isRs v' = true → v'.id? = some id := fun hv hr => by
        obtain ⟨⟨v', h1, h2⟩, h3⟩ := ih id hr
        exact ⟨⟨v', by simp [h1], h2⟩, fun v'' hm hi => by
          rcases List.mem_cons.1 hm with rfl | hm
          · rw [hv] at hi; cases hi
          · exact h3 v'' hm hi⟩
      cases v with
      | rs id' ver o n =>
        simp only [rsId] at h
        cases hb : vs.any isRs
        · rw [hb] at h
          simp only [cond_false, Option.some.injEq] at h
          subst h
          exact ⟨⟨.rs id' ver o n, by simp, rfl⟩, fun v'' hm hi => by
            rcases List.mem_cons.1 hm with rfl | hm
            · rfl
            · have := List.any_eq_false.1 hb v'' hm
              rw [hi] at this; simp at this⟩
        · rw [hb] at h; simp at h
      | _ => exact other rfl (by simpa [rsId] using h)
  unfold frz at hf
  split at hf
  rotate_left
  · simp at hf
  rename_i id hid
  split at hf
  rotate_left
  · simp at hf
  rename_i ver c e sz hob
  simp only [Option.some.injEq, Prod.mk.injEq] at hf
  obtain ⟨rfl, rfl⟩ := hf
  obtain ⟨⟨v0, hv0, hi0⟩, honly⟩ := key vs id hid
  obtain ⟨pl, hpl, hver, ho⟩ := hk v0 hv0 id hi0 _ hob
  obtain ⟨h1, h2, _, _⟩ := ho
  have hR := h.upd (w' := w) (i := id) (pl := pl) (pl' := ⟨ver + 1, none, sz⟩) (ob := ⟨ver + 1, .row (.str []) e sz⟩) hpl rfl (.inr (by rw [hver]; exact Nat.lt_succ_self _)) (.inr ⟨Turn.refl _ _, .inl rfl⟩)
    ⟨rfl, h2, fun el hel => by simp [denC] at hel, .inl ⟨rfl, by simp [denC]⟩⟩
  refine ⟨hR, args_LR (fun b hb => ?_) hs hl hk hn (fun v hv => ?_)⟩
  · rcases hb with hb | ⟨j, p, c', hj, hc⟩
    · exact .inl hb
    · rcases set_get (pl' := ⟨ver + 1, none, sz⟩) hpl j p hj with ⟨rfl, rfl⟩ | ⟨hne, hj'⟩
      · simp at hc
      · exact .inr ⟨j, p, c', hj', hc⟩
  · cases hr : isRs v
    · exact .inl rfl
    · refine .inr fun id' p b c' hi' hp hc hb => ?_
      have := honly v hv hr
      rw [this] at hi'
      simp only [Option.some.injEq] at hi'
      subst hi'
      rcases hb with hb | ⟨j, q, c'', hj, hc'⟩
      · exact h.free ⟨id, p, c', hp, hc⟩ hb
      · rcases set_get (pl' := ⟨ver + 1, none, sz⟩) hpl j q hj with ⟨rfl, rfl⟩ | ⟨hne, hj'⟩
        · simp at hc'
        · exact hne (h.inj j id q p b c'' c' hj' hp hc' hc)

/-- room for an object to come -/
theorem Rel.hole (h : Rel w0 X ν S σ a w) : Rel w0 X ν { S with L := S.L ++ [⟨0, .hole⟩] } (σ ++ [⟨0, none, 0⟩]) a w :=
  h.new (Turn.refl _ _) (o := .hole) (pl := ⟨0, none, 0⟩) (.inl rfl) rfl (by simp only [OR]) S.n h.n
theorem setO_app (l : List Ob) (x y : Ob) : setO (l ++ [x]) l.length y = l ++ [y] := by
  induction l with
  | nil => rfl
  | cons z l ih => simp [setO, ih]

theorem obsOk_get : ∀ (n : Nat) (l : List Ob) (i : Nat) (x : Ob), obsOk n l = true → getO l i = some x → x.o.ok n = true
  | n, [], i, x, _, h => by simp [getO] at h
  | n, y :: l, 0, x, hk, h => by
    simp only [obsOk, Bool.and_eq_true] at hk
    simp only [getO, Option.some.injEq] at h
    subst h
    exact hk.1
  | n, y :: l, i + 1, x, hk, h => by
    simp only [obsOk, Bool.and_eq_true] at hk
    exact obsOk_get n l i x hk.2 (by simpa [getO] using h)
/-- more variables -/
theorem Rel.more (h : Rel w0 X ν S σ a w) (hok : S.ok = true) (ds : Nu) : Rel w0 X (ν ++ ds) { S with n := S.n + ds.length } σ a w := by
  simp only [St.ok, Bool.and_eq_true] at hok
  rw [← h.n] at hok
  exact { defers := h.defers, F := LRs_app ν ds w X σ _ _ hok.1 h.F, len := h.len, L := fun i ob pl hob hi => by
            obtain ⟨h1, h2⟩ := h.L i ob pl hob hi
            exact ⟨h1, OR_app ν ds w X σ pl _ (obsOk_get _ _ i ob hok.2.1 hob) h2⟩
          inj := h.inj, own := h.own, old := h.old, ex := h.ex, glo := h.glo, n := by simp [h.n], G := LRs_app ν ds w X σ _ _ hok.2.2 h.G }
end
end Go.Proofs.Ytdgjcdhomfhfpaa
