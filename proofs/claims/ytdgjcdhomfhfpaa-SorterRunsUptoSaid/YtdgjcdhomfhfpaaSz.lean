/- Ranges over functions: what an iterator promises, with memory of its own; the statement; the end of a function that holds one. No condition. slices.Chunk as an iterator. Conditions: parts of one row or more; fewer than 2^40 rows. Regions that draw their order, by what holds between any two operations; operations without a guard. No condition. The runs of a sorter: what they hold, in memory. Conditions: runs of one row or more; at most 2^20 rows. Merging runs: what a heap of runs hands on, one by one. No condition. The rows of a sorter, as an iterator. Conditions: runs of one row or more; at most 2^20 rows. Rows that are gathered: append of one's own, and where it lies then; what a loop that gathers rows has. No condition. All rows that a sorter tells. Conditions: at most 2^16 rows. A sorter in memory: made, added to, asked. Conditions: at most 2^16 rows of at most 2^20 values. The sorter's methods: New, Add, Len, Runs. Conditions: at most 2^16 rows of at most 2^20 values. What must be whatever is asked of a sorter: it is so. No condition. -/
import Derived.RangeFuncIn
import Derived.RangeFuncRecord
import Derived.RangeFuncLeaves
import Derived.RangeFuncSeq
import Derived.Test.YtdgjcdhomfhfpaaBase
import Derived.Test.YtdgjcdhomfhfpaaHz
import Derived.WalkKit
import Derived.OwnWalkIn
import Derived.TacticsInMore
import Derived.LoopNIn
import Derived.LoopIn
import Derived.RegionIn
import Derived.Shelf.RegionOpen
import Derived.Lib.Hide
import Derived.Test.YtdgjcdhomfhfpaaAbV
import Derived.OrdersIn
import Derived.TacticsIn
import Derived.OwnWalk
import Derived.Laws.OwnMore
import Derived.Test.YtdgjcdhomfhfpaaAbA
import Derived.Test.YtdgjcdhomfhfpaaOz
namespace Go.Proofs.Ytdgjcdhomfhfpaa
open Go.RowKit
set_option linter.unusedSimpArgs false
set_option linter.unusedVariables false

/-- blocks: those that may be written; those that are spoken of -/
structure Bl where
  o : Nat → Prop
  r : Nat → Prop
/-- .. and blocks that are handed on -/
def Bl.add (F : Bl) (G : Nat → Prop) : Bl := ⟨fun b => F.o b ∨ G b, fun b => F.r b ∨ G b⟩
/-- nothing is turned but blocks of Fo, and new ones -/
structure Moves (Fo Fo' : Bl) (w w' : World) : Prop where
  os : w'.os = w.os
  tape : w'.tape = w.tape
  output : w'.output = w.output
  size : w.heap.size ≤ w'.heap.size
  heap : ∀ b, b < w.heap.size → ¬ Fo.o b → w'.heap[b]? = w.heap[b]?
  own : ∀ b, Fo'.o b → Fo.o b ∨ w.heap.size ≤ b
  rd : ∀ b, Fo'.r b → Fo.r b ∨ w.heap.size ≤ b
theorem Moves.refl (Fo : Bl) (w : World) : Moves Fo Fo w w := ⟨rfl, rfl, rfl, Nat.le_refl _, fun _ _ _ => rfl, fun _ h => .inl h, fun _ h => .inl h⟩
theorem Moves.trans {A B C : Bl} {w w1 w2 : World} (h : Moves A B w w1) (k : Moves B C w1 w2) : Moves A C w w2 :=
  ⟨k.os.trans h.os, k.tape.trans h.tape, k.output.trans h.output, Nat.le_trans h.size k.size, fun b hb hn => (k.heap b (Nat.lt_of_lt_of_le hb h.size) (fun hB => by
    rcases h.own b hB with h1 | h1
    · exact hn h1
    · omega)).trans (h.heap b hb hn), fun b hC => by
    rcases k.own b hC with h1 | h1
    · exact h.own b h1
    · exact .inr (Nat.le_trans h.size h1), fun b hC => by
    rcases k.rd b hC with h1 | h1
    · exact h.rd b h1
    · exact .inr (Nat.le_trans h.size h1)⟩
theorem Moves.of_below {Fo : Bl} {w w' : World} (h : Below w.heap.size w w') : Moves Fo Fo w w' :=
  ⟨h.os, h.tape, h.output, h.size, fun b hb _ => h.block b hb, fun b h => .inl h, fun b h => .inl h⟩
theorem Moves.below {Fo Fo' : Bl} {w w' : World} (h : Moves Fo Fo' w w') {n : Nat} (hn : n ≤ w.heap.size) (hF : ∀ b, Fo.o b → n ≤ b) : Below n w w' :=
  ⟨h.os, h.tape, h.output, h.size, fun b hb => h.heap b (by omega) (fun hB => by have := hF b hB; omega)⟩
theorem Moves.put {Fo : Bl} {w : World} {l : Nat} {o : Obj} (hl : Fo.o l) : Moves Fo Fo w (w.putObj l o) :=
  ⟨rfl, rfl, rfl, by simp, fun b _ hn => World.putObj_heap_other (fun e => hn (by rw [e]; exact hl)), fun b h => .inl h, fun b h => .inl h⟩

theorem Moves.ofAdd {F F' : Bl} {w w' : World} (h : Moves (F.add fun _ => False) F' w w') : Moves F F' w w' :=
  ⟨h.os, h.tape, h.output, h.size, fun b hb hn => h.heap b hb (fun h => h.elim hn id), fun b hb => (h.own b hb).imp (fun h => h.elim id (fun h => h.elim)) id, fun b hb => (h.rd b hb).imp (fun h => h.elim id (fun h => h.elim)) id⟩
theorem Moves.toAdd {F F' : Bl} {G : Nat → Prop} {w w' : World} (h : Moves F F' w w') : Moves (F.add G) F' w w' :=
  ⟨h.os, h.tape, h.output, h.size, fun b hb hn => h.heap b hb (fun h => hn (.inl h)), fun b hb => (h.own b hb).imp .inl id, fun b hb => (h.rd b hb).imp .inl id⟩
/-- what a consumer says of what has come and of the blocks that it owns, and that it speaks of -/
abbrev CJ := List Value → Bl → World → Prop
structure Cons (J : CJ) : Prop where
  stays : ∀ pre Fo W W', J pre Fo W → W.heap.size ≤ W'.heap.size → (∀ b, Fo.r b → W'.heap[b]? = W.heap[b]?) → J pre Fo W'
  lt : ∀ pre Fo W b, J pre Fo W → Fo.r b → b < W.heap.size
  sub : ∀ pre Fo W b, J pre Fo W → Fo.o b → Fo.r b
/-- AN ITERATOR: called with yield where H holds (of the blocks that the consumer owns, and of memory), it hands on values x of which E holds, one by one; what has come at its end is S; where it was stopped, Sp. It turns nothing that was there, but for what the rounds turn. -/
def IterW (P : Program) (g : FuncId) (lb : Array Value) (N : Nat) (E : List Value → Value → (Nat → Prop) → World → Prop) (S Sp : List Value → World → Prop) (H : (Nat → Prop) → World → Prop) : Prop :=
  ∀ (W0 : World) (l : Nat) (J Jx : CJ) (Fo : Bl), H Fo.o W0 → Cons J → Cons Jx →
    (∀ pre Fo1 x G W1, J pre Fo1 W1 → Moves Fo Fo1 W0 W1 → (∀ b, G b → W0.heap.size ≤ b ∧ b < W1.heap.size ∧ ¬ Fo1.r b) → E pre x G W1 → pre.length < N → YieldAt Fence.wide 0 P l #[x] W1 fun e W' => ∃ Fo', Moves (Fo1.add G) Fo' W1 W' ∧
      ((e = .returned (.bool true) ∧ J (pre ++ [x]) Fo' W') ∨ (e = .returned (.bool false) ∧ Jx (pre ++ [x]) Fo' W'))) →
    J [] Fo W0 →
    Calls P g (#[.func (.yield l) #[] #[]] ++ lb) W0 fun e W' => (∃ v, e = .returned v) ∧ ∃ pre Fo', Moves Fo Fo' W0 W' ∧ ((S pre W' ∧ J pre Fo' W') ∨ (Sp pre W' ∧ Jx pre Fo' W'))
/-- how a round may be left -/
def postW (I : CJ) (Ix : Code → CJ) (xs : List Value) (Fo : Bl) (W : World) : Exit → Act → World → Prop
  | .normal, _, W' => ∃ Fo', Moves Fo Fo' W W' ∧ I xs Fo' W'
  | .ret, _, W' => ∃ Fo', Moves Fo Fo' W W' ∧ Ix .ret xs Fo' W'
  | .exit id, _, W' => ∃ Fo', Moves Fo Fo' W W' ∧ Ix (.exit id) xs Fo' W'
  | .goto t, _, W' => ∃ Fo', Moves Fo Fo' W W' ∧ Ix (.goto t) xs Fo' W'
  | _, _, _ => False

section
variable {P : Program}
/-- the statement -/
theorem wp_range {g : Operand} {ps : Array Tmp} {assign body : Code} {Q : Exit → Act → World → Prop} {a : Act} {w : World}
    {gf : Nat} {lb : Array Value} (hg : a.eval g = .func (.func gf) #[] lb) (eg : ∀ args w, (callFunc gf args).run P w = .ok (.enter gf args) w)
    {N : Nat} {E : List Value → Value → (Nat → Prop) → World → Prop} {S Sp : List Value → World → Prop} {H : (Nat → Prop) → World → Prop} (hseq : IterW P gf lb N E S Sp H) (hps : ps.size = 1) (hE : ∀ pre x G W W', E pre x G W → W.heap.size ≤ W'.heap.size → (∀ b, G b → W'.heap[b]? = W.heap[b]?) → E pre x G W')
    (I : CJ) (Ix : Code → CJ) (hI : Cons I) (hIx : ∀ c, Cons (Ix c)) (Fo : Bl) (h0 : I [] Fo w) (hH : ∀ G W1, Below w.heap.size w W1 → (∀ b, G b → Fo.o b ∨ w.heap.size ≤ b) → H G W1) (a₁ : Value → Act)
    (hassign : ∀ (l : Nat) (x : Value) (W : World) (K : Act → World → Prop), K (a₁ x) W →
      assign.wpIn (Fence.wide.inRound l) 0 P (Exit.then K (fun _ _ _ => False)) { tmps := (ps.zip #[x]).foldl (fun t (p, v) => t.setIfInBounds p v) a.tmps, defers := [] } W)
    (hbody : ∀ (l : Nat) (pre : List Value) (Fo1 : Bl) (x : Value) (G : Nat → Prop) (W : World), I pre Fo1 W → Moves Fo Fo1 w W → (∀ b, G b → w.heap.size ≤ b ∧ b < W.heap.size ∧ ¬ Fo1.r b) → E pre x G W → pre.length < N → body.wpIn (Fence.wide.inRound l) 0 P (postW I Ix (pre ++ [x]) (Fo1.add G) W) (a₁ x) W)
    (hdone : ∀ (D : Nat) (xs : List Value) (Fo' : Bl) (W W' : World), w.heap.size ≤ D → D < W'.heap.size → ¬ Fo'.r D → Moves Fo Fo' w W' → S xs W → (∀ b, b ≠ D + 1 → W'.heap[b]? = W.heap[b]?) → (∃ r, W.heap[D + 1]? = some (.loop r)) → W'.heap.size = W.heap.size → I xs Fo' W' → W'.heap[D]? = some (.deferred (some [])) →
      Q .normal { a with defers := { target := .collected D, args := #[] } :: a.defers } W')
    (hstop : ∀ (D : Nat) (c : Code) (xs : List Value) (Fo' : Bl) (W W' : World), w.heap.size ≤ D → D < W'.heap.size → ¬ Fo'.r D → Moves Fo Fo' w W' → Sp xs W → (∀ b, b ≠ D + 1 → W'.heap[b]? = W.heap[b]?) → (∃ r, W.heap[D + 1]? = some (.loop r)) → W'.heap.size = W.heap.size → Ix c xs Fo' W' → W'.heap[D]? = some (.deferred (some [])) →
      c.wp P Q { a with defers := { target := .collected D, args := #[] } :: a.defers } W') :
    (Code.rangeFunc g ps assign body).wp P Q a w := by
  rw [← wpIn_wide (n := 0)]
  refine wpIn_rangeFunc ?_
  intro fn hfn
  obtain ⟨rec, hrec⟩ : ∃ rec : LoopState → Option Code → Loop, rec = fun st pe => { state := st, pending := pe, fn, tmps := a.tmps, params := ps, assign, body, defers := w.heap.size } := ⟨_, rfl⟩
  obtain ⟨W1, hW1⟩ : ∃ W1, (w.alloc (.deferred (some []))).alloc (.loop (rec .ready none)) = W1 := ⟨_, rfl⟩
  obtain ⟨D, hD⟩ : ∃ D, D = w.heap.size := ⟨_, rfl⟩
  have hs1 : W1.heap.size = D + 2 := by rw [← hW1, hD]; simp
  have hb1 : Below w.heap.size w W1 := by
    rw [← hW1]; exact (((Below.refl _ w).alloc (Nat.le_refl _) _).alloc (by simp) _)
  have hL1 : W1.heap[D + 1]? = some (.loop (rec .ready none)) := by
    rw [← hW1, hD]; have := World.alloc_heap_new (w.alloc (.deferred (some []))) (.loop (rec .ready none)); rwa [World.size_alloc] at this
  have hK1 : W1.heap[D]? = some (.deferred (some [])) := by
    rw [← hW1, hD]; exact (Below.heap_alloc _ _ _ (by simp)).trans (World.alloc_heap_new w _)
  -- the consumer, with the two blocks of the statement's own
  obtain ⟨ext, hext⟩ : ∃ ext : Bl → Bl → Prop, ext = fun F G => (∀ b, G.o b ↔ (F.o b ∨ b = D ∨ b = D + 1)) ∧ (∀ b, G.r b ↔ (F.r b ∨ b = D ∨ b = D + 1)) ∧ ¬ F.r D ∧ ¬ F.r (D + 1) := ⟨_, rfl⟩
  obtain ⟨J, hJ⟩ : ∃ J : CJ, J = fun pre G W => ∃ F, ext F G ∧ I pre F W ∧ W.heap[D + 1]? = some (.loop (rec .ready none)) ∧ W.heap[D]? = some (.deferred (some [])) := ⟨_, rfl⟩
  obtain ⟨Jx, hJx⟩ : ∃ Jx : CJ, Jx = fun pre G W => ∃ F c, ext F G ∧ Ix c pre F W ∧ W.heap[D + 1]? = some (.loop (rec .done (some c))) ∧ W.heap[D]? = some (.deferred (some [])) := ⟨_, rfl⟩
  have lt_of : ∀ {W : World} {l : Nat} {o : Obj}, W.heap[l]? = some o → l < W.heap.size := fun h => (Array.getElem?_eq_some_iff.1 h).1
  have cJ : Cons J := by
    subst hJ
    refine ⟨fun pre G W W' ⟨F, hF, hi, hl, hk⟩ hs hsame => ?_, fun pre G W b ⟨F, hF, hi, hl, hk⟩ hb => ?_, fun pre G W b ⟨F, hF, hi, hl, hk⟩ hb => ?_⟩
    · have hF' := hF
      rw [hext] at hF'
      exact ⟨F, hF, hI.stays _ _ _ _ hi hs (fun b hb => hsame b ((hF'.2.1 b).2 (.inl hb))), (hsame _ ((hF'.2.1 _).2 (.inr (.inr rfl)))).trans hl, (hsame _ ((hF'.2.1 _).2 (.inr (.inl rfl)))).trans hk⟩
    · rw [hext] at hF
      rcases (hF.2.1 b).1 hb with hb | rfl | rfl
      · exact hI.lt _ _ _ _ hi hb
      · exact lt_of hk
      · exact lt_of hl
    · rw [hext] at hF
      exact (hF.2.1 b).2 (((hF.1 b).1 hb).imp (fun h => hI.sub _ _ _ _ hi h) id)
  have cJx : Cons Jx := by
    subst hJx
    refine ⟨fun pre G W W' ⟨F, c, hF, hi, hl, hk⟩ hs hsame => ?_, fun pre G W b ⟨F, c, hF, hi, hl, hk⟩ hb => ?_, fun pre G W b ⟨F, c, hF, hi, hl, hk⟩ hb => ?_⟩
    · have hF' := hF
      rw [hext] at hF'
      exact ⟨F, c, hF, (hIx c).stays _ _ _ _ hi hs (fun b hb => hsame b ((hF'.2.1 b).2 (.inl hb))), (hsame _ ((hF'.2.1 _).2 (.inr (.inr rfl)))).trans hl, (hsame _ ((hF'.2.1 _).2 (.inr (.inl rfl)))).trans hk⟩
    · rw [hext] at hF
      rcases (hF.2.1 b).1 hb with hb | rfl | rfl
      · exact (hIx c).lt _ _ _ _ hi hb
      · exact lt_of hk
      · exact lt_of hl
    · rw [hext] at hF
      exact (hF.2.1 b).2 (((hF.1 b).1 hb).imp (fun h => (hIx c).sub _ _ _ _ hi h) id)
  obtain ⟨G0, hG0⟩ : ∃ G0 : Bl, G0 = ⟨fun b => Fo.o b ∨ b = D ∨ b = D + 1, fun b => Fo.r b ∨ b = D ∨ b = D + 1⟩ := ⟨_, rfl⟩
  have hFlt : ∀ b, Fo.r b → b < D := fun b hb => by rw [hD]; exact hI.lt _ _ _ _ h0 hb
  have hJ0 : J [] G0 W1 := by
    rw [hJ]
    refine ⟨Fo, ?_, hI.stays _ _ _ _ h0 hb1.size (fun b hb => hb1.block b (hI.lt _ _ _ _ h0 hb)), hL1, hK1⟩
    rw [hext, hG0]
    exact ⟨fun _ => Iff.rfl, fun _ => Iff.rfl, fun h => by have := hFlt _ h; omega, fun h => by have := hFlt _ h; omega⟩
  have hG0' : ∀ b, G0.o b → Fo.o b ∨ w.heap.size ≤ b := fun b hb => by
    rw [hG0] at hb
    rcases hb with hb | hb | hb
    · exact .inl hb
    · exact .inr (by omega)
    · exact .inr (by omega)
  have hG0r : ∀ b, G0.r b → Fo.r b ∨ w.heap.size ≤ b := fun b hb => by
    rw [hG0] at hb
    rcases hb with hb | hb | hb
    · exact .inl hb
    · exact .inr (by omega)
    · exact .inr (by omega)
  have mv0 : ∀ (F' G' : Bl) (W3 : World), Moves G0 G' W1 W3 → (∀ b, G'.o b ↔ (F'.o b ∨ b = D ∨ b = D + 1)) → (∀ b, G'.r b ↔ (F'.r b ∨ b = D ∨ b = D + 1)) → Moves Fo F' w W3 := fun F' G' W3 hmv hG hGr => by
    refine ⟨hmv.os.trans hb1.os, hmv.tape.trans hb1.tape, hmv.output.trans hb1.output, Nat.le_trans hb1.size hmv.size, fun b hb hn => ?_, fun b hb => ?_, fun b hb => ?_⟩
    · have hnG : ¬ G0.o b := fun h => by
        rw [hG0] at h
        rcases h with h | h | h
        · exact hn h
        · omega
        · omega
      rw [hmv.heap b (by omega) hnG, hb1.block b hb]
    · rcases hmv.own b ((hG b).2 (.inl hb)) with h | h
      · exact hG0' b h
      · exact .inr (by omega)
    · rcases hmv.rd b ((hGr b).2 (.inl hb)) with h | h
      · exact hG0r b h
      · exact .inr (by omega)
  have hcalls := hseq W1 (D + 1) J Jx G0 (hH G0.o W1 hb1 hG0') cJ cJx ?round hJ0
  case round =>
    intro pre G1 x G W hj hmv hGb hEx hlen
    rw [hJ] at hj
    obtain ⟨F1, hF1, hi, hl, hk⟩ := hj
    have hF1' := hF1
    rw [hext] at hF1'
    obtain ⟨hG1, hG1r, hnDr, hnLr⟩ := hF1'
    have hnD : ¬ F1.o D := fun h => hnDr (hI.sub _ _ _ _ hi h)
    have hnL : ¬ F1.o (D + 1) := fun h => hnLr (hI.sub _ _ _ _ hi h)
    have hlt : D + 1 < W.heap.size := lt_of hl
    have hy := run_yield (P := P) (args := #[x]) hl (by rw [hrec]; simpa using hps.symm)
    rw [hrec] at hy
    refine ⟨fn, _, assign, body, hy, roundIn_of_wpIn hfn (hassign _ x W _ ⟨_, run_beginRound hl (by rw [hrec]), ?_⟩)⟩
    obtain ⟨W2, hW2⟩ : ∃ W2, W2 = W.putObj (D + 1) (.loop { rec .ready none with state := .busy }) := ⟨_, rfl⟩
    rw [← hW2]
    have hl2 : W2.heap[D + 1]? = some (.loop { rec .ready none with state := .busy }) := by rw [hW2]; exact World.putObj_heap_same hlt
    have hk2 : W2.heap[D]? = some (.deferred (some [])) := by rw [hW2]; exact (World.putObj_heap_other (by omega)).trans hk
    have hm2 : Moves G1 G1 W W2 := by rw [hW2]; exact .put ((hG1 _).2 (.inr (.inr rfl)))
    have hi2 : I pre F1 W2 := hI.stays _ _ _ _ hi hm2.size (fun b hb => by rw [hW2]; exact World.putObj_heap_other (fun e => hnLr (by rw [← e]; exact hb)))
    have hGn : ∀ b, G b → b ≠ D ∧ b ≠ D + 1 ∧ ¬ F1.r b := fun b hb => by
      have := (hGb b hb).2.2
      rw [hG1r] at this
      exact ⟨fun e => this (.inr (.inl e)), fun e => this (.inr (.inr e)), fun e => this (.inl e)⟩
    refine wpIn_mono (hbody _ pre F1 x G W2 hi2 (mv0 F1 G1 W2 (hmv.trans hm2) hG1 hG1r) (fun b hb => ⟨?_, ?_, (hGn b hb).2.2⟩) (hE _ _ _ _ _ hEx hm2.size (fun b hb => by rw [hW2]; exact World.putObj_heap_other (hGn b hb).2.1)) hlen) ?_
    · have h1 := (hGb b hb).1
      have h2 := hb1.size
      omega
    · have h1 := (hGb b hb).2.1
      have h2 := hm2.size
      omega
    -- behind the body
    have fin : ∀ (jump : Option Code) (F' : Bl) (W3 : World), Moves (F1.add G) F' W2 W3 →
        ∃ W4, (Instr.endRound (D + 1) jump).run P W3 = .ok (.bool jump.isNone) W4 ∧ W4.heap[D + 1]? = some (.loop (rec (if jump.isNone then .ready else .done) jump)) ∧ W4.heap[D]? = some (.deferred (some [])) ∧
          (∀ b, b ≠ D + 1 → W4.heap[b]? = W3.heap[b]?) ∧ W4.heap.size = W3.heap.size ∧ ¬ F'.r D ∧ ¬ F'.r (D + 1) ∧ Moves (G1.add G) ⟨fun b => F'.o b ∨ b = D ∨ b = D + 1, fun b => F'.r b ∨ b = D ∨ b = D + 1⟩ W W4 := fun jump F' W3 hm => by
      have hl3 : W3.heap[D + 1]? = some (.loop { rec .ready none with state := .busy }) := (hm.heap _ (lt_of hl2) (fun h => h.elim hnL (fun h => (hGn _ h).2.1 rfl))).trans hl2
      have hk3 : W3.heap[D]? = some (.deferred (some [])) := (hm.heap _ (lt_of hk2) (fun h => h.elim hnD (fun h => (hGn _ h).1 rfl))).trans hk2
      have hF'D : ¬ F'.r D := fun h => by
        rcases hm.rd _ h with (h1 | h1) | h1
        · exact hnDr h1
        · exact (hGn _ h1).1 rfl
        · have := lt_of hk2; omega
      have hF'L : ¬ F'.r (D + 1) := fun h => by
        rcases hm.rd _ h with (h1 | h1) | h1
        · exact hnLr h1
        · exact (hGn _ h1).2.1 rfl
        · have := lt_of hl2; omega
      have hrun := run_endRound (P := P) jump hl3
      refine ⟨_, hrun, ?_, (World.putObj_heap_other (by omega)).trans hk3, fun b hb => World.putObj_heap_other hb, by simp, hF'D, hF'L, ?_⟩
      · rw [World.putObj_heap_same (lt_of hl3)]
        rw [hrec]
      · have hm' : Moves (G1.add G) ⟨fun b => F'.o b ∨ b = D ∨ b = D + 1, fun b => F'.r b ∨ b = D ∨ b = D + 1⟩ W2 W3 := ⟨hm.os, hm.tape, hm.output, hm.size, fun b hb hn => hm.heap b hb (fun h => hn (h.imp (fun h => (hG1 b).2 (.inl h)) id)), fun b hb => by
          rcases hb with hb | hb | hb
          · exact (hm.own b hb).imp (fun h => h.imp (fun h => (hG1 b).2 (.inl h)) id) id
          · exact .inl (.inl ((hG1 b).2 (.inr (.inl hb))))
          · exact .inl (.inl ((hG1 b).2 (.inr (.inr hb)))), fun b hb => by
          rcases hb with hb | hb | hb
          · exact (hm.rd b hb).imp (fun h => h.imp (fun h => (hG1r b).2 (.inl h)) id) id
          · exact .inl (.inl ((hG1r b).2 (.inr (.inl hb))))
          · exact .inl (.inl ((hG1r b).2 (.inr (.inr hb))))⟩
        have hm2' : Moves (G1.add G) (G1.add G) W W2 := by rw [hW2]; exact .put (.inl ((hG1 _).2 (.inr (.inr rfl))))
        exact (hm2'.trans hm').trans (.put (.inr (.inr rfl)))
    have back : ∀ (F' : Bl) (W3 W4 : World), (∀ b, b ≠ D + 1 → W4.heap[b]? = W3.heap[b]?) → ¬ F'.r (D + 1) → ∀ b, F'.r b → W4.heap[b]? = W3.heap[b]? := fun F' W3 W4 h hn b hb => h b (fun e => hn (by rw [← e]; exact hb))
    have jump_ : ∀ (c : Code) (F' : Bl) (W3 : World), Moves (F1.add G) F' W2 W3 → Ix c (pre ++ [x]) F' W3 → ∃ v w', (Instr.endRound (D + 1) (some c)).run P W3 = .ok v w' ∧ ∃ Fo', Moves (G1.add G) Fo' W w' ∧ ((Ending.returned v = .returned (.bool true) ∧ J (pre ++ [x]) Fo' w') ∨ (Ending.returned v = .returned (.bool false) ∧ Jx (pre ++ [x]) Fo' w')) := fun c F' W3 hm hi3 => by
      obtain ⟨W4, hr, hl4, hk4, hsame, hsz, hfD, hfL, hmv⟩ := fin (some c) F' W3 hm
      refine ⟨_, _, hr, _, hmv, .inr ⟨rfl, ?_⟩⟩
      rw [hJx]
      exact ⟨F', c, by rw [hext]; exact ⟨fun _ => Iff.rfl, fun _ => Iff.rfl, hfD, hfL⟩, (hIx c).stays _ _ _ _ hi3 (Nat.le_of_eq hsz.symm) (back F' W3 W4 hsame hfL), hl4, hk4⟩
    rintro e a3 W3 hp
    cases e with
    | normal =>
      obtain ⟨F', hm, hi3⟩ := hp
      obtain ⟨W4, hr, hl4, hk4, hsame, hsz, hfD, hfL, hmv⟩ := fin none F' W3 hm
      refine ⟨_, _, hr, _, hmv, .inl ⟨rfl, ?_⟩⟩
      rw [hJ]
      exact ⟨F', by rw [hext]; exact ⟨fun _ => Iff.rfl, fun _ => Iff.rfl, hfD, hfL⟩, hI.stays _ _ _ _ hi3 (Nat.le_of_eq hsz.symm) (back F' W3 W4 hsame hfL), hl4, hk4⟩
    | ret =>
      obtain ⟨F', hm, hi3⟩ := hp
      exact jump_ _ F' W3 hm hi3
    | exit id =>
      obtain ⟨F', hm, hi3⟩ := hp
      exact jump_ _ F' W3 hm hi3
    | goto t =>
      obtain ⟨F', hm, hi3⟩ := hp
      exact jump_ _ F' W3 hm hi3
    | panic ch => exact hp.elim
    | outgrown => exact hp.elim
  refine ⟨D + 1, [{ target := .collected D, args := #[] }], W1, { target := .fn (.func gf) lb, args := #[.func (.yield (D + 1)) #[] #[]] }, W1, gf,
    #[.func (.yield (D + 1)) #[] #[]] ++ lb, W1, ?_, ?_, ?_, ?_, fun h => by simp [Fence.wide] at h, ?_⟩
  · rw [← hW1, hrec, hD]; exact run_enterLoop_outer _ _ _ _ _
  · simp only [resolve, hg]
    simp [go_sem]
  · intro f' hf'; trivial
  · simp [invoke, go_sem, eg]
  · rw [callsIn_wide]
    refine hcalls.mono ?_
    rintro e W2 ⟨⟨v, rfl⟩, pre, G', hmv, hcase⟩
    have mv : ∀ (F' : Bl) (o : Obj), (∀ b, G'.o b ↔ (F'.o b ∨ b = D ∨ b = D + 1)) → (∀ b, G'.r b ↔ (F'.r b ∨ b = D ∨ b = D + 1)) → Moves Fo F' w (W2.putObj (D + 1) o) := fun F' o hG hGr =>
      mv0 F' G' _ (hmv.trans (.put ((hG _).2 (.inr (.inr rfl))))) hG hGr
    rcases hcase with ⟨hS, hj⟩ | ⟨hS, hj⟩
    · rw [hJ] at hj
      obtain ⟨F', hF', hi, hl, hk⟩ := hj
      rw [hext] at hF'
      obtain ⟨hG, hGr, hnD, hnL⟩ := hF'
      have hend := run_endLoop (P := P) hl (by rw [hrec]; simp)
      rw [show (rec .ready none).pending = none by rw [hrec]] at hend
      refine ⟨none, _, hend, ?_⟩
      exact hdone D pre F' W2 _ (by omega) (by rw [World.putObj_size]; exact lt_of hk) hnD (mv F' _ hG hGr) hS (fun b hb => World.putObj_heap_other hb) ⟨_, hl⟩ (by simp)
        (hI.stays _ _ _ _ hi (by simp) (fun b hb => World.putObj_heap_other (fun e => hnL (by rw [← e]; exact hb)))) ((World.putObj_heap_other (by omega)).trans hk)
    · rw [hJx] at hj
      obtain ⟨F', c, hF', hi, hl, hk⟩ := hj
      rw [hext] at hF'
      obtain ⟨hG, hGr, hnD, hnL⟩ := hF'
      have hend := run_endLoop (P := P) hl (by rw [hrec]; simp)
      rw [show (rec .done (some c)).pending = some c by rw [hrec]] at hend
      refine ⟨some c, _, hend, ?_⟩
      show c.wpIn Fence.wide 0 P Q _ _
      rw [wpIn_wide]
      exact hstop D c pre F' W2 _ (by omega) (by rw [World.putObj_size]; exact lt_of hk) hnD (mv F' _ hG hGr) hS (fun b hb => World.putObj_heap_other hb) ⟨_, hl⟩ (by simp)
        ((hIx c).stays _ _ _ _ hi (by simp) (fun b hb => World.putObj_heap_other (fun e => hnL (by rw [← e]; exact hb)))) ((World.putObj_heap_other (by omega)).trans hk)
/-- a function that holds a range over a function -/
theorem calls_marks {f : FuncId} {fn : Func} {c : Code} {args : Array Value} {w : World} {R : Ending → World → Prop} (hf : P.funcs[f]? = some fn) (hb : fn.body = some c)
    (h : c.wp P (bodyPostM Fence.wide 0 P fn R) { tmps := args ++ Array.replicate (fn.ntmps - args.size) undef, defers := [] } w) : Calls P f args w R := by
  rw [← callsIn_wide (n := 0)]
  refine callsIn_of_wp_marks hf hb trivial ?_ rfl
  rw [wpIn_wide]
  exact h
end
end Go.Proofs.Ytdgjcdhomfhfpaa
namespace Go.Proofs.Ytdgjcdhomfhfpaa
open Go.RowKit Go.IntWalk
set_option linter.unusedSimpArgs false
set_option linter.unusedVariables false

/-- the k-th part of a slice of L elements -/
def partV (b o L n k : Nat) : Value := .slice (some ⟨b, o + k * n, none⟩) (min n (L - k * n)) (min n (L - k * n))
def ChH (b1 b2 : Nat) (av : Option Addr) (L c n : Nat) (Fo : Nat → Prop) (W : World) : Prop :=
  ¬ Fo b1 ∧ ¬ Fo b2 ∧ W.cell? ⟨b1, 0, none⟩ = some (.slice av L c) ∧ W.cell? ⟨b2, 0, none⟩ = some (.int .i64 n)
set_option maxRecDepth 100000 in
set_option maxHeartbeats 4000000 in
theorem chunk_iter (b1 b2 b o L c n : Nat) (av : Option Addr) (hav : L = 0 ∨ av = some ⟨b, o, none⟩) (hn : 1 ≤ n) (hn2 : n ≤ 1099511627776) (hL : L ≤ 1099511627776) (hc : L ≤ c) :
    IterW Try.prog 58 #[.pointer (some ⟨b1, 0, none⟩), .pointer (some ⟨b2, 0, none⟩)] L
      (fun pre x G _ => (∀ b, ¬ G b) ∧ pre.length * n < L ∧ x = partV b o L n pre.length) (fun pre _ => L ≤ pre.length * n) (fun _ _ => True) (ChH b1 b2 av L c n) := by
  intro W0 l J Jx Fo hH cJ cJx hY h0
  obtain ⟨f1, f2, hc1, hc2'⟩ := hH
  have l1 : b1 < W0.heap.size := World.block_lt_of_cell? _ _ hc1
  have l2 : b2 < W0.heap.size := World.block_lt_of_cell? _ _ hc2'
  have hF : ∀ f, Fence.wide.fn f := fun _ => trivial
  rw [← callsIn_wide (n := 0)]
  refine callsIn_of_wp Try.func58 rfl trivial ?_ rfl
  simp only [Try.ntmps58, List.size_toArray, List.length_cons, List.length_nil, Nat.reduceAdd, Nat.reduceSub, Array.replicate_succ, Array.replicate_zero, List.push_toArray, List.append_toArray, List.nil_append, List.cons_append]
  gi_wp2
  gi_loopw [4] (fun i wr => ∃ (k : Nat) (pre : List Value) (Fo1 : Bl), i = .int .i64 ((k * n : Nat) : Int) ∧ k * n ≤ L + n ∧ pre.length = k ∧ J pre Fo1 wr ∧ Moves Fo Fo1 W0 wr) (fun i _ => L + n - (intOf i).toNat)
  case atStart => exact ⟨0, [], Fo, by simp, by omega, rfl, h0, .refl _ _⟩
  case round =>
    obtain ⟨k, pre, Fo1, rfl, hk, hpre, hJ, hmv⟩ := hrel
    have hc1r : wr.cell? ⟨b1, 0, none⟩ = some (.slice av L c) := by rw [cell_of_heap (hmv.heap b1 l1 f1)]; exact hc1
    have hc2r : wr.cell? ⟨b2, 0, none⟩ = some (.int .i64 n) := by rw [cell_of_heap (hmv.heap b2 l2 f2)]; exact hc2'
    obtain ⟨I, hI⟩ : ∃ I, I = k * n := ⟨_, rfl⟩
    rw [← hI] at hk ⊢
    by_cases hlt : I < L
    · have hlti : (I : Int) < (L : Int) := by omega
      obtain rfl := hav.resolve_left (by omega)
      obtain ⟨m, hm⟩ : ∃ m, m = min n (L - I) := ⟨_, rfl⟩
      have hm1 : 1 ≤ m ∧ m ≤ n ∧ m ≤ L - I := by omega
      have hpv : partV b o L n pre.length = .slice (some ⟨b, o + I, none⟩) m m := by unfold partV; rw [hpre, ← hI, ← hm]
      have hY2 := hY pre Fo1 (partV b o L n pre.length) (fun _ => False) wr.drew (cJ.stays _ _ _ _ hJ (Nat.le_refl _) (fun _ _ => rfl)) (hmv.trans (Moves.of_below ((Below.refl _ _).drew))) (fun _ h => h.elim) ⟨fun _ h => h, by rw [hpre, ← hI]; exact hlt, rfl⟩ (by have : k * 1 ≤ k * n := Nat.mul_le_mul_left k hn; omega)
      rw [hpv] at hY2
      obtain ⟨fn, tmps, assign, body, hy, hR⟩ := hY2
      have hmin : min (n : Int) ((L - I : Nat) : Int) = (m : Int) := by omega
      have HI := Lib.hid hI
      clear hI hm
      gi_wp2
      gi_region
      have hIm : (I : Int) + (m : Int) ≤ (L : Int) := by omega
      have hIm2 : (I : Int) + (m : Int) ≤ (c : Int) := by omega
      have hIc : ¬ c = I := by omega
      have hcd1 : wr.drew.cell? ⟨b1, 0, none⟩ = some (.slice (some ⟨b, o, none⟩) L c) := hc1r
      have hcd2 : wr.drew.cell? ⟨b2, 0, none⟩ = some (.int .i64 n) := hc2r
      gi_wp2
      refine ⟨rfl, hR.mono ?_⟩
      rintro e W3 ⟨Fo', hm3', ⟨rfl, hJ3⟩ | ⟨rfl, hJx3⟩⟩
      · have hm3 := hm3'.ofAdd
        have hmv3 : Moves Fo Fo' W0 W3 := hmv.trans ((Moves.of_below ((Below.refl _ _).drew)).trans hm3)
        have hc23 : W3.cell? ⟨b2, 0, none⟩ = some (.int .i64 n) := by rw [cell_of_heap (hmv3.heap b2 l2 f2)]; exact hc2'
        gi_wp2
        have hI := HI.out
        have e1 : (k + 1) * n = I + n := by rw [Nat.add_mul, Nat.one_mul, ← hI]
        exact ⟨⟨k + 1, _, Fo', by rw [e1]; simp, by omega, by simp [hpre], hJ3, hmv3⟩, by simp [intOf]; omega⟩
      · have hm3 := hm3'.ofAdd
        gi_wp2
        refine bodyPost_ret (results_none rfl _ _ _) rfl ?_
        exact ⟨⟨_, rfl⟩, _, Fo', hmv.trans ((Moves.of_below ((Below.refl _ _).drew)).trans hm3), .inr ⟨trivial, hJx3⟩⟩
    · have hlti : ¬ (I : Int) < (L : Int) := by omega
      have HI := Lib.hid hI
      clear hI
      gi_wp2
      have hI := HI.out
      go_end0
      exact ⟨⟨_, rfl⟩, pre, Fo1, hmv, .inl ⟨by rw [hpre, ← hI]; omega, hJ⟩⟩
end Go.Proofs.Ytdgjcdhomfhfpaa
namespace Go.Proofs.Ytdgjcdhomfhfpaa
open Go.RowKit
set_option linter.unusedSimpArgs false
set_option linter.unusedVariables false

def stepL (D : Nat → Bool) (i : Nat) : Nat → Bool := fun j => j == i || D j
def ClosedD (ops : Array Oper) (D : Nat → Bool) : Prop := ∀ (j : Nat) (o : Oper), D j = true → ops[j]? = some o → ∀ e ∈ o.after, binds1 e = true → D e.on = true
section
variable {F : Fence} {n : Nat} {P : Program} {ops : Array Oper} {Q : Exit → Act → World → Prop}
theorem anyIn_inv {I : (Nat → Bool) → Act → World → Prop} (hg : ∀ (D : Nat → Bool) (i : Nat) (o : Oper) a w, ops[i]? = some o → (∀ e ∈ o.after, binds1 e = true → D e.on = true) → I D a w → Region.wanted o (yielded ops a.tmps) = true)
    (hlow : ∀ (i : Nat) (o : Oper), ops[i]? = some o → ∀ e ∈ o.after, binds1 e = true → e.on < i)
    (hstep : ∀ (D : Nat → Bool) (i : Nat) (o : Oper) a w, ops[i]? = some o → D i = false → ClosedD ops D → (∀ e ∈ o.after, binds1 e = true → D e.on = true) → I D a w → o.wpIn F n P a w (I (stepL D i)) Q)
    (hdone : ∀ D a w, (∀ i, i < ops.size → D i = true) → I D a w → Q .normal a w) :
    ∀ (fuel : Nat) (L : Array Bool) (a : Act) (w : World), L.size = ops.size → L.count false ≤ fuel → ClosedD ops (fun j => L.getD j false) → I (fun j => L.getD j false) a w → wpAnyIn F n P .any ops Q fuel L a w
  | 0, L, a, w, hs, hc, hcl, hI => by
    have hall : ∀ i, i < ops.size → L.getD i false = true := fun i hi => listed_allD L (by omega) i (by omega)
    exact ⟨all_ready hall, hdone _ _ _ hall hI⟩
  | fuel + 1, L, a, w, hs, hc, hcl, hI => by
    refine ⟨fun hr => ?_, fun i hi => ?_⟩
    · refine hdone _ _ _ (fun j hj => ?_) hI
      by_cases hjt : L.getD j false = true
      · exact hjt
      · exfalso
        have hjs : j < L.size := by omega
        have hjf : L.getD j true = false := by simpa [Array.getD_eq_getD_getElem?, hjs] using hjt
        obtain ⟨m, hm, hmf, hml⟩ := unlisted_minD L ⟨j, hjs, hjf⟩
        obtain ⟨om, hom⟩ : ∃ om, ops[m]? = some om := ⟨ops[m]'(by omega), Array.getElem?_eq_getElem _⟩
        have : m ∈ Region.ready .any ops L := mem_ready.2 ⟨hmf, om, hom, fun e he hb => hml _ (hlow m om hom e he hb)⟩
        rw [hr] at this; cases this
    · obtain ⟨hif, o, ho, hed⟩ := mem_ready.1 hi
      have hil : i < L.size := by
        rw [hs]
        exact (Array.getElem?_eq_some_iff.1 ho).1
      have hif' : L.getD i false = false := by
        simp [Array.getD_eq_getD_getElem?, hil] at hif ⊢
        exact hif
      have hD : (fun j => (L.setIfInBounds i true).getD j false) = stepL (fun j => L.getD j false) i := by
        funext j
        unfold stepL
        have := getD_set_iffD L i j hil
        cases h1 : (L.setIfInBounds i true).getD j false <;> cases h2 : L.getD j false <;> simp_all
      have hcl' : ClosedD ops (stepL (fun j => L.getD j false) i) := by
        intro j oj hj hoj e he hb
        unfold stepL at hj ⊢
        simp only [Bool.or_eq_true, beq_iff_eq] at hj ⊢
        rcases hj with rfl | hj
        · obtain rfl : oj = o := Option.some.inj (hoj.symm.trans ho)
          exact .inr (hed e he hb)
        · exact .inr (hcl j oj hj hoj e he hb)
      unfold wpOpIn
      rw [ho]
      have hw : Region.wanted o (yielded ops a.tmps) = true := hg (fun j => L.getD j false) i o a w ho hed hI
      simp only [hw, if_true]
      refine Oper.wpIn_mono (fun a' w' hI' => ?_) (hstep _ i o a w ho hif' hcl hed hI)
      have hcs := count_setD L i hil hif
      exact anyIn_inv hg hlow hstep hdone fuel _ a' w' (by simpa using hs) (by omega) (by rw [hD]; exact hcl') (by rw [hD]; exact hI')
/-- no guard; every operation waits for earlier ones; no two write one slot -/
def goodR (ops : Array Oper) : Bool := (List.range ops.size).all fun i => match ops[i]? with
  | some o => o.guard.isNone && o.after.all (fun e => !binds1 e || decide (e.on < i)) && (List.range i).all fun j => match ops[j]? with
    | some oj => o.dst.isNone || !(oj.dst == o.dst)
    | none => true
  | none => true
theorem goodR.at {i : Nat} {o : Oper} (h : goodR ops = true) (ho : ops[i]? = some o) : o.guard = none ∧ (∀ e ∈ o.after, binds1 e = true → e.on < i) ∧ ∀ j oj d, j < i → ops[j]? = some oj → o.dst = some d → oj.dst ≠ some d := by
  have hi := (Array.getElem?_eq_some_iff.1 ho).1
  unfold goodR at h
  rw [List.all_eq_true] at h
  have h := h i (List.mem_range.2 hi)
  simp only [ho, Bool.and_eq_true] at h
  obtain ⟨⟨h1, h2⟩, h3⟩ := h
  refine ⟨Option.isNone_iff_eq_none.1 h1, fun e he hb => ?_, fun j oj d hj hoj hd hdj => ?_⟩
  · rw [Array.all_eq_true'] at h2
    have h2 := h2 e he
    simpa [hb] using h2
  · rw [List.all_eq_true] at h3
    have h3 := h3 j (List.mem_range.2 hj)
    simp only [hoj] at h3
    simp [hd, hdj] at h3
theorem regionIn_inv {id : Nat} {a : Act} {w : World} (hm : P.follows .mixedOrders = true) (I : (Nat → Bool) → Act → World → Prop) (h0 : I (fun _ => false) a w.drew)
    (hB : goodR ops = true)
    (hstep : ∀ (D : Nat → Bool) (i : Nat) (o : Oper) a w, ops[i]? = some o → D i = false → ClosedD ops D → (∀ e ∈ o.after, binds1 e = true → D e.on = true) → I D a w → o.wpIn F n P a w (I (stepL D i)) Q)
    (hdone : ∀ D a w, (∀ i, i < ops.size → D i = true) → I D a w → Q .normal a w) : (Code.region id ops true).wpIn F n P Q a w := by
  have hD : (fun j => (Array.replicate ops.size false).getD j false) = fun _ => false := by
    funext j
    by_cases hj : j < ops.size <;> simp [Array.getD_eq_getD_getElem?, hj]
  refine wpIn_region_any hm (anyIn_inv (fun D i o a w h _ _ => by unfold Region.wanted; rw [(goodR.at hB h).1]) (fun i o h => (goodR.at hB h).2.1) hstep hdone ops.size _ a _ (by simp) (by simp) ?_ ?_)
  · rw [hD]; intro j o hj; cases hj
  · rw [hD]; exact h0
theorem oper_value {o : Oper} {a : Act} {w w' : World} {K : Act → World → Prop} {v : Value} (hF : ∀ f, F.fn f) (hnd : ∀ c, o.op ≠ .defer c) (h : (execOp a.eval o).run P w = .ok (.value v) w') (hk : K (a.put o.dst v) w') : o.wpIn F n P a w K Q := by
  refine ⟨fun f _ => hF f, ?_⟩
  rw [Oper.semAt_plain F _ _ hnd, h]
  exact hk
theorem oper_call {o : Oper} {a : Act} {w : World} {K : Act → World → Prop} {f : Nat} {args : Array Value} (hF : ∀ f, F.fn f) (hd : F.depth = none) (hnd : ∀ c, o.op ≠ .defer c) (h : (execOp a.eval o).run P w = .ok (.enter f args) w)
    (hc : CallsIn F (n - 1) P f args w fun e w' => ∃ v, e = .returned v ∧ K (a.put o.dst v) w') : o.wpIn F n P a w K Q := by
  refine ⟨fun f _ => hF f, ?_⟩
  rw [Oper.semAt_plain F _ _ hnd, h]
  refine ⟨fun hs => (by rw [hd] at hs; cases hs), CallsIn.mono hc ?_⟩
  rintro e w' ⟨v, rfl, hk⟩
  exact hk
theorem callsIn_round {l n f : Nat} {args : Array Value} {w : World} {R : Ending → World → Prop} (h : Calls P f args w R) : CallsIn (Fence.wide.inRound l) n P f args w R := by
  have := (callsIn_wide (n := n)).2 h
  exact this
/-- no two operations write one slot -/
def ApartR (ops : Array Oper) : Prop := ∀ (i j : Nat) (oi oj : Oper) (d : Tmp), ops[i]? = some oi → ops[j]? = some oj → oi.dst = some d → oj.dst = some d → i = j
theorem goodR.apart (h : goodR ops = true) : ApartR ops := by
  intro i j oi oj d hi hj hdi hdj
  rcases Nat.lt_trichotomy i j with e | e | e
  · exact absurd hdi ((goodR.at h hj).2.2 i oi d e hi hdj)
  · exact e
  · exact absurd hdj ((goodR.at h hi).2.2 j oj d e hj hdi)
/-- the frame behind the operations that are done -/
structure AgreeR (ops : Array Oper) (vals : Nat → Value) (a0 : Act) (D : Nat → Bool) (a : Act) : Prop where
  size : a.tmps.size = a0.tmps.size
  defers : a.defers = a0.defers
  own : ∀ (i : Nat) (o : Oper) (d : Tmp), ops[i]? = some o → o.dst = some d → D i = true → d < a0.tmps.size → a.eval (.tmp d) = vals i
  rest : ∀ s, (∀ (i : Nat) (o : Oper), ops[i]? = some o → o.dst ≠ some s) → a.eval (.tmp s) = a0.eval (.tmp s)
theorem AgreeR.start {vals : Nat → Value} {a0 : Act} : AgreeR ops vals a0 (fun _ => false) a0 := ⟨rfl, rfl, fun _ _ _ _ _ h => (by cases h), fun _ _ => rfl⟩
theorem AgreeR.put {vals vals' : Nat → Value} {a0 a : Act} {D : Nat → Bool} (h : AgreeR ops vals a0 D a) (hap : ApartR ops) {i : Nat} {o : Oper} (hi : ops[i]? = some o) {v : Value} (hv : vals' i = v) (hs : ∀ j, D j = true → vals' j = vals j) :
    AgreeR ops vals' a0 (stepL D i) (a.put o.dst v) := by
  have psz : (a.put o.dst v).tmps.size = a.tmps.size := by cases o.dst <;> simp [Act.put]
  have pdf : (a.put o.dst v).defers = a.defers := by cases o.dst <;> simp [Act.put]
  have pne : ∀ s, o.dst ≠ some s → (a.put o.dst v).eval (.tmp s) = a.eval (.tmp s) := fun s hs => by
    cases ho : o.dst with
    | none => rfl
    | some d =>
      have : d ≠ s := fun e => hs (by rw [ho, e])
      simp [Act.put, Act.eval, Array.getD_eq_getD_getElem?, Array.getElem?_setIfInBounds_ne this]
  refine ⟨by rw [psz, h.size], by rw [pdf, h.defers], fun j oj d hj hjd hdj hsz => ?_, fun s hs2 => ?_⟩
  · by_cases e : j = i
    · subst e
      obtain rfl : oj = o := Option.some.inj (hj.symm.trans hi)
      rw [hjd, hv]
      have : d < a.tmps.size := by rw [h.size]; exact hsz
      simp [Act.put, Act.eval, Array.getD_eq_getD_getElem?, this]
    · have hne : o.dst ≠ some d := fun e2 => e (hap j i oj o d hj hi hjd e2)
      have hDj : D j = true := by
        unfold stepL at hdj
        simp only [Bool.or_eq_true, beq_iff_eq] at hdj
        exact hdj.resolve_left e
      rw [pne _ hne, hs j hDj]
      exact h.own j oj d hj hjd hDj hsz
  · rw [pne _ (hs2 i o hi)]
    exact h.rest s hs2
theorem AgreeR.keep {vals : Nat → Value} {a0 a : Act} {D : Nat → Bool} (h : AgreeR ops vals a0 D a) (s : Tmp) (hs : (ops.all fun o => !(o.dst == some s)) = true) : a.tmps[s]?.getD undef = a0.tmps[s]?.getD undef := by
  have := h.rest s fun i o ho hd => by
    rw [Array.all_eq_true'] at hs
    have := hs o (Array.mem_of_getElem? ho)
    simp [hd] at this
  simpa [Act.eval, Array.getD_eq_getD_getElem?] using this
theorem AgreeR.was {vals : Nat → Value} {a0 a : Act} {D : Nat → Bool} (h : AgreeR ops vals a0 D a) (i : Nat) (d : Tmp) (ho : (ops[i]?.map (·.dst)) = some (some d)) (hD : D i = true) (hsz : d < a0.tmps.size) : a.tmps[d]?.getD undef = vals i := by
  cases h1 : ops[i]? with
  | none => rw [h1] at ho; cases ho
  | some o =>
    rw [h1] at ho
    simp only [Option.map_some, Option.some.injEq] at ho
    have := h.own i o d h1 ho hD hsz
    simpa [Act.eval, Array.getD_eq_getD_getElem?] using this
/-- the frame behind all of them -/
def putsR (vals : Nat → Value) : List Oper → Nat → Act → Act
  | [], _, a => a
  | o :: r, i, a => putsR vals r (i + 1) (a.put o.dst (vals i))
theorem putsR_agree {vals : Nat → Value} {a0 : Act} (hap : ApartR ops) : ∀ (l : List Oper) (k : Nat) (a : Act), (∀ j, l[j]? = ops[k + j]?) → AgreeR ops vals a0 (fun j => decide (j < k)) a → AgreeR ops vals a0 (fun j => decide (j < k + l.length)) (putsR vals l k a)
  | [], k, a, _, h => h
  | o :: r, k, a, hl, h => by
    have h0 : ops[k]? = some o := (hl 0).symm
    have e : stepL (fun j => decide (j < k)) k = fun j => decide (j < k + 1) := by
      funext j
      unfold stepL
      by_cases h1 : j = k
      · subst h1; simp
      · have : (j < k + 1) ↔ j < k := by omega
        simp [h1, this]
    have := h.put hap h0 (vals' := vals) rfl (fun _ _ => rfl)
    rw [e] at this
    have fin := putsR_agree hap r (k + 1) _ (fun j => by have := hl (j + 1); simpa [Nat.add_assoc, Nat.add_comm 1 j] using this) this
    rw [show k + (o :: _).length = k + 1 + r.length by simp only [List.length_cons]; omega]
    exact fin
theorem AgreeR.eq {vals : Nat → Value} {a0 a : Act} {D : Nat → Bool} (h : AgreeR ops vals a0 D a) (hap : ApartR ops) (hall : ∀ i, i < ops.size → D i = true) : a = putsR vals ops.toList 0 a0 := by
  have g := putsR_agree (vals := vals) (a0 := a0) hap ops.toList 0 a0 (fun j => by simp) (by
    have e : (fun j : Nat => decide (j < 0)) = fun _ => false := by funext j; simp
    rw [e]; exact .start)
  obtain ⟨b, hb⟩ : ∃ b, b = putsR vals ops.toList 0 a0 := ⟨_, rfl⟩
  rw [← hb] at g ⊢
  have key : ∀ s, a.eval (.tmp s) = b.eval (.tmp s) := fun s => by
    by_cases hex : ∃ (i : Nat) (o : Oper), ops[i]? = some o ∧ o.dst = some s
    · obtain ⟨i, o, hi, hd⟩ := hex
      have hil := (Array.getElem?_eq_some_iff.1 hi).1
      by_cases hs : s < a0.tmps.size
      · rw [h.own i o s hi hd (hall i hil) hs, g.own i o s hi hd (by simpa using hil) hs]
      · have h1 : ¬ s < a.tmps.size := by rw [h.size]; exact hs
        have h2 : ¬ s < b.tmps.size := by rw [g.size]; exact hs
        simp [Act.eval, Array.getD_eq_getD_getElem?, Array.getElem?_eq_none (Nat.le_of_not_lt h1), Array.getElem?_eq_none (Nat.le_of_not_lt h2)]
    · rw [h.rest s (fun i o hi hd => hex ⟨i, o, hi, hd⟩), g.rest s (fun i o hi hd => hex ⟨i, o, hi, hd⟩)]
  have ht : a.tmps = b.tmps := by
    apply Array.ext (by rw [h.size, g.size])
    intro s h1 h2
    have := key s
    simpa [Act.eval, Array.getD_eq_getD_getElem?, h1, h2] using this
  have hdf : a.defers = b.defers := by rw [h.defers, g.defers]
  cases a; cases b
  simp only at ht hdf
  subst ht hdf
  rfl
/-- one operation of such a region -/
def StepR {ρ : Type} (P : Program) (V : ρ → Nat → Value) (Ph : ρ → (Nat → Bool) → World → Prop) (D : Nat → Bool) (i : Nat) (o : Oper) (r : ρ) (a : Act) (w : World) : Prop :=
  (∃ r' w', (∀ c, o.op ≠ .defer c) ∧ (execOp a.eval o).run P w = .ok (.value (V r' i)) w' ∧ (∀ j, D j = true → V r' j = V r j) ∧ Ph r' (stepL D i) w') ∨
  (∃ f args, (∀ c, o.op ≠ .defer c) ∧ (execOp a.eval o).run P w = .ok (.enter f args) w ∧ Calls P f args w fun e w' => ∃ r', e = .returned (V r' i) ∧ (∀ j, D j = true → V r' j = V r j) ∧ Ph r' (stepL D i) w')
theorem regionIn_vals {ρ : Type} {id : Nat} {a0 : Act} {w : World} (hm : P.follows .mixedOrders = true) (hF : ∀ f, F.fn f) (hd : F.depth = none) (hC : ∀ f args w R, Calls P f args w R → CallsIn F (n - 1) P f args w R) (hB : goodR ops = true)
    (V : ρ → Nat → Value) (Ph : ρ → (Nat → Bool) → World → Prop) (r0 : ρ) (h0 : Ph r0 (fun _ => false) w.drew)
    (hstep : ∀ (D : Nat → Bool) (i : Nat) (o : Oper) (r : ρ) (a : Act) (w : World), ops[i]? = some o → D i = false → ClosedD ops D → (∀ e ∈ o.after, binds1 e = true → D e.on = true) → AgreeR ops (V r) a0 D a → Ph r D w → StepR P V Ph D i o r a w)
    (hdone : ∀ (D : Nat → Bool) (r : ρ) (a : Act) (w : World), (∀ i, i < ops.size → D i = true) → AgreeR ops (V r) a0 D a → Ph r D w → Q .normal a w) : (Code.region id ops true).wpIn F n P Q a0 w := by
  refine regionIn_inv hm (fun D a w => ∃ r, AgreeR ops (V r) a0 D a ∧ Ph r D w) ⟨r0, .start, h0⟩ hB ?_ ?_
  · rintro D i o a w ho hDi hcl hdep ⟨r, hA, hP⟩
    rcases hstep D i o r a w ho hDi hcl hdep hA hP with ⟨r', w', hnd, hx, hs, hP'⟩ | ⟨f, args, hnd, hx, hc⟩
    · exact oper_value hF hnd hx ⟨r', hA.put (goodR.apart hB) ho rfl hs, hP'⟩
    · refine oper_call hF hd hnd hx (hC _ _ _ _ (hc.mono ?_))
      rintro e w' ⟨r', rfl, hs, hP'⟩
      exact ⟨_, rfl, r', hA.put (goodR.apart hB) ho rfl hs, hP'⟩
  · rintro D a w hall ⟨r, hA, hP⟩
    exact hdone D r a w hall hA hP
/-- guards, too: every guard is waited for, and is an operation that yields -/
def goodG (ops : Array Oper) : Bool := (List.range ops.size).all fun i => match ops[i]? with
  | some o => (match o.guard with
      | none => true
      | some (g, _) => decide (g < i) && o.after.any (fun e => binds1 e && e.on == g) && ((ops[g]?).bind (·.dst)).isSome) && o.after.all (fun e => !binds1 e || decide (e.on < i)) && (List.range i).all fun j => match ops[j]? with
    | some oj => o.dst.isNone || !(oj.dst == o.dst)
    | none => true
  | none => true
theorem goodG.at {i : Nat} {o : Oper} (h : goodG ops = true) (ho : ops[i]? = some o) : (∀ g b, o.guard = some (g, b) → (∃ e ∈ o.after, binds1 e = true ∧ e.on = g) ∧ ∃ og d, ops[g]? = some og ∧ og.dst = some d) ∧ (∀ e ∈ o.after, binds1 e = true → e.on < i) ∧ ∀ j oj d, j < i → ops[j]? = some oj → o.dst = some d → oj.dst ≠ some d := by
  have hi := (Array.getElem?_eq_some_iff.1 ho).1
  unfold goodG at h
  rw [List.all_eq_true] at h
  have h := h i (List.mem_range.2 hi)
  simp only [ho, Bool.and_eq_true] at h
  obtain ⟨⟨h1, h2⟩, h3⟩ := h
  refine ⟨fun g b hg => ?_, fun e he hb => ?_, fun j oj d hj hoj hd hdj => ?_⟩
  · rw [hg] at h1
    simp only [Bool.and_eq_true] at h1
    obtain ⟨⟨_, k2⟩, k3⟩ := h1
    rw [Array.any_eq_true'] at k2
    obtain ⟨e, he, hb⟩ := k2
    simp only [Bool.and_eq_true, beq_iff_eq] at hb
    refine ⟨⟨e, he, hb.1, hb.2⟩, ?_⟩
    cases hog : ops[g]? with
    | none => rw [hog] at k3; cases k3
    | some og =>
      rw [hog] at k3
      cases hd : og.dst with
      | none => simp [hd] at k3
      | some d => exact ⟨og, d, rfl, hd⟩
  · rw [Array.all_eq_true'] at h2
    have h2 := h2 e he
    simpa [hb] using h2
  · rw [List.all_eq_true] at h3
    have h3 := h3 j (List.mem_range.2 hj)
    simp only [hoj] at h3
    simp [hd, hdj] at h3
theorem goodG.apart (h : goodG ops = true) : ApartR ops := by
  intro i j oi oj d hi hj hdi hdj
  rcases Nat.lt_trichotomy i j with e | e | e
  · exact absurd hdi ((goodG.at h hj).2.2 i oi d e hi hdj)
  · exact e
  · exact absurd hdj ((goodG.at h hi).2.2 j oj d e hj hdi)
theorem regionIn_valsG {ρ : Type} {id : Nat} {a0 : Act} {w : World} (hm : P.follows .mixedOrders = true) (hF : ∀ f, F.fn f) (hd : F.depth = none) (hC : ∀ f args w R, Calls P f args w R → CallsIn F (n - 1) P f args w R) (hB : goodG ops = true)
    (hsz : ∀ (i : Nat) (o : Oper) (d : Tmp), ops[i]? = some o → o.dst = some d → d < a0.tmps.size)
    (V : ρ → Nat → Value) (hV : ∀ (r : ρ) (i : Nat) (o : Oper) (g : Nat) (b : Bool), ops[i]? = some o → o.guard = some (g, b) → V r g = .bool b) (Ph : ρ → (Nat → Bool) → World → Prop) (r0 : ρ) (h0 : Ph r0 (fun _ => false) w.drew)
    (hstep : ∀ (D : Nat → Bool) (i : Nat) (o : Oper) (r : ρ) (a : Act) (w : World), ops[i]? = some o → D i = false → ClosedD ops D → (∀ e ∈ o.after, binds1 e = true → D e.on = true) → AgreeR ops (V r) a0 D a → Ph r D w → StepR P V Ph D i o r a w)
    (hdone : ∀ (D : Nat → Bool) (r : ρ) (a : Act) (w : World), (∀ i, i < ops.size → D i = true) → AgreeR ops (V r) a0 D a → Ph r D w → Q .normal a w) : (Code.region id ops true).wpIn F n P Q a0 w := by
  have hD : (fun j => (Array.replicate ops.size false).getD j false) = fun _ => false := by
    funext j
    by_cases hj : j < ops.size <;> simp [Array.getD_eq_getD_getElem?, hj]
  refine wpIn_region_any hm (anyIn_inv (I := fun D a w => ∃ r, AgreeR ops (V r) a0 D a ∧ Ph r D w) ?_ (fun i o h => (goodG.at hB h).2.1) ?_ ?_ ops.size _ a0 _ (by simp) (by simp) ?_ ?_)
  · rintro D i o a w ho hdep ⟨r, hA, hP⟩
    unfold Region.wanted
    cases hg : o.guard with
    | none => rfl
    | some x =>
      obtain ⟨g, b⟩ := x
      obtain ⟨⟨e, he, hb, heg⟩, og, d, hog, hd⟩ := (goodG.at hB ho).1 g b hg
      have hDg := hdep e he hb
      rw [heg] at hDg
      have hlt := hsz g og d hog hd
      have hv := hA.own g og d hog hd hDg hlt
      rw [hV r i o g b ho hg] at hv
      have hlt' : d < a.tmps.size := by rw [hA.size]; exact hlt
      have hv' : a.tmps[d]? = some (.bool b) := by
        rw [Array.getElem?_eq_getElem hlt']
        simpa [Act.eval, Array.getD_eq_getD_getElem?, hlt'] using hv
      simp [yielded, hog, hd, hv']
  · rintro D i o a w ho hDi hcl hdep ⟨r, hA, hP⟩
    rcases hstep D i o r a w ho hDi hcl hdep hA hP with ⟨r', w', hnd, hx, hs, hP'⟩ | ⟨f, args, hnd, hx, hc⟩
    · exact oper_value hF hnd hx ⟨r', hA.put (goodG.apart hB) ho rfl hs, hP'⟩
    · refine oper_call hF hd hnd hx (hC _ _ _ _ (hc.mono ?_))
      rintro e w' ⟨r', rfl, hs, hP'⟩
      exact ⟨_, rfl, r', hA.put (goodG.apart hB) ho rfl hs, hP'⟩
  · rintro D a w hall ⟨r, hA, hP⟩
    exact hdone D r a w hall hA hP
  · rw [hD]; intro j o hj; cases hj
  · rw [hD]; exact ⟨r0, .start, h0⟩
theorem sizes_of {N : Nat} (h : (ops.all fun o => match o.dst with | some d => decide (d < N) | none => true) = true) (i : Nat) (o : Oper) (d : Tmp) (ho : ops[i]? = some o) (hd : o.dst = some d) : d < N := by
  rw [Array.all_eq_true'] at h
  have := h o (Array.mem_of_getElem? ho)
  simpa [hd] using this
end
end Go.Proofs.Ytdgjcdhomfhfpaa
namespace Go.Proofs.Ytdgjcdhomfhfpaa
open Go.RowKit Go.IntWalk
set_option linter.unusedSimpArgs false
set_option linter.unusedVariables false
attribute [local go_sem] Oper.semAt_some

theorem cell_heap1 {w : World} {b : Nat} {v : Value} {t : TypeId} {fr : Nat × Nat} (h : w.heap[b]? = some (.cells #[v] t fr)) : w.cell? ⟨b, 0, none⟩ = some v := by simp [World.cell?, h]
theorem frozen_heap1 {w : World} {b : Nat} {v : Value} {t : TypeId} (h : w.heap[b]? = some (.cells #[v] t (0, 0))) : w.frozen? ⟨b, 0, none⟩ = false := by simp [World.frozen?, h]
set_option maxHeartbeats 1000000 in
theorem chunk_calls (w : World) (rv : Value) (h1 : rv.oneCell' = true) (n : Nat) (hn : 1 ≤ n) :
    Calls Try.prog 50 #[rv, .int .i64 (n : Nat)] w fun e w' => ∃ b1 b2, e = .returned (.func (.func 58) #[] #[.pointer (some ⟨b1, 0, none⟩), .pointer (some ⟨b2, 0, none⟩)]) ∧
      w.heap.size ≤ b1 ∧ w.heap.size ≤ b2 ∧ w'.cell? ⟨b1, 0, none⟩ = some rv ∧ w'.cell? ⟨b2, 0, none⟩ = some (.int .i64 (n : Nat)) ∧ Below w.heap.size w w' := by
  have hn' : ¬ (n : Int) < 1 := by omega
  have hc1 := cells_of_one h1
  go_enter Try.func50, Try.ntmps50
  go_wp2
  go_ret
  refine ⟨_, _, rfl, Nat.le_refl _, Nat.le_succ _, ?_, ?_, ((Below.refl _ w).alloc (Nat.le_refl _) _).alloc (by simp) _⟩
  · exact cell_heap1 ((Below.heap_alloc _ _ _ (by simp)).trans (World.alloc_heap_new w _))
  · have := World.alloc_heap_new (w.alloc (.cells #[rv] 23)) (.cells #[.int .i64 (n : Nat)] 3)
    rw [World.size_alloc] at this
    exact cell_heap1 this
/-- the j-th part; what the heap holds behind k parts -/
def partL (LL : List (List V3)) (n j : Nat) : List (List V3) := (LL.drop (j * n)).take n
noncomputable def runsF (K : List K3) (n : Nat) (LL : List (List V3)) : Nat → List Rn
  | 0 => []
  | k + 1 => pushL K (runsF K n LL k) (k, sortL K (partL LL n k))
theorem pushL_len (K : List K3) (l : List Rn) (x : Rn) : (pushL K l x).length = l.length + 1 := by
  have up : ∀ (k : Nat) (l : List Rn) (i : Nat), (upF K k l i).length = l.length := fun k => by
    induction k with
    | zero => intro l i; rfl
    | succ k ih =>
      intro l i
      unfold upF
      split
      · rfl
      · split
        · rw [ih, swapL_len]
        · rfl
  unfold pushL
  rw [up]
  simp
theorem partL_ok {LL : List (List V3)} (h : RowsOk LL) (n j : Nat) : RowsOk (partL LL n j) := by
  refine ⟨?_, fun L hL => h.2 L (List.mem_of_mem_drop (List.mem_of_mem_take hL))⟩
  have := h.1
  unfold partL
  rw [List.length_take, List.length_drop]
  omega
theorem partL_len (LL : List (List V3)) (n j : Nat) : (partL LL n j).length = min n (LL.length - j * n) := by unfold partL; rw [List.length_take, List.length_drop]
theorem runsF_spec (K : List K3) (n : Nat) (hn : 1 ≤ n) (LL : List (List V3)) (h : RowsOk LL) : ∀ k, (∀ j, j < k → j * n < LL.length) → (runsF K n LL k).length = k ∧ Heap (leS K) dR (runsF K n LL k) ∧ (runsF K n LL k).Perm ((List.range k).map fun j => (j, sortL K (partL LL n j)))
  | 0, _ => ⟨rfl, fun j h0 hj => by simp [runsF] at hj, .refl _⟩
  | k + 1, hk => by
    obtain ⟨h1, h2, h3⟩ := runsF_spec K n hn LL h k (fun j hj => hk j (by omega))
    obtain ⟨h4, h5⟩ := pushL_heap h2 (k, sortL K (partL LL n k))
    refine ⟨?_, h4, h5.trans ?_⟩
    · show (pushL K (runsF K n LL k) _).length = _
      rw [pushL_len, h1]
    · rw [List.range_succ, List.map_append]
      exact List.Perm.append_right _ h3
theorem runsF_ok (K : List K3) (n : Nat) (hn : 1 ≤ n) (LL : List (List V3)) (h : RowsOk LL) (k : Nat) (hk : ∀ j, j < k → j * n < LL.length) : ∀ R ∈ runsF K n LL k, OkR R := by
  obtain ⟨_, _, h3⟩ := runsF_spec K n hn LL h k hk
  intro R hR
  have := h3.subset hR
  simp only [List.mem_map, List.mem_range] at this
  obtain ⟨j, hj, rfl⟩ := this
  refine ⟨?_, sortL_ok (partL_ok h n j)⟩
  show 0 < (sortL K (partL LL n j)).length
  rw [sortL_len, partL_len]
  have := hk j hj
  omega
theorem part_cv {w : World} {X : Nat → Prop} {LL : List (List V3)} {b o c n k : Nat} (h : CVR w X (.vs (rcL LL)) (.slice (some ⟨b, o, none⟩) LL.length c)) (hk : k * n < LL.length) : CVR w X (.vs (rcL (partL LL n k))) (partV b o LL.length n k) := by
  rcases CVR_inv h with ⟨hnil, a, h2⟩ | ⟨b', o', sz, c', g, h2, hsz, hc, hcell, hval⟩
  · have := rcL_len LL
    rw [hnil] at this
    simp at this
    omega
  · injection h2 with h2 h3 h4
    injection h2 with h2
    injection h2 with h2 h5 _
    subst h2 h5 h4
    have e0 : (rcL LL)[k * n]? = some [.vs (vc (LL.getD (k * n) []))] := by simp [rcL, hk]
    have h1 : sz = 1 := (hsz _ (List.mem_of_getElem? e0)).symm
    subst h1
    have hl : (rcL (partL LL n k)).length = min n (LL.length - k * n) := by rw [rcL_len, partL_len]
    have key : ∀ i el, (rcL (partL LL n k))[i]? = some el → (rcL LL)[k * n + i]? = some el := fun i el hi => by
      have e : rcL (partL LL n k) = ((rcL LL).drop (k * n)).take n := by simp [rcL, partL, List.map_take, List.map_drop]
      rw [e, List.getElem?_take] at hi
      split at hi
      · rwa [List.getElem?_drop] at hi
      · cases hi
    unfold partV
    rw [← hl]
    refine .vs _ b (o + k * n) 1 _ (fun i f => g (k * n + i) f) (fun el hel => ?_) (Nat.le_refl _) (fun i el hi f cv hf => ?_) (fun i el hi f cv hf => hval _ el (key i el hi) f cv hf)
    · obtain ⟨i, hi⟩ := List.getElem?_of_mem hel
      exact hsz el (List.mem_of_getElem? (key i el hi))
    · have := hcell _ el (key i el hi) f cv hf
      rw [show o + k * n + i * 1 + f = o + (k * n + i) * 1 + f by omega]
      exact this
def XF (Fo : Bl) (nb : Nat) : Nat → Prop := fun b => ¬ Fo.r b ∨ b = nb
/-- between two parts -/
structure RunsJ (K : List K3) (LL : List (List V3)) (n tb sb hb hv nb : Nat) (kv rv : Value) (at_ : Option (Nat × Nat)) (k : Nat) (Fo : Bl) (W : World) : Prop where
  o : ∀ b, Fo.o b ↔ (b = nb ∨ b = hb ∨ AtB at_ b)
  or_ : ∀ b, Fo.o b → Fo.r b
  lt : ∀ b, Fo.r b → b < W.heap.size
  rt : Fo.r tb
  rs : Fo.r sb
  rh : Fo.r hv
  ne : nb ≠ hb
  nat : ∀ b, AtB at_ b → b ≠ nb
  ct : W.cell? ⟨tb, 0, none⟩ = some (.pointer (some ⟨sb, 0, none⟩))
  c1 : W.cell? ⟨sb, 1, none⟩ = some kv
  ch : W.cell? ⟨hv, 0, none⟩ = some (.pointer (some ⟨hb, 0, none⟩))
  cn : W.heap[nb]? = some (.cells #[.int .i64 (k : Nat)] 3 (0, 0))
  kv : CVR W (OwnO (XF Fo nb) hb at_) (.vs (kc K)) kv
  rv : CVR W (OwnO (XF Fo nb) hb at_) (.vs (rcL LL)) rv
  heap : HeapP K W (XF Fo nb) hb at_ (runsF K n LL k)
  pre : ∀ j, j < k → j * n < LL.length
section
variable {K : List K3} {LL : List (List V3)} {n tb sb hb hv nb : Nat} {kv rv : Value} {at_ : Option (Nat × Nat)} {k : Nat} {Fo : Bl} {W W' : World}
theorem RunsJ.cons : Cons fun pre Fo W => ∃ at_, RunsJ K LL n tb sb hb hv nb kv rv at_ pre.length Fo W := by
  refine ⟨fun pre Fo W W' ⟨at_, h⟩ hz hs => ⟨at_, ?_⟩, fun pre Fo W b ⟨at_, h⟩ hb => h.lt b hb, fun pre Fo W b ⟨at_, h⟩ hb => h.or_ b hb⟩
  have rn : Fo.r nb := h.or_ _ ((h.o nb).2 (.inl rfl))
  have rb : Fo.r hb := h.or_ _ ((h.o hb).2 (.inr (.inl rfl)))
  have hs' : ∀ b, ¬ XF Fo nb b → b < W.heap.size → W'.heap[b]? = W.heap[b]? := fun b hb _ => hs b (Classical.not_not.1 fun h => hb (.inl h))
  have st : Stays (OwnO (XF Fo nb) hb at_) (OwnO (XF Fo nb) hb at_) W W' := ⟨fun b hb hlt => hs' b (fun h => hb (.inl h)) hlt, fun b h => .inl h, hz⟩
  exact ⟨h.o, h.or_, fun b hb => Nat.lt_of_lt_of_le (h.lt b hb) hz, h.rt, h.rs, h.rh, h.ne, h.nat, (cell_of_heap (hs _ h.rt)).trans h.ct, (cell_of_heap (hs _ h.rs)).trans h.c1, (cell_of_heap (hs _ h.rh)).trans h.ch, (hs _ rn).trans h.cn,
    h.kv.step st, h.rv.step st, h.heap.step hs' (fun b h => .inl h) hz, h.pre⟩
end
theorem heap_alloc4 (w : World) (o1 o2 o3 o4 : Obj) : ((((w.alloc o1).alloc o2).alloc o3).alloc o4).heap[w.heap.size]? = some o1 ∧ ((((w.alloc o1).alloc o2).alloc o3).alloc o4).heap[w.heap.size + 1]? = some o2 ∧
    ((((w.alloc o1).alloc o2).alloc o3).alloc o4).heap[w.heap.size + 2]? = some o3 ∧ ((((w.alloc o1).alloc o2).alloc o3).alloc o4).heap[w.heap.size + 3]? = some o4 := by
  have n1 := World.alloc_heap_new w o1
  have n2 := World.alloc_heap_new (w.alloc o1) o2
  have n3 := World.alloc_heap_new ((w.alloc o1).alloc o2) o3
  have n4 := World.alloc_heap_new (((w.alloc o1).alloc o2).alloc o3) o4
  simp only [World.size_alloc] at n2 n3 n4
  have k := fun (W : World) (o : Obj) (b : Nat) (h : b < W.heap.size) => Below.heap_alloc W o b h
  refine ⟨(k _ _ _ (by simp only [World.size_alloc]; omega)).trans ((k _ _ _ (by simp only [World.size_alloc]; omega)).trans ((k _ _ _ (by simp only [World.size_alloc]; omega)).trans n1)), (k _ _ _ (by simp only [World.size_alloc]; omega)).trans ((k _ _ _ (by simp only [World.size_alloc]; omega)).trans n2), (k _ _ _ (by simp only [World.size_alloc]; omega)).trans n3, n4⟩
theorem canSort : CanEnter Try.prog 19 := canEnter_of Try.func19 (by kernel_rfl) (by kernel_rfl)
theorem canChunk1 : CanEnter Try.prog 58 := canEnter_of Try.func58 (by kernel_rfl) (by kernel_rfl)
set_option maxRecDepth 100000 in
set_option maxHeartbeats 4000000 in
theorem runs_calls (K : List K3) (hK : K.length ≤ Lim) (LL : List (List V3)) (hLL : RowsOk LL) (n : Nat) (hn : 1 ≤ n) (hn2 : n ≤ 65536) (w : World) (X : Nat → Prop) (hX : ∀ b, X b → b < w.heap.size) (sb : Nat) (hXs : ¬ X sb) (kv rv : Value)
    (c0 : w.cell? ⟨sb, 0, none⟩ = some (.int .i64 (n : Nat))) (c1 : w.cell? ⟨sb, 1, none⟩ = some kv) (ck : CVR w X (.vs (kc K)) kv) (cr : CVR w X (.vs (rcL LL)) rv) :
    Calls Try.prog 37 #[.pointer (some ⟨sb, 0, none⟩), rv] w fun e w' => ∃ hb at' k, e = .returned (.pointer (some ⟨hb, 0, none⟩)) ∧ Below w.heap.size w w' ∧ w.heap.size ≤ hb ∧ (∀ b, AtB at' b → w.heap.size ≤ b) ∧
      HeapP K w' X hb at' (runsF K n LL k) ∧ LL.length ≤ k * n ∧ ∀ j, j < k → j * n < LL.length := by
  have hsb : sb < w.heap.size := World.block_lt_of_cell? _ _ c0
  have hL1 := hLL.1
  have g1 : sb < w.heap.size + 1 ∧ sb < w.heap.size + 1 + 1 ∧ sb < w.heap.size + 1 + 1 + 1 ∧ sb ≠ w.heap.size ∧ sb ≠ w.heap.size + 1 ∧ sb ≠ w.heap.size + 1 + 1 ∧ sb ≠ w.heap.size + 1 + 1 + 1 := by omega
  obtain ⟨g1, g2, g3, g4, g5, g6, g7⟩ := g1
  obtain ⟨av, c, b, o, hrv, hav, hc⟩ : ∃ av c b o, rv = .slice av LL.length c ∧ (LL.length = 0 ∨ av = some ⟨b, o, none⟩) ∧ LL.length ≤ c := by
    rcases CVR_inv cr with ⟨hnil, a, rfl⟩ | ⟨b, o, sz, c, g, rfl, hsz, hc, hcell, hval⟩
    · have := rcL_len LL
      rw [hnil] at this
      have h0 : LL.length = 0 := this.symm
      rw [h0]
      exact ⟨a, 0, 0, 0, rfl, .inl rfl, Nat.le_refl _⟩
    · rw [rcL_len] at hc ⊢
      exact ⟨_, c, b, o, rfl, .inr rfl, hc⟩
  have one := cr.one
  have HV := Lib.hid hrv
  clear hrv
  refine calls_marks Try.func37 rfl ?_
  simp only [Try.ntmps37, List.size_toArray, List.length_cons, List.length_nil, Nat.reduceAdd, Nat.reduceSub, Array.replicate_succ, Array.replicate_zero, List.push_toArray, List.append_toArray, List.nil_append, List.cons_append]
  go_wp2_with fail
  obtain ⟨W1, hW1⟩ : ∃ W1, W1 = ((((w.alloc (.cells #[.pointer (some ⟨sb, 0, none⟩)] 24)).alloc (.cells #[.slice none 0 0, .func (.func 49) #[] #[.pointer (some ⟨w.heap.size, 0, none⟩)]] 78)).alloc
    (.cells #[.pointer (some ⟨w.heap.size + 1, 0, none⟩)] 73)).alloc (.cells #[.int .i64 0] 3)) := ⟨_, rfl⟩
  rw [← hW1]
  have hz1 : W1.heap.size = w.heap.size + 4 := by rw [hW1]; simp
  have hB1 : Below w.heap.size w W1 := by rw [hW1]; exact ((((Below.refl _ w).alloc (Nat.le_refl _) _).alloc (by simp) _).alloc (by simp; omega) _).alloc (by simp; omega) _
  obtain ⟨ht, hh, hv, hnb⟩ := heap_alloc4 w (.cells #[.pointer (some ⟨sb, 0, none⟩)] 24) (.cells #[.slice none 0 0, .func (.func 49) #[] #[.pointer (some ⟨w.heap.size, 0, none⟩)]] 78)
    (.cells #[.pointer (some ⟨w.heap.size + 1, 0, none⟩)] 73) (.cells #[.int .i64 0] 3)
  rw [← hW1] at ht hh hv hnb
  refine (chunk_calls W1 rv one n hn).mono ?_
  rintro e W2 ⟨b1, b2, rfl, hb1, hb2, hx1, hx2, hB2⟩
  have hz2 := hB2.size
  go_wp2_with fail
  have old : ∀ b, b < W1.heap.size → W2.heap[b]? = W1.heap[b]? := fun b hb => hB2.block b hb
  have hB := hB1.trans (hB2.mono hB1.size)
  have hrv := HV.out
  rw [hrv] at hx1
  refine wp_range (gf := 58) (lb := #[.pointer (some ⟨b1, 0, none⟩), .pointer (some ⟨b2, 0, none⟩)]) rfl (fun _ _ => canChunk1 _ _) (chunk_iter b1 b2 b o LL.length c n av hav hn (by omega) (by omega) hc) rfl (fun _ _ _ _ _ h _ _ => h)
    (fun pre Fo W => ∃ at_, RunsJ K LL n w.heap.size sb (w.heap.size + 1) (w.heap.size + 2) (w.heap.size + 3) kv rv at_ pre.length Fo W) (fun _ _ _ _ => False) RunsJ.cons (fun _ => ⟨fun _ _ _ _ h => h.elim, fun _ _ _ _ h => h.elim, fun _ _ _ _ h => h.elim⟩)
    ⟨fun b => b = w.heap.size + 3 ∨ b = w.heap.size + 1, fun b => b < W2.heap.size ∧ ¬ X b⟩ ?start ?frame _ (fun l x W K hk => by gi_wp2; exact hk) ?body ?done (fun D c xs Fo' W W' _ _ _ _ _ _ _ _ h => h.elim)
  case start =>
    have nx : ∀ b, b < W2.heap.size → ¬ X b → ¬ (b = w.heap.size + 3) → ¬ XF ⟨fun b => b = w.heap.size + 3 ∨ b = w.heap.size + 1, fun b => b < W2.heap.size ∧ ¬ X b⟩ (w.heap.size + 3) b := fun b h1 hx h2 h => by
      rcases h with h | h
      · exact h ⟨h1, hx⟩
      · exact h2 h
    have Xge : ∀ b, w.heap.size ≤ b → ¬ X b := fun b h hx => by have := hX b hx; omega
    have st : Stays X (OwnO (XF ⟨fun b => b = w.heap.size + 3 ∨ b = w.heap.size + 1, fun b => b < W2.heap.size ∧ ¬ X b⟩ (w.heap.size + 3)) (w.heap.size + 1) none) w W2 := ⟨fun b _ h => hB.block b h, fun b h => by
      by_cases hlt : b < w.heap.size
      · left
        rcases h with h | h | ⟨_, h⟩
        · exact Classical.byContradiction fun hx => nx b (by omega) hx (by omega) h
        · omega
        · cases h
      · exact .inr (by omega), hB.size⟩
    have ot := (old _ (by omega)).trans ht
    have oh := (old _ (by omega)).trans hh
    have ov := (old _ (by omega)).trans hv
    have on := (old _ (by omega)).trans hnb
    have lt0 : sb < W2.heap.size ∧ ¬ X sb := ⟨by omega, hXs⟩
    refine ⟨none, ⟨fun b => ⟨fun h => h.elim .inl (fun h => .inr (.inl h)), fun h => ?_⟩, fun b h => ?_, fun b h => h.1, ?_, lt0, ?_, by omega, fun b ⟨_, h⟩ => (by cases h), cell_heap1 ot, (hB.cell (p := ⟨sb, 1, none⟩) hsb).trans c1, cell_heap1 ov, on, ck.step st, cr.step st, ?_, fun j h => absurd h (Nat.not_lt_zero j)⟩⟩
    · rcases h with h | h | ⟨_, h⟩
      · exact .inl h
      · exact .inr h
      · cases h
    · show b < W2.heap.size ∧ ¬ X b
      rcases h with h | h
      · exact ⟨by omega, Xge _ (by omega)⟩
      · exact ⟨by omega, Xge _ (by omega)⟩
    · show w.heap.size < W2.heap.size ∧ ¬ X w.heap.size; exact ⟨by omega, Xge _ (by omega)⟩
    · show w.heap.size + 2 < W2.heap.size ∧ ¬ X (w.heap.size + 2); exact ⟨by omega, Xge _ (by omega)⟩
    · refine HeapP.fresh oh (fun o h1 h2 => by omega) (nx _ (by omega) (Xge _ (by omega)) (by omega)) (.sem _ _ rfl (fun w3 hs ha => ?_))
      have e1 : w3.cell? ⟨w.heap.size, 0, none⟩ = W2.cell? ⟨w.heap.size, 0, none⟩ := cell_of_heap (ha _ (fun h => ?_) (by omega))
      have e2 : w3.cell? ⟨sb, 1, none⟩ = W2.cell? ⟨sb, 1, none⟩ := cell_of_heap (ha _ (fun h => ?_) (by omega))
      · refine ⟨w.heap.size, sb, kv, rfl, e1.trans (cell_heap1 ot), e2.trans ((hB.cell (p := ⟨sb, 1, none⟩) hsb).trans c1), ck.step ⟨fun b hnx h => (ha b (fun h2 => ?_) (by omega)).trans (hB.block b h), fun b h => h.elim, by omega⟩⟩
        rcases h2 with h2 | h2 | ⟨_, h2⟩
        · exact nx b (by omega) hnx (by omega) h2
        · omega
        · cases h2
      · rcases h with h | h | ⟨_, h⟩
        · exact nx _ (by omega) hXs (by omega) h
        · omega
        · cases h
      · rcases h with h | h | ⟨_, h⟩
        · exact nx _ (by omega) (Xge _ (by omega)) (by omega) h
        · omega
        · cases h
  case frame =>
    intro G W3 hB3 hG
    have l1 : b1 < W2.heap.size := World.block_lt_of_cell? _ _ hx1
    have l2 : b2 < W2.heap.size := World.block_lt_of_cell? _ _ hx2
    refine ⟨fun h => ?_, fun h => ?_, (hB3.cell (p := ⟨b1, 0, none⟩) l1).trans hx1, (hB3.cell (p := ⟨b2, 0, none⟩) l2).trans hx2⟩
    · rcases hG _ h with (h | h) | h <;> omega
    · rcases hG _ h with (h | h) | h <;> omega
  case body =>
    rintro l pre Fo1 x G W ⟨at_, J⟩ hm hGb ⟨hG0, hpl, rfl⟩ hlen
    gi_wp2
    have hk0 : 0 < LL.length := by omega
    obtain ⟨nb, hnbe⟩ : ∃ nb, nb = w.heap.size + 3 := ⟨_, rfl⟩
    have hmv := J
    rw [← hnbe] at J
    have e11 : w.heap.size + 1 + 1 = w.heap.size + 2 := rfl
    have e111 : w.heap.size + 1 + 1 + 1 = nb := hnbe.symm
    obtain ⟨Xb, hXb⟩ : ∃ Xb : Nat → Prop, Xb = fun b => XF Fo1 nb b ∧ b < W.heap.size := ⟨_, rfl⟩
    have hXlt : ∀ b, Xb b → b < W.heap.size := fun b hb => by rw [hXb] at hb; exact hb.2
    have hXF : ∀ b, Xb b → XF Fo1 nb b := fun b hb => by rw [hXb] at hb; exact hb.1
    have H0 : HeapP K W Xb (w.heap.size + 1) at_ (runsF K n LL pre.length) := J.heap.step (fun _ _ _ => rfl) (fun b h => .inl (hXF b h)) (Nat.le_refl _)
    have hOO : ∀ b, OwnO Xb (w.heap.size + 1) at_ b → OwnO (XF Fo1 nb) (w.heap.size + 1) at_ b := fun b h => h.imp (hXF b) id
    have hOlt : ∀ b, OwnO Xb (w.heap.size + 1) at_ b → b < W.heap.size := fun b h => by
      rcases h with h | rfl | h
      · exact hXlt b h
      · exact H0.lt
      · exact (H0.row b h).1
    have kvb := J.kv.mono hOO
    have rvb := J.rv.mono hOO
    rw [hrv, hav.resolve_left (by omega)] at rvb
    have pvb := part_cv rvb hpl
    obtain ⟨k, hk⟩ : ∃ k, k = pre.length := ⟨_, rfl⟩
    rw [← hk] at J H0 pvb hpl hlen ⊢
    have hok := runsF_ok K n hn LL hLL k J.pre
    have hlen2 := (runsF_spec K n hn LL hLL k J.pre).1
    have hpok := partL_ok hLL n k
    obtain ⟨part, hpart⟩ : ∃ part, part = partV b o LL.length n k := ⟨_, rfl⟩
    rw [← hpart] at pvb
    have hR : OkR (k, sortL K (partL LL n k)) := by
      refine ⟨?_, sortL_ok hpok⟩
      show 0 < (sortL K (partL LL n k)).length
      rw [sortL_len, partL_len]
      omega
    refine regionIn_vals (by kernel_rfl) (fun _ => trivial) rfl (fun f args w R h => callsIn_round h) (by kernel_rfl)
      (fun (r : Value) i => match i with | 0 => .pointer (some ⟨w.heap.size + 1, 0, none⟩) | 1 => .int .i64 (k : Nat) | 2 => part | 3 => .pointer (some ⟨sb, 0, none⟩) | 4 => .pointer (some ⟨sb, 0, none⟩) | 5 => .pointer (some ⟨sb, 1, none⟩) | 6 => kv | 7 => r | 8 => .agg #[.int .i64 (k : Nat), r] | _ => .tuple #[])
      (fun r D w' => (D 9 = false → Below W.heap.size W w' ∧ (D 7 = true → CVR w' (OwnO Xb (w.heap.size + 1) at_) (.vs (rcL (sortL K (partL LL n k)))) r)) ∧
        (D 9 = true → ∃ w2 at2, Below W.heap.size W w2 ∧ HTurn K Xb (w.heap.size + 1) at_ w2 w' at2 (pushL K (runsF K n LL k) (k, sortL K (partL LL n k)))))
      undef ⟨fun _ => ⟨(Below.refl _ _).drew, fun h => by cases h⟩, fun h => by cases h⟩ ?steps ?rdone
    case steps =>
      intro D i op r a W3 hop hDi hcl hdep hA hP
      have hi : i < 10 := (Array.getElem?_eq_some_iff.1 hop).1
      have h9 : D 9 = false := by
        cases h : D 9
        · rfl
        · exfalso
          have d0 := hcl 9 _ h rfl ⟨0, .data⟩ (by simp) rfl
          have d8 := hcl 9 _ h rfl ⟨8, .data⟩ (by simp) rfl
          have d1 := hcl 8 _ d8 rfl ⟨1, .data⟩ (by simp) rfl
          have d7 := hcl 8 _ d8 rfl ⟨7, .data⟩ (by simp) rfl
          have d2 := hcl 7 _ d7 rfl ⟨2, .data⟩ (by simp) rfl
          have d6 := hcl 7 _ d7 rfl ⟨6, .data⟩ (by simp) rfl
          have d5 := hcl 6 _ d6 rfl ⟨5, .data⟩ (by simp) rfl
          have d4 := hcl 5 _ d5 rfl ⟨4, .data⟩ (by simp) rfl
          have d3 := hcl 4 _ d4 rfl ⟨3, .data⟩ (by simp) rfl
          have : i = 0 ∨ i = 1 ∨ i = 2 ∨ i = 3 ∨ i = 4 ∨ i = 5 ∨ i = 6 ∨ i = 7 ∨ i = 8 ∨ i = 9 := by omega
          rcases this with rfl | rfl | rfl | rfl | rfl | rfl | rfl | rfl | rfl | rfl <;> first | (rw [d0] at hDi; cases hDi) | (rw [d1] at hDi; cases hDi) | (rw [d2] at hDi; cases hDi) | (rw [d3] at hDi; cases hDi) | (rw [d4] at hDi; cases hDi) | (rw [d5] at hDi; cases hDi) | (rw [d6] at hDi; cases hDi) | (rw [d7] at hDi; cases hDi) | (rw [d8] at hDi; cases hDi) | (rw [h] at hDi; cases hDi)
      obtain ⟨hBw, h7⟩ := hP.1 h9
      have hcell : ∀ {b o v}, W.cell? ⟨b, o, none⟩ = some v → W3.cell? ⟨b, o, none⟩ = some v := fun {b o v} h => (hBw.cell (p := ⟨b, o, none⟩) (World.block_lt_of_cell? _ _ h)).trans h
      have still : ∀ (i : Nat), i ≠ 7 → i ≠ 9 → (stepL D i 9 = false → Below W.heap.size W W3 ∧ (stepL D i 7 = true → CVR W3 (OwnO Xb (w.heap.size + 1) at_) (.vs (rcL (sortL K (partL LL n k)))) r)) ∧
        (stepL D i 9 = true → ∃ w2 at2, Below W.heap.size W w2 ∧ HTurn K Xb (w.heap.size + 1) at_ w2 W3 at2 (pushL K (runsF K n LL k) (k, sortL K (partL LL n k)))) := fun i h1 h2 => by
        have f7 : stepL D i 7 = D 7 := by unfold stepL; simp; omega
        have f9 : stepL D i 9 = D 9 := by unfold stepL; simp; omega
        rw [f7, f9]
        exact hP
      have : i = 0 ∨ i = 1 ∨ i = 2 ∨ i = 3 ∨ i = 4 ∨ i = 5 ∨ i = 6 ∨ i = 7 ∨ i = 8 ∨ i = 9 := by omega
      rcases this with rfl | rfl | rfl | rfl | rfl | rfl | rfl | rfl | rfl | rfl
      all_goals (simp only [List.getElem?_toArray, List.getElem?_cons_zero, List.getElem?_cons_succ, Option.some.injEq] at hop; subst hop)
      · have e := hA.keep 5 (by kernel_rfl)
        have c := hcell (J.ch)
        exact .inl ⟨r, W3, by simp, (by simp [execOp, e, go_sem, c]), fun _ _ => rfl, still _ (by omega) (by omega)⟩
      · have e := hA.keep 6 (by kernel_rfl)
        have c := hcell (cell_heap1 J.cn)
        exact .inl ⟨r, W3, by simp, (by simp [execOp, e, go_sem, c, e111]), fun _ _ => rfl, still _ (by omega) (by omega)⟩
      · have e := hA.keep 7 (by kernel_rfl)
        exact .inl ⟨r, W3, by simp, (by simp [execOp, e, go_sem, hpart]), fun _ _ => rfl, still _ (by omega) (by omega)⟩
      · have e := hA.keep 2 (by kernel_rfl)
        have c := hcell (J.ct)
        exact .inl ⟨r, W3, by simp, (by simp [execOp, e, go_sem, c]), fun _ _ => rfl, still _ (by omega) (by omega)⟩
      · have e3 := hA.was 3 21 rfl (hdep ⟨3, .data⟩ (by simp) rfl) (by simp)
        exact .inl ⟨r, W3, by simp, (by simp [execOp, e3, go_sem]), fun _ _ => rfl, still _ (by omega) (by omega)⟩
      · have e4 := hA.was 4 22 rfl (hdep ⟨4, .data⟩ (by simp) rfl) (by simp)
        exact .inl ⟨r, W3, by simp, (by simp [execOp, e4, go_sem]), fun _ _ => rfl, still _ (by omega) (by omega)⟩
      · have e5 := hA.was 5 23 rfl (hdep ⟨5, .data⟩ (by simp) rfl) (by simp)
        have c := hcell J.c1
        exact .inl ⟨r, W3, by simp, (by simp [execOp, e5, go_sem, c]), fun _ _ => rfl, still _ (by omega) (by omega)⟩
      · have e2 := hA.was 2 20 rfl (hdep ⟨2, .data⟩ (by simp) rfl) (by simp)
        have e6 := hA.was 6 24 rfl (hdep ⟨6, .data⟩ (by simp) rfl) (by simp)
        refine .inr ⟨19, #[part, kv], by simp, (by simp [execOp, e2, e6, go_sem]), ?_⟩
        have st : Stays (OwnO Xb (w.heap.size + 1) at_) (OwnO Xb (w.heap.size + 1) at_) W W3 := ⟨fun b _ h => hBw.block b h, fun b h => .inl h, hBw.size⟩
        have hs := FnC.calls canSort (c_oSort (partL LL n k) K hpok hK) W3 (OwnO Xb (w.heap.size + 1) at_) [part, kv] glo_none (fun b h => Nat.lt_of_lt_of_le (hOlt b h) hBw.size) (by
          simp only [DVRs, DVR, and_true]
          exact ⟨pvb.step st, kvb.step st⟩)
        refine Calls.mono hs ?_
        rintro e w4 ⟨v, rfl, hd, hB4⟩
        simp only [DVR] at hd
        refine ⟨v, rfl, fun j hj => ?_, fun _ => ⟨hBw.trans (hB4.mono hBw.size), fun _ => hd⟩, fun h => ?_⟩
        · have j7 : j ≠ 7 := fun e => by rw [e, hDi] at hj; cases hj
          have j8 : j ≠ 8 := fun e => by
            rw [e] at hj
            have := hcl 8 _ hj rfl ⟨7, .data⟩ (by simp) rfl
            rw [hDi] at this
            cases this
          match j, j7, j8 with
          | 0, _, _ => rfl
          | 1, _, _ => rfl
          | 2, _, _ => rfl
          | 3, _, _ => rfl
          | 4, _, _ => rfl
          | 5, _, _ => rfl
          | 6, _, _ => rfl
          | 7, h, _ => exact absurd rfl h
          | 8, _, h => exact absurd rfl h
          | j + 9, _, _ => rfl
        · have : stepL D 7 9 = D 9 := rfl
          rw [this, h9] at h
          cases h
      · have e1 := hA.was 1 19 rfl (hdep ⟨1, .data⟩ (by simp) rfl) (by simp)
        have e7 := hA.was 7 25 rfl (hdep ⟨7, .data⟩ (by simp) rfl) (by simp)
        have c8 := cells_of_one (h7 (hdep ⟨7, .data⟩ (by simp) rfl)).one
        unfold Value.cells at c8
        exact .inl ⟨r, W3, by simp, (by simp [execOp, e1, e7, go_sem, c8]), fun _ _ => rfl, still _ (by omega) (by omega)⟩
      · have e0 := hA.was 0 18 rfl (hdep ⟨0, .data⟩ (by simp) rfl) (by simp)
        have e8 := hA.was 8 26 rfl (hdep ⟨8, .data⟩ (by simp) rfl) (by simp)
        refine .inr ⟨40, #[.pointer (some ⟨w.heap.size + 1, 0, none⟩), .agg #[.int .i64 (k : Nat), r]], by simp, (by simp [execOp, e0, e8, go_sem]), ?_⟩
        have d7 := hcl 8 _ (hdep ⟨8, .data⟩ (by simp) rfl) rfl ⟨7, .data⟩ (by simp) rfl
        have H3 : HeapP K W3 Xb (w.heap.size + 1) at_ (runsF K n LL k) := H0.step (fun b _ h => hBw.block b h) (fun b h => .inl h) hBw.size
        refine Calls.mono (H3.push (R := (k, sortL K (partL LL n k))) hK (fun b h => Nat.lt_of_lt_of_le (hXlt b h) hBw.size) hok hR (by omega) (h7 d7)) ?_
        rintro e w4 ⟨rfl, at2, ht⟩
        exact ⟨r, rfl, fun _ _ => rfl, fun h => (by cases h), fun _ => ⟨W3, at2, hBw, ht⟩⟩
    case rdone =>
      intro D r a W4 hall hA hP
      obtain ⟨w2, at3, hBw, ht⟩ := hP.2 (hall 9 (by decide))
      have ha := hA.eq (goodR.apart (by kernel_rfl)) hall
      simp only [putsR, Act.put, List.setIfInBounds_toArray, List.set_cons_zero, List.set_cons_succ] at ha
      subst ha
      have hnW : nb < W.heap.size := (Array.getElem?_eq_some_iff.1 J.cn).1
      have same4 : ∀ b, b < W.heap.size → b ≠ w.heap.size + 1 → ¬ AtB at_ b → W4.heap[b]? = W.heap[b]? := fun b h1 h2 h3 => (ht.turn.heap b (Nat.lt_of_lt_of_le h1 hBw.size) h2 h3).trans (hBw.block b h1)
      have hn4 : W4.heap[nb]? = some (.cells #[.int .i64 (k : Nat)] 3 (0, 0)) := (same4 nb hnW (by omega) (fun h => J.nat nb h rfl)).trans J.cn
      have hc4 : W4.cell? ⟨w.heap.size + 1 + 1 + 1, 0, none⟩ = some (.int .i64 (k : Nat)) := by rw [e111]; exact cell_heap1 hn4
      have hf4 : W4.frozen? ⟨w.heap.size + 1 + 1 + 1, 0, none⟩ = false := by rw [e111]; exact frozen_heap1 hn4
      have hki : -9223372036854775808 ≤ (k : Int) + 1 ∧ (k : Int) + 1 ≤ 9223372036854775807 := by omega
      have HNB := Lib.hid hnbe
      have HK := Lib.hid hk
      have HX := Lib.hid hXb
      clear hnbe hk hXb e11 e111 hpart hmv hall hA hP
      gi_wp2
      have hnbe := HNB.out
      have hk := HK.out
      have hXb := HX.out
      rw [show w.heap.size + 1 + 1 + 1 = nb from hnbe.symm]
      obtain ⟨hb, hhb⟩ : ∃ hb, hb = w.heap.size + 1 := ⟨_, rfl⟩
      obtain ⟨hv', hhv⟩ : ∃ hv', hv' = w.heap.size + 2 := ⟨_, rfl⟩
      rw [← hhb, ← hhv] at J
      rw [← hhb] at ht H0 hOO hOlt same4 kvb
      have hone := one_setCell (u := .int .i64 ((k : Int) + 1)) hn4
      have hset : ∀ b, b ≠ nb → (W4.setCell ⟨nb, 0, none⟩ (.int .i64 ((k : Int) + 1))).heap[b]? = W4.heap[b]? := fun b hb => Below.heap_setCell W4 ⟨nb, 0, none⟩ _ b hb
      have hss : (W4.setCell ⟨nb, 0, none⟩ (.int .i64 ((k : Int) + 1))).heap.size = W4.heap.size := by simp [World.setCell]
      have hos : (W4.setCell ⟨nb, 0, none⟩ (.int .i64 ((k : Int) + 1))).os = W4.os ∧ (W4.setCell ⟨nb, 0, none⟩ (.int .i64 ((k : Int) + 1))).tape = W4.tape ∧ (W4.setCell ⟨nb, 0, none⟩ (.int .i64 ((k : Int) + 1))).output = W4.output := ⟨rfl, rfl, rfl⟩
      obtain ⟨W5, hW5⟩ : ∃ W5, W5 = W4.setCell ⟨nb, 0, none⟩ (.int .i64 ((k : Int) + 1)) := ⟨_, rfl⟩
      rw [← hW5] at hone hset hss hos ⊢
      have s1 := hBw.size
      have s2 := ht.turn.size
      have atge : ∀ b, AtB at_ b → W2.heap.size ≤ b := fun b h => by
        have h1 := (H0.row b h).2.2
        have h2 := J.nat b h
        rcases hm.own b ((J.o b).2 (.inr (.inr h))) with (h3 | h3) | h3 <;> omega
      have at3o : ∀ b, AtB at3 b → AtB at_ b ∨ W.heap.size ≤ b := fun b h => (ht.own b h).imp id (fun h => by omega)
      have Xn : Xb nb := by rw [hXb]; exact ⟨.inr rfl, hnW⟩
      have same5 : ∀ b, b < W.heap.size → b ≠ hb → ¬ AtB at_ b → b ≠ nb → W5.heap[b]? = W.heap[b]? := fun b h1 h2 h3 h4 => (hset b h4).trans (same4 b h1 h2 h3)
      have fix5 : ∀ {b o v}, W.cell? ⟨b, o, none⟩ = some v → b ≠ hb → b < W2.heap.size → b ≠ nb → W5.cell? ⟨b, o, none⟩ = some v := fun {b o v} h h2 h3 h4 => (cell_of_heap (same5 b (World.block_lt_of_cell? _ _ h) h2 (fun h => by have := atge b h; omega) h4)).trans h
      obtain ⟨Fo', hFo⟩ : ∃ Fo' : Bl, Fo' = ⟨fun b => b = nb ∨ b = hb ∨ AtB at3 b, fun b => Fo1.r b ∨ (W.heap.size ≤ b ∧ b < W4.heap.size)⟩ := ⟨_, rfl⟩
      have fo : ∀ b, Fo'.o b ↔ (b = nb ∨ b = hb ∨ AtB at3 b) := fun b => by rw [hFo]
      have fr : ∀ b, Fo'.r b ↔ (Fo1.r b ∨ (W.heap.size ≤ b ∧ b < W4.heap.size)) := fun b => by rw [hFo]
      have xx : ∀ b, XF Fo' nb b → Xb b ∨ W4.heap.size ≤ b := fun b h => by
        rcases h with h | rfl
        · rw [fr] at h
          by_cases hlt : b < W.heap.size
          · left; rw [hXb]; exact ⟨.inl (fun h2 => h (.inl h2)), hlt⟩
          · right
            by_cases h2 : b < W4.heap.size
            · exact absurd (.inr ⟨by omega, h2⟩) h
            · omega
        · exact .inl Xn
      have st : Stays (OwnO Xb hb at_) (OwnO (XF Fo' nb) hb at3) W W5 := ⟨fun b h hlt => same5 b hlt (fun e => h (.inr (.inl e))) (fun e => h (.inr (.inr e))) (fun e => h (.inl (by rw [e]; exact Xn))), fun b h => by
        rcases h with h | h | h
        · rcases xx b h with h | h
          · exact .inl (.inl h)
          · exact .inr (by omega)
        · exact .inl (.inr (.inl h))
        · rcases at3o b h with h | h
          · exact .inl (.inr (.inr h))
          · exact .inr h, by omega⟩
      refine ⟨Fo', Moves.toAdd (F := Fo1) ⟨hos.1.trans (ht.turn.os.trans hBw.os), hos.2.1.trans (ht.turn.tape.trans hBw.tape), hos.2.2.trans (ht.turn.output.trans hBw.output), by omega, fun b hlt hn => ?_, fun b h => ?_, fun b h => ?_⟩, at3, ?_⟩
      · rw [J.o] at hn
        exact same5 b hlt (fun e => hn (.inr (.inl e))) (fun e => hn (.inr (.inr e))) (fun e => hn (.inl e))
      · rw [fo] at h
        rcases h with h | h | h
        · exact .inl ((J.o b).2 (.inl h))
        · exact .inl ((J.o b).2 (.inr (.inl h)))
        · rcases at3o b h with h | h
          · exact .inl ((J.o b).2 (.inr (.inr h)))
          · exact .inr h
      · rw [fr] at h
        exact h.imp id (fun h => h.1)
      · have el : ∀ x : Value, (pre ++ [x]).length = k + 1 := fun x => by rw [hk]; simp
        have hp5 : HeapP K W5 (XF Fo' nb) hb at3 (runsF K n LL (k + 1)) := ht.heap.step (fun b hb' _ => hset b (fun e => hb' (by rw [e]; exact Xn))) xx (by omega)
        rw [el, ← hhb, ← hhv]
        refine ⟨fo, fun b h => ?_, fun b h => ?_, (fr _).2 (.inl J.rt), (fr _).2 (.inl J.rs), (fr _).2 (.inl J.rh), J.ne, fun b h => ?_, fix5 J.ct (by omega) (by omega) (by omega), fix5 J.c1 (by omega) (by omega) (by omega), fix5 J.ch (by omega) (by omega) (by omega), hone, kvb.step st, (J.rv.mono hOO).step st, hp5, fun j h => ?_⟩
        · rw [fo] at h
          rw [fr]
          rcases h with h | h | h
          · exact .inl (J.or_ b ((J.o b).2 (.inl h)))
          · exact .inl (J.or_ b ((J.o b).2 (.inr (.inl h))))
          · rcases at3o b h with h2 | h2
            · exact .inl (J.or_ b ((J.o b).2 (.inr (.inr h2))))
            · exact .inr ⟨h2, (ht.heap.row b h).1⟩
        · rw [fr] at h
          rcases h with h | h
          · have := J.lt b h; omega
          · omega
        · rcases at3o b h with h2 | h2
          · exact J.nat b h2
          · omega
        · by_cases e : j = k
          · rw [e]; exact hpl
          · exact J.pre j (by omega)
  case done =>
    rintro D xs Fo' W W' hD1 hD2 hD3 hm hS hsame hl hsz ⟨at_, J⟩ hdef
    have hct := J.ch
    go_wp2_with fail
    have hmb := (hm.below (n := w.heap.size) (by omega) (fun b hb => by rcases hb with h | h <;> omega))
    refine ⟨by simp, .inl ⟨D, _, rfl, run_takeDeferred hdef, ?_⟩⟩
    refine ⟨.pointer (some ⟨w.heap.size + 1, 0, none⟩), ?_, _, at_, xs.length, rfl, ?_, by omega, fun b h => ?_, ?_, hS, J.pre⟩
    · simp [results, Try.results37, go_sem]
    · exact (hB.trans (hmb.mono (Nat.le_refl _))).trans ((Moves.put (Fo := ⟨fun b => b = D, fun b => b = D⟩) rfl).below (by have := hm.size; omega) (fun b hb => by have : b = D := hb; omega))
    · rcases hm.own b ((J.o b).2 (.inr (.inr h))) with (h | h) | h <;> omega
    · refine J.heap.step (fun b hb hlt => World.putObj_heap_other (fun e => ?_)) (fun b h => .inl (.inl (fun h2 => ?_))) (by simp)
      · exact hb (.inl (by rw [e]; exact hD3))
      · have := hX b h
        rcases hm.rd b h2 with h3 | h3
        · exact h3.2 h
        · omega
end Go.Proofs.Ytdgjcdhomfhfpaa
namespace Go.Proofs.Ytdgjcdhomfhfpaa
set_option linter.unusedSimpArgs false
set_option linter.unusedVariables false

/-- runs that are not empty, with their numbers -/
def liveF : Nat → List (List (List V3)) → List Rn
  | _, [] => []
  | i, r :: S => if r = [] then liveF (i + 1) S else (i, r) :: liveF (i + 1) S
theorem liveF_mem : ∀ (S : List (List (List V3))) (i : Nat) (R : Rn), R ∈ liveF i S ↔ ∃ m, R.1 = i + m ∧ S[m]? = some R.2 ∧ R.2 ≠ []
  | [], i, R => by simp [liveF]
  | r :: S, i, R => by
    have ih := liveF_mem S (i + 1) R
    have back : (∃ m, R.1 = i + m ∧ (r :: S)[m]? = some R.2 ∧ R.2 ≠ []) ↔ (R = (i, r) ∧ r ≠ []) ∨ ∃ m, R.1 = i + 1 + m ∧ S[m]? = some R.2 ∧ R.2 ≠ [] := by
      constructor
      · rintro ⟨m, h1, h2, h3⟩
        cases m with
        | zero =>
          simp only [List.getElem?_cons_zero, Option.some.injEq] at h2
          left
          exact ⟨Prod.ext h1 h2.symm, by rw [h2]; exact h3⟩
        | succ m => exact .inr ⟨m, by omega, by simpa using h2, h3⟩
      · rintro (⟨rfl, h⟩ | ⟨m, h1, h2, h3⟩)
        · exact ⟨0, rfl, rfl, h⟩
        · exact ⟨m + 1, by omega, by simpa using h2, h3⟩
    rw [back]
    unfold liveF
    by_cases h : r = []
    · rw [if_pos h, ih]
      constructor
      · exact .inr
      · rintro (⟨_, h2⟩ | h2)
        · exact absurd h h2
        · exact h2
    · rw [if_neg h, List.mem_cons, ih]
      constructor
      · rintro (h2 | h2)
        · exact .inl ⟨h2, h⟩
        · exact .inr h2
      · rintro (⟨h2, _⟩ | h2)
        · exact .inl h2
        · exact .inr h2
theorem liveF_set : ∀ (S : List (List (List V3))) (i j : Nat) (t : List (List V3)), j < S.length → t ≠ [] → (liveF i (S.set j t)).Perm ((i + j, t) :: liveF i (S.set j []))
  | [], i, j, t, h, _ => by simp at h
  | r :: S, i, 0, t, _, ht => by
    simp only [List.set_cons_zero, liveF, if_neg ht, if_pos, Nat.add_zero]
    exact .refl _
  | r :: S, i, j + 1, t, h, ht => by
    have ih := liveF_set S (i + 1) j t (by simpa using h) ht
    rw [show i + 1 + j = i + (j + 1) by omega] at ih
    simp only [List.set_cons_succ, liveF]
    by_cases hr : r = []
    · rw [if_pos hr, if_pos hr]; exact ih
    · rw [if_neg hr, if_neg hr]
      exact (ih.cons (i, r)).trans (List.Perm.swap _ _ _)
theorem flat_split {S : List (List (List V3))} {j : Nat} {r : List (List V3)} (h : S[j]? = some r) (t : List (List V3)) : S.flatten = (S.take j).flatten ++ r ++ (S.drop (j + 1)).flatten ∧ (S.set j t).flatten = (S.take j).flatten ++ t ++ (S.drop (j + 1)).flatten := by
  obtain ⟨hj, hr⟩ := List.getElem?_eq_some_iff.1 h
  have e : ∀ x, (S.set j x) = S.take j ++ x :: S.drop (j + 1) := fun x => by rw [List.set_eq_take_append_cons_drop, if_pos hj]
  refine ⟨?_, ?_⟩
  · have e0 := e r
    have e1 : S.set j r = S := by rw [← hr]; simp
    rw [e1] at e0
    conv => lhs; rw [e0]
    simp
  · rw [e]; simp
/-- behind the rows pre; S is what is left of the runs, l the heap -/
structure MgJ (K : List K3) (LL pre : List (List V3)) (S : List (List (List V3))) (l : List Rn) : Prop where
  heap : Heap (leS K) dR l
  perm : l.Perm (liveF 0 S)
  ok : ∀ r ∈ S, RowsOk r
  st : Stab (cR K) LL (pre ++ S.flatten)
  asc : ∀ r ∈ S, r.Pairwise (fun x y => cR K x y ≤ 0)
  ap : pre.Pairwise (fun x y => cR K x y ≤ 0)
  le : ∀ x ∈ pre, ∀ y ∈ S.flatten, cR K x y ≤ 0
section
variable {K : List K3} {LL pre : List (List V3)} {S : List (List (List V3))} {l : List Rn}
theorem MgJ.oks (h : MgJ K LL pre S l) : ∀ R ∈ l, OkR R := fun R hR => by
  obtain ⟨m, h1, h2, h3⟩ := (liveF_mem S 0 R).1 (h.perm.subset hR)
  exact ⟨List.length_pos_iff.2 h3, h.ok _ (List.mem_of_getElem? h2)⟩
theorem MgJ.done (h : MgJ K LL pre S l) (h0 : l.length = 0) : sortL K LL = pre := by
  have hl : l = [] := List.length_eq_zero_iff.1 h0
  have hf : S.flatten = [] := by
    rw [List.eq_nil_iff_forall_not_mem]
    intro x hx
    obtain ⟨r, hr, hxr⟩ := List.mem_flatten.1 hx
    obtain ⟨m, hm⟩ := List.getElem?_of_mem hr
    have : (m, r) ∈ liveF 0 S := (liveF_mem S 0 (m, r)).2 ⟨m, by simp, hm, fun e => (by have e : r = [] := e; rw [e] at hxr; cases hxr)⟩
    rw [hl] at h
    have := h.perm.symm.subset this
    cases this
  have := h.st
  rw [hf, List.append_nil] at this
  exact sortL_uniq K LL pre this h.ap
theorem MgJ.step (h : MgJ K LL pre S l) (h0 : 0 < l.length) : ∃ hd t, (l.getD 0 dR).2 = hd :: t ∧ RowsOk (hd :: t) ∧
    ∃ S', MgJ K LL (pre ++ [hd]) S' (if t = [] then popL K l else pushL K (popL K l) ((l.getD 0 dR).1, t)) ∧ S'.flatten.length + 1 = S.flatten.length := by
  obtain ⟨p1, p2, p3⟩ := popL_heap h.heap h0
  obtain ⟨⟨j, r⟩, hR⟩ : ∃ R, R = l.getD 0 dR := ⟨_, rfl⟩
  rw [← hR] at p2 p3 ⊢
  have hm : (j, r) ∈ l := p2.subset (List.mem_cons_self)
  obtain ⟨m, h1, h2, h3⟩ := (liveF_mem S 0 (j, r)).1 (h.perm.subset hm)
  have h1 : j = 0 + m := h1
  rw [Nat.zero_add] at h1
  subst h1
  have h2 : S[j]? = some r := h2
  have h3 : r ≠ [] := h3
  obtain ⟨hd, t, rfl⟩ : ∃ hd t, r = hd :: t := by
    cases r with
    | nil => exact absurd rfl h3
    | cons a b => exact ⟨a, b, rfl⟩
  obtain ⟨f1, f2⟩ := flat_split h2 t
  obtain ⟨hj, hrj⟩ := List.getElem?_eq_some_iff.1 h2
  have hrm := List.mem_of_getElem? h2
  have hok := h.ok _ hrm
  have hasc := h.asc _ hrm
  rw [List.pairwise_cons] at hasc
  have F := fineO_cmpR K
  -- whatever comes after
  have other : ∀ (m : Nat) (r' : List (List V3)), S[m]? = some r' → m ≠ j → ∀ y ∈ r', cR K hd y ≤ 0 ∧ (m < j → cR K hd y < 0) := fun m r' hm hne y hy => by
    have hn : r' ≠ [] := fun e => by rw [e] at hy; cases hy
    have hml : (m, r') ∈ l := h.perm.symm.subset ((liveF_mem S 0 (m, r')).2 ⟨m, by simp, hm, hn⟩)
    have hmp : (m, r') ∈ popL K l := by
      rcases List.mem_cons.1 (p2.symm.subset hml) with e | e
      · injection e with e; exact absurd e hne
      · exact e
    have hle : cS K (j, hd :: t) (m, r') ≤ 0 := p3 _ hmp
    obtain ⟨h', t', rfl⟩ : ∃ h' t', r' = h' :: t' := by
      cases r' with
      | nil => exact absurd rfl hn
      | cons a b => exact ⟨a, b, rfl⟩
    have ha := h.asc _ (List.mem_of_getElem? hm)
    rw [List.pairwise_cons] at ha
    have hy' : cR K h' y ≤ 0 := by
      rcases List.mem_cons.1 hy with rfl | hy
      · have := F.refl y; show cmpR y y K ≤ 0; omega
      · exact ha.1 y hy
    have e1 : hdR ((j, hd :: t) : Rn) = hd := rfl
    have e2 : hdR ((m, h' :: t') : Rn) = h' := rfl
    unfold cS at hle
    rw [e1, e2] at hle
    have hh : cR K hd h' ≤ 0 ∧ (m < j → cR K hd h' < 0) := by
      show cmpR hd h' K ≤ 0 ∧ (m < j → cmpR hd h' K < 0)
      split at hle
      · rename_i hz
        refine ⟨by omega, fun hlt => ?_⟩
        exfalso
        unfold cmpI at hle
        simp only at hle
        (repeat' split at hle) <;> omega
      · exact ⟨hle, fun _ => by omega⟩
    refine ⟨F.trans _ _ _ hh.1 hy', fun hlt => ?_⟩
    have h4 := hh.2 hlt
    have h5 : cR K hd y ≤ 0 := F.trans _ _ _ hh.1 hy'
    by_cases h6 : cR K hd y = 0
    · exfalso
      have h7 : cR K y hd = 0 := by have this : cmpR y hd K = -cmpR hd y K := F.swap hd y; show cmpR y hd K = 0; have h6 : cmpR hd y K = 0 := h6; omega
      have h8 : cR K h' hd ≤ 0 := F.trans _ _ _ hy' (Int.le_of_eq h7)
      have h9 : cmpR h' hd K = -cmpR hd h' K := F.swap hd h'
      have h4 : cmpR hd h' K < 0 := h4
      have h8 : cmpR h' hd K ≤ 0 := h8
      omega
    · omega
  have tk : ∀ x ∈ (S.take j).flatten, cR K hd x < 0 := fun x hx => by
    obtain ⟨r', hr', hx'⟩ := List.mem_flatten.1 hx
    obtain ⟨m, hm⟩ := List.getElem?_of_mem hr'
    rw [List.getElem?_take] at hm
    split at hm
    · rename_i hlt
      exact (other m r' hm (by omega) x hx').2 hlt
    · cases hm
  have dr : ∀ x ∈ (S.drop (j + 1)).flatten, cR K hd x ≤ 0 := fun x hx => by
    obtain ⟨r', hr', hx'⟩ := List.mem_flatten.1 hx
    obtain ⟨m, hm⟩ := List.getElem?_of_mem hr'
    rw [List.getElem?_drop] at hm
    exact (other (j + 1 + m) r' hm (by omega) x hx').1
  have hmemset : ∀ r' ∈ S.set j t, r' ∈ S ∨ r' = t := fun r' h => List.mem_or_eq_of_mem_set h
  have okt : RowsOk t := ⟨by have := hok.1; simp only [List.length_cons] at this; omega, fun L hL => hok.2 L (List.mem_cons_of_mem _ hL)⟩
  -- the heap
  have P0 : (popL K l).Perm (liveF 0 (S.set j [])) := by
    have e : S = S.set j (hd :: t) := by rw [← hrj]; simp
    have := liveF_set S 0 j (hd :: t) hj (by simp)
    rw [← e, Nat.zero_add] at this
    exact (p2.trans (h.perm.trans this)).cons_inv
  refine ⟨hd, t, rfl, hok, S.set j t, ⟨?_, ?_, fun r' hr' => ?_, ?_, fun r' hr' => ?_, ?_, fun x hx y hy => ?_⟩, ?_⟩
  · split
    · exact p1
    · exact (pushL_heap p1 _).1
  · split
    · rename_i ht
      rw [ht]; exact P0
    · rename_i ht
      refine (pushL_heap p1 (j, t)).2.trans ?_
      have := liveF_set S 0 j t hj ht
      rw [Nat.zero_add] at this
      exact ((List.perm_append_singleton _ _).trans (P0.cons _)).trans this.symm
  · rcases hmemset r' hr' with h' | rfl
    · exact h.ok r' h'
    · exact okt
  · refine h.st.trans ?_
    rw [f1, f2, List.append_assoc pre [hd]]
    refine Stab.app (.refl _) ?_
    have : Stab (cR K) ((S.take j).flatten ++ [hd]) ([hd] ++ (S.take j).flatten) := Stab.swap F _ _ (fun x hx y hy => by
      have e : y = hd := by simpa using hy
      subst e
      have h1 : cmpR y x K < 0 := tk x hx
      have h2 : cmpR x y K = -cmpR y x K := F.swap y x
      show cmpR x y K ≠ 0
      omega)
    have := this.app (Stab.refl (c := cR K) (t ++ (S.drop (j + 1)).flatten))
    simpa [List.append_assoc] using this
  · rcases hmemset r' hr' with h' | rfl
    · exact h.asc r' h'
    · exact hasc.2
  · rw [List.pairwise_append]
    refine ⟨h.ap, by simp, fun x hx y hy => ?_⟩
    have e : y = hd := by simpa using hy
    subst e
    exact h.le x hx y (by rw [f1]; simp)
  · rw [f2] at hy
    rcases List.mem_append.1 hx with hx | hx
    · refine h.le x hx y ?_
      rw [f1]
      simp only [List.mem_append, List.mem_cons] at hy ⊢
      rcases hy with (hy | hy) | hy
      · exact .inl (.inl hy)
      · exact .inl (.inr (.inr hy))
      · exact .inr hy
    · have e : x = hd := by simpa using hx
      subst e
      rcases List.mem_append.1 hy with hy | hy
      · rcases List.mem_append.1 hy with hy | hy
        · have := tk y hy; omega
        · exact hasc.1 y hy
      · exact dr y hy
  · rw [f1, f2]
    simp only [List.length_append, List.length_cons]
    omega
theorem MgJ.pfx : ∀ (N : Nat) {pre : List (List V3)} {S : List (List (List V3))} {l : List Rn}, S.flatten.length ≤ N → MgJ K LL pre S l → ∃ rest, sortL K LL = pre ++ rest
  | N, pre, S, l, hN, h => by
    by_cases h0 : l.length = 0
    · exact ⟨[], by rw [h.done h0]; simp⟩
    · obtain ⟨hd, t, _, _, S', h', hl⟩ := h.step (by omega)
      match N with
      | 0 => omega
      | N + 1 =>
        obtain ⟨rest, hr⟩ := MgJ.pfx N (by omega) h'
        exact ⟨hd :: rest, by rw [hr]; simp⟩
theorem chunks_flat (LL : List (List V3)) (n : Nat) : ∀ k, ((List.range k).map fun j => partL LL n j).flatten = LL.take (k * n)
  | 0 => by simp
  | k + 1 => by
    rw [List.range_succ, List.map_append, List.flatten_append, chunks_flat LL n k]
    simp only [List.map_cons, List.map_nil, List.flatten_cons, List.flatten_nil, List.append_nil, partL]
    rw [Nat.add_mul, Nat.one_mul, List.take_add]
theorem liveF_range (f : Nat → List (List V3)) : ∀ (k i : Nat), (∀ j, j < k → f (i + j) ≠ []) → liveF i ((List.range k).map fun j => f (i + j)) = (List.range k).map fun j => (i + j, f (i + j))
  | 0, i, _ => rfl
  | k + 1, i, h => by
    rw [List.range_succ_eq_map, List.map_cons, List.map_map, List.map_cons, List.map_map]
    have e : ((fun j => f (i + j)) ∘ Nat.succ) = fun j => f (i + 1 + j) := by funext j; show f (i + (j + 1)) = _; rw [show i + (j + 1) = i + 1 + j by omega]
    have e2 : ((fun j => (i + j, f (i + j))) ∘ Nat.succ) = fun j => (i + 1 + j, f (i + 1 + j)) := by funext j; show (i + (j + 1), f (i + (j + 1))) = _; rw [show i + (j + 1) = i + 1 + j by omega]
    unfold liveF
    have h0 : f (i + 0) ≠ [] := h 0 (by omega)
    rw [if_neg h0, e, e2, liveF_range f k (i + 1) (fun j hj => by rw [show i + 1 + j = i + (j + 1) by omega]; exact h (j + 1) (by omega))]
    rfl
theorem MgJ.start {n k : Nat} (hn : 1 ≤ n) (hLL : RowsOk LL) (hk : LL.length ≤ k * n) (hj : ∀ j, j < k → j * n < LL.length) : MgJ K LL [] ((List.range k).map fun j => sortL K (partL LL n j)) (runsF K n LL k) ∧ ((List.range k).map fun j => sortL K (partL LL n j)).flatten.length = LL.length := by
  obtain ⟨h1, h2, h3⟩ := runsF_spec K n hn LL hLL k hj
  have ne : ∀ j, j < k → sortL K (partL LL n (0 + j)) ≠ [] := fun j hjk e => by
    have : (sortL K (partL LL n (0 + j))).length = 0 := by rw [e]; rfl
    rw [sortL_len, partL_len, Nat.zero_add] at this
    have := hj j hjk
    omega
  have hl := liveF_range (fun j => sortL K (partL LL n j)) k 0 ne
  simp only [Nat.zero_add] at hl
  have fl : ∀ k, Stab (cR K) ((List.range k).map fun j => partL LL n j).flatten ((List.range k).map fun j => sortL K (partL LL n j)).flatten := fun k => by
    induction k with
    | zero => exact .refl _
    | succ k ih =>
      rw [List.range_succ, List.map_append, List.map_append, List.flatten_append, List.flatten_append]
      refine ih.app ?_
      simpa using sortL_st K (partL LL n k)
  have ll : ∀ k, ((List.range k).map fun j => sortL K (partL LL n j)).flatten.length = ((List.range k).map fun j => partL LL n j).flatten.length := fun k => by
    induction k with
    | zero => rfl
    | succ k ih =>
      rw [List.range_succ, List.map_append, List.map_append, List.flatten_append, List.flatten_append, List.length_append, List.length_append, ih]
      simp [sortL_len]
  have e := chunks_flat LL n k
  rw [List.take_of_length_le hk] at e
  refine ⟨⟨h2, by rw [hl]; exact h3, fun r hr => ?_, ?_, fun r hr => ?_, .nil, fun x hx => by cases hx⟩, by rw [ll, e]⟩
  · simp only [List.mem_map, List.mem_range] at hr
    obtain ⟨j, _, rfl⟩ := hr
    exact sortL_ok (partL_ok hLL n j)
  · have := fl k
    rw [e] at this
    exact this
  · simp only [List.mem_map, List.mem_range] at hr
    obtain ⟨j, _, rfl⟩ := hr
    exact sortL_asc K _
end
end Go.Proofs.Ytdgjcdhomfhfpaa
namespace Go.Proofs.Ytdgjcdhomfhfpaa
open Go.RowKit Go.IntWalk
set_option linter.unusedSimpArgs false
set_option linter.unusedVariables false

/-- a new row, in blocks G -/
def RowG (G : Nat → Prop) (L : List V3) (w : World) (r : Value) : Prop := RowAt 0 L w r ∧ ∀ b o n c, r = .slice (some ⟨b, o, none⟩) n c → G b
theorem RowG.keep {G : Nat → Prop} {L : List V3} {w w' : World} {r : Value} (h : RowG G L w r) (hk : ∀ b, G b → w'.heap[b]? = w.heap[b]?) : RowG G L w' r := by
  obtain ⟨⟨h1, h2⟩, h3⟩ := h
  refine ⟨⟨h1, h2.imp id ?_⟩, h3⟩
  rintro ⟨g, cap, cur, e, h4, h5, h6⟩
  exact ⟨g, cap, cur, e, h4, (hk g (h3 _ _ _ _ e)).trans h5, h6⟩
theorem RowAt.toG {lo : Nat} {L : List V3} {w : World} {r : Value} (h : RowAt lo L w r) : RowG (fun b => lo ≤ b ∧ b < w.heap.size) L w r := by
  refine ⟨h.lo (Nat.zero_le _), fun b o n c e => ?_⟩
  obtain ⟨h1, ⟨h2, _⟩ | ⟨g, cap, cur, h2, h4, h5, h6⟩⟩ := h
  · rw [h2] at e; cases e
  · rw [h2] at e
    injection e with e
    injection e with e
    injection e with e
    subst e
    exact ⟨h4, (Array.getElem?_eq_some_iff.1 h5).1⟩
theorem c_cloneRows (LL : List (List V3)) (h : RowsOk LL) : FnC Try.prog 38 [.c (.vs (rcL LL))] (.c (.vs (rcL LL))) := by
  have h1 := h.1
  refine w38 (rcL LL) ⟨fun e => by rw [e], fun x1 e1 => ?_⟩
  subst e1
  refine ⟨fun el hel => ?_, ?_, fun x2 e2 => ?_⟩
  · simp only [rcL, List.mem_map] at hel
    obtain ⟨_, _, rfl⟩ := hel
    rfl
  · rw [rcL_len]; simp only [List.length_nil]; omega
  · rw [e2]; rfl
theorem rcL_tail {w : World} {X : Nat → Prop} {hd : List V3} {t : List (List V3)} {b o c : Nat} (h : CVR w X (.vs (rcL (hd :: t))) (.slice (some ⟨b, o, none⟩) (t.length + 1) c)) : CVR w X (.vs (rcL t)) (.slice (some ⟨b, o + 1, none⟩) t.length (c - 1)) := by
  rcases CVR_inv h with ⟨hnil, _⟩ | ⟨b', o', sz, c', g, h2, hsz, hc, hcell, hval⟩
  · cases hnil
  · injection h2 with h2 h3 h4
    injection h2 with h2
    injection h2 with h2 h5 _
    subst h2 h5 h4
    have h1 : sz = 1 := (hsz [.vs (vc hd)] (List.mem_cons_self)).symm
    subst h1
    rw [rcL_len, List.length_cons] at hc
    rw [← rcL_len t]
    refine .vs _ b (o + 1) 1 _ (fun i f => g (i + 1) f) (fun el hel => hsz el (List.mem_cons_of_mem _ hel)) (by rw [rcL_len]; omega) (fun i el hi f cv hf => ?_) (fun i el hi f cv hf => hval (i + 1) el hi f cv hf)
    have := hcell (i + 1) el hi f cv hf
    rw [show o + 1 + i * 1 + f = o + (i + 1) * 1 + f by omega]
    exact this
theorem canCloneRows : CanEnter Try.prog 38 := canEnter_of Try.func38 (by kernel_rfl) (by kernel_rfl)
/-- a sorter, to be read, apart from X -/
def SortR (K : List K3) (LL : List (List V3)) (n : Nat) (X : Nat → Prop) (w : World) (sb : Nat) : Prop :=
  1 ≤ n ∧ n ≤ 65536 ∧ ¬ X sb ∧ ∃ kv rv, w.cell? ⟨sb, 0, none⟩ = some (.int .i64 (n : Nat)) ∧ w.cell? ⟨sb, 1, none⟩ = some kv ∧ w.cell? ⟨sb, 2, none⟩ = some rv ∧ CVR w X (.vs (kc K)) kv ∧ CVR w X (.vs (rcL LL)) rv
def RowsH (K : List K3) (LL : List (List V3)) (n tb : Nat) (Fo : Nat → Prop) (W : World) : Prop :=
  ¬ Fo tb ∧ ((W.cell? ⟨tb, 0, none⟩ = some (.pointer none) ∧ LL = []) ∨ ∃ sb, W.cell? ⟨tb, 0, none⟩ = some (.pointer (some ⟨sb, 0, none⟩)) ∧ SortR K LL n Fo W sb)
def RowsE (K : List K3) (LL : List (List V3)) (pre : List Value) (x : Value) (G : Nat → Prop) (W : World) : Prop :=
  ∃ L, (sortL K LL)[pre.length]? = some L ∧ RowG G L W x
theorem exists_min (P : Nat → Prop) (h : ∃ m, P m) : ∃ m, P m ∧ ∀ k, P k → m ≤ k := by
  obtain ⟨m, hm⟩ := h
  induction m using Nat.strongRecOn with
  | ind m ih =>
    by_cases hex : ∃ k, k < m ∧ P k
    · obtain ⟨k, hk, hp⟩ := hex
      exact ih k hk hp
    · exact ⟨m, hm, fun k hk => by
        by_cases h : k < m
        · exact absurd ⟨k, h, hk⟩ hex
        · omega⟩
open Classical in
noncomputable def leastN (P : Nat → Prop) : Nat := if h : ∃ m, P m then Classical.choose (exists_min P h) else 0
theorem leastN_spec {P : Nat → Prop} {m : Nat} (h : P m) : P (leastN P) ∧ leastN P ≤ m := by
  have hex : ∃ m, P m := ⟨m, h⟩
  unfold leastN
  rw [dif_pos hex]
  have := Classical.choose_spec (exists_min P hex)
  exact ⟨this.1, this.2 m h⟩
/-- between two rows; m are left -/
def RowsI (K : List K3) (LL : List (List V3)) (J : CJ) (Fo : Bl) (W0 : World) (hb m : Nat) (wr : World) : Prop :=
  ∃ (pre : List Value) (pre' : List (List V3)) (Fo1 : Bl) (at_ : Option (Nat × Nat)) (l : List Rn) (S : List (List (List V3))), J pre Fo1 wr ∧ Moves Fo Fo1 W0 wr ∧ pre.length = pre'.length ∧ S.flatten.length = m ∧ pre.length + m = LL.length ∧ MgJ K LL pre' S l ∧
    l.length ≤ LL.length ∧ HeapP K wr Fo1.o hb at_ l ∧ W0.heap.size ≤ hb ∧ ¬ Fo1.r hb ∧ ∀ b, AtB at_ b → ¬ Fo1.r b ∧ W0.heap.size ≤ b
set_option maxRecDepth 100000 in
set_option maxHeartbeats 4000000 in
theorem rows_iter (tb : Nat) (K : List K3) (hK : K.length ≤ Lim) (LL : List (List V3)) (hLL : RowsOk LL) (n : Nat) :
    IterW Try.prog 36 #[.pointer (some ⟨tb, 0, none⟩)] LL.length (RowsE K LL) (fun pre _ => pre.length = LL.length) (fun _ _ => True) (RowsH K LL n tb) := by
  intro W0 l J Jx Fo hH cJ cJx hY h0
  obtain ⟨ftb, hH⟩ := hH
  rw [← callsIn_wide (n := 0)]
  refine callsIn_of_wp Try.func36 rfl trivial ?_ rfl
  simp only [Try.ntmps36, List.size_toArray, List.length_cons, List.length_nil, Nat.reduceAdd, Nat.reduceSub, Array.replicate_succ, Array.replicate_zero, List.push_toArray, List.append_toArray, List.nil_append, List.cons_append]
  rcases hH with ⟨hc, rfl⟩ | ⟨sb, hc, hn1, hn2, hsX, kv, rv, k0, k1, k2, ck, cr⟩
  · gi_wp2
    refine bodyPost_ret (results_none rfl _ _ _) rfl ?_
    exact ⟨⟨_, rfl⟩, [], Fo, .refl _ _, .inl ⟨rfl, h0⟩⟩
  · have hFlt : ∀ b, Fo.o b → b < W0.heap.size := fun b h => cJ.lt _ _ _ _ h0 (cJ.sub _ _ _ _ h0 h)
    gi_wp2
    refine regionIn_vals (by kernel_rfl) (fun _ => trivial) rfl (fun f args w R h => callsIn_wide.2 h) (by kernel_rfl)
      (fun (r : Value × Value) i => match i with | 0 => .pointer (some ⟨sb, 0, none⟩) | 1 => .pointer (some ⟨sb, 0, none⟩) | 2 => .pointer (some ⟨sb, 0, none⟩) | 3 => .pointer (some ⟨sb, 2, none⟩) | 4 => rv | 5 => r.1 | 6 => r.2 | 7 => r.2 | _ => undef)
      (fun r D w' => Below W0.heap.size W0 w' ∧ (D 6 = false → D 5 = true → CVR w' Fo.o (.vs (rcL LL)) r.1) ∧
        (D 6 = true → ∃ hb at' k, r.2 = .pointer (some ⟨hb, 0, none⟩) ∧ W0.heap.size ≤ hb ∧ (∀ b, AtB at' b → W0.heap.size ≤ b) ∧ HeapP K w' Fo.o hb at' (runsF K n LL k) ∧ LL.length ≤ k * n ∧ ∀ j, j < k → j * n < LL.length))
      (undef, undef) ⟨(Below.refl _ _).drew, fun _ h => (by cases h), fun h => (by cases h)⟩ ?steps ?rdone
    case steps =>
      intro D i op r a W3 hop hDi hcl hdep hA hP
      have hi : i < 8 := (Array.getElem?_eq_some_iff.1 hop).1
      obtain ⟨hBw, h5, h6⟩ := hP
      have hcell : ∀ {b o v}, W0.cell? ⟨b, o, none⟩ = some v → W3.cell? ⟨b, o, none⟩ = some v := fun {b o v} h => (hBw.cell (p := ⟨b, o, none⟩) (World.block_lt_of_cell? _ _ h)).trans h
      have still : ∀ (i : Nat), i ≠ 5 → i ≠ 6 → (Below W0.heap.size W0 W3 ∧ (stepL D i 6 = false → stepL D i 5 = true → CVR W3 Fo.o (.vs (rcL LL)) r.1) ∧
        (stepL D i 6 = true → ∃ hb at' k, r.2 = .pointer (some ⟨hb, 0, none⟩) ∧ W0.heap.size ≤ hb ∧ (∀ b, AtB at' b → W0.heap.size ≤ b) ∧ HeapP K W3 Fo.o hb at' (runsF K n LL k) ∧ LL.length ≤ k * n ∧ ∀ j, j < k → j * n < LL.length)) := fun i h1 h2 => by
        have f7 : stepL D i 5 = D 5 := by unfold stepL; simp; omega
        have f9 : stepL D i 6 = D 6 := by unfold stepL; simp; omega
        rw [f7, f9]
        exact ⟨hBw, h5, h6⟩
      have : i = 0 ∨ i = 1 ∨ i = 2 ∨ i = 3 ∨ i = 4 ∨ i = 5 ∨ i = 6 ∨ i = 7 := by omega
      rcases this with rfl | rfl | rfl | rfl | rfl | rfl | rfl | rfl
      all_goals (simp only [List.getElem?_toArray, List.getElem?_cons_zero, List.getElem?_cons_succ, Option.some.injEq] at hop; subst hop)
      · have e := hA.keep 1 (by kernel_rfl)
        have c := hcell hc
        exact .inl ⟨r, W3, by simp, (by simp [execOp, e, go_sem, c]), fun _ _ => rfl, still _ (by omega) (by omega)⟩
      · have e := hA.keep 1 (by kernel_rfl)
        have c := hcell hc
        exact .inl ⟨r, W3, by simp, (by simp [execOp, e, go_sem, c]), fun _ _ => rfl, still _ (by omega) (by omega)⟩
      · have e1 := hA.was 1 8 rfl (hdep ⟨1, .data⟩ (by simp) rfl) (by simp)
        exact .inl ⟨r, W3, by simp, (by simp [execOp, e1, go_sem]), fun _ _ => rfl, still _ (by omega) (by omega)⟩
      · have e1 := hA.was 2 9 rfl (hdep ⟨2, .data⟩ (by simp) rfl) (by simp)
        exact .inl ⟨r, W3, by simp, (by simp [execOp, e1, go_sem]), fun _ _ => rfl, still _ (by omega) (by omega)⟩
      · have e1 := hA.was 3 10 rfl (hdep ⟨3, .data⟩ (by simp) rfl) (by simp)
        have c := hcell k2
        exact .inl ⟨r, W3, by simp, (by simp [execOp, e1, go_sem, c]), fun _ _ => rfl, still _ (by omega) (by omega)⟩
      · have e1 := hA.was 4 11 rfl (hdep ⟨4, .data⟩ (by simp) rfl) (by simp)
        have d6 : D 6 = false := by
          cases h : D 6
          · rfl
          · have := hcl 6 _ h rfl ⟨5, .data⟩ (by simp) rfl
            rw [hDi] at this; cases this
        have d7 : D 7 = false := by
          cases h : D 7
          · rfl
          · have := hcl 7 _ h rfl ⟨6, .data⟩ (by simp) rfl
            rw [d6] at this; cases this
        refine .inr ⟨38, #[rv], by simp, (by simp [execOp, e1, go_sem]), ?_⟩
        refine Calls.mono (FnC.calls canCloneRows (c_cloneRows LL hLL) W3 Fo.o [rv] glo_none (fun b h => Nat.lt_of_lt_of_le (hFlt b h) hBw.size) (by
          simp only [DVRs, DVR, and_true]
          exact cr.step ⟨fun b _ h => hBw.block b h, fun b h => .inl h, hBw.size⟩)) ?_
        rintro e w4 ⟨v, rfl, hd, hB4⟩
        simp only [DVR] at hd
        refine ⟨(v, r.2), rfl, fun j hj => ?_, hBw.trans (hB4.mono hBw.size), fun _ _ => hd, fun h => ?_⟩
        · have j5 : j ≠ 5 := fun e => by rw [e, hDi] at hj; cases hj
          match j, j5 with
          | 0, _ => rfl
          | 1, _ => rfl
          | 2, _ => rfl
          | 3, _ => rfl
          | 4, _ => rfl
          | 5, h => exact absurd rfl h
          | 6, _ => rfl
          | 7, _ => rfl
          | j + 8, _ => rfl
        · have : stepL D 5 6 = D 6 := rfl
          rw [this, d6] at h; cases h
      · have e0 := hA.was 0 7 rfl (hdep ⟨0, .data⟩ (by simp) rfl) (by simp)
        have d5 := hdep ⟨5, .data⟩ (by simp) rfl
        have e5 := hA.was 5 12 rfl d5 (by simp)
        have d7 : D 7 = false := by
          cases h : D 7
          · rfl
          · have := hcl 7 _ h rfl ⟨6, .data⟩ (by simp) rfl
            rw [hDi] at this; cases this
        refine .inr ⟨37, #[.pointer (some ⟨sb, 0, none⟩), r.1], by simp, (by simp [execOp, e0, e5, go_sem]), ?_⟩
        refine Calls.mono (runs_calls K hK LL hLL n hn1 hn2 W3 Fo.o (fun b h => Nat.lt_of_lt_of_le (hFlt b h) hBw.size) sb hsX kv r.1 (hcell k0) (hcell k1) (ck.step ⟨fun b _ h => hBw.block b h, fun b h => .inl h, hBw.size⟩) (h5 hDi d5)) ?_
        rintro e w4 ⟨hb, at', k, rfl, hB4, g1, g2, g3, g4, g5⟩
        have := hBw.size
        refine ⟨(r.1, _), rfl, fun j hj => ?_, hBw.trans (hB4.mono hBw.size), fun h => (by cases h), fun _ => ⟨hb, at', k, rfl, by omega, fun b h => by have := g2 b h; omega, g3, g4, g5⟩⟩
        have j6 : j ≠ 6 := fun e => by rw [e, hDi] at hj; cases hj
        have j7 : j ≠ 7 := fun e => by rw [e, d7] at hj; cases hj
        match j, j6, j7 with
        | 0, _, _ => rfl
        | 1, _, _ => rfl
        | 2, _, _ => rfl
        | 3, _, _ => rfl
        | 4, _, _ => rfl
        | 5, _, _ => rfl
        | 6, h, _ => exact absurd rfl h
        | 7, _, h => exact absurd rfl h
        | j + 8, _, _ => rfl
      · have e1 := hA.was 6 13 rfl (hdep ⟨6, .data⟩ (by simp) rfl) (by simp)
        exact .inl ⟨r, W3, by simp, (by simp [execOp, e1, go_sem]), fun _ _ => rfl, still _ (by omega) (by omega)⟩
    case rdone =>
      intro D r a W4 hall hA hP
      obtain ⟨hB4, _, h6⟩ := hP
      obtain ⟨hb, at', k, hr2, g1, g2, g3, g4, g5⟩ := h6 (hall 6 (by decide))
      have ha := hA.eq (goodR.apart (by kernel_rfl)) hall
      simp only [putsR, Act.put, List.setIfInBounds_toArray, List.set_cons_zero, List.set_cons_succ, hr2] at ha
      subst ha
      obtain ⟨m1, m2⟩ := MgJ.start (K := K) hn1 hLL g4 g5
      clear hA hall h6
      gi_wp2
      gi_loopw [4] (fun i wr => ∃ m, RowsI K LL J Fo W0 hb m wr) (fun _ wr => leastN fun m => RowsI K LL J Fo W0 hb m wr)
      case atStart =>
        have hkl : k ≤ LL.length := by
          by_cases hk0 : k = 0
          · omega
          · have h1 := g5 (k - 1) (by omega)
            have h2 : (k - 1) * 1 ≤ (k - 1) * n := Nat.mul_le_mul_left _ hn1
            omega
        have rn := (runsF_spec K n hn1 LL hLL k g5).1
        refine ⟨_, [], [], Fo, at', _, _, cJ.stays _ _ _ _ h0 hB4.size (fun b hb => hB4.block b (cJ.lt _ _ _ _ h0 hb)), Moves.of_below hB4, rfl, rfl, by rw [m2]; simp, m1, by omega, g3, g1, fun h => ?_, fun b h => ⟨fun h2 => ?_, g2 b h⟩⟩
        · have := cJ.lt _ _ _ _ h0 h; omega
        · have := cJ.lt _ _ _ _ h0 h2; have := g2 b h; omega
      case round =>
        obtain ⟨m, hm⟩ := hrel
        obtain ⟨M, hMe⟩ : ∃ M, M = leastN fun m => RowsI K LL J Fo W0 hb m wr := ⟨_, rfl⟩
        have hsp := (leastN_spec (P := fun m => RowsI K LL J Fo W0 hb m wr) hm).1
        rw [← hMe] at hsp ⊢
        clear hm hMe
        obtain ⟨pre, pre', Fo1, at_, l, S, hJ, hmv, hlen, hfl, hsum, hM, hll, hH, gb, nb_, na⟩ := hsp
        obtain ⟨sa, sc, hlc⟩ := hH.len
        have hLb := hLL.1
        by_cases h0l : 0 < l.length
        · have hli : (0 : Int) < (l.length : Int) := by omega
          have hX : ∀ b, Fo1.o b → b < wr.heap.size := fun b h => cJ.lt _ _ _ _ hJ (cJ.sub _ _ _ _ hJ h)
          obtain ⟨hd, t, hR2, hokhd, S', hM', hfl'⟩ := hM.step h0l
          clear m1 m2 hr2
          gi_wp2_with fail
          refine ⟨trivial, rfl, callsIn_wide.2 ((hH.pop hK hX hM.oks h0l (by omega)).mono ?_)⟩
          rintro e w1 ⟨q, rfl, at2, ht, hq⟩
          rw [hR2] at hq
          obtain ⟨no, hno⟩ : ∃ no, no = (l.getD 0 dR).1 := ⟨_, rfl⟩
          rw [← hno] at hM' ⊢
          rcases CVR_inv hq with ⟨hnil, _⟩ | ⟨qb, qo, qsz, qc, qg, rfl, hqsz, hqc, hqcell, hqval⟩
          · cases hnil
          have q1 : qsz = 1 := (hqsz [.vs (vc hd)] (List.mem_cons_self)).symm
          subst q1
          obtain ⟨hqX, hqx⟩ := hqcell 0 [.vs (vc hd)] rfl 0 _ rfl
          have hqv := hqval 0 [.vs (vc hd)] rfl 0 _ rfl
          simp only [Nat.zero_mul, Nat.add_zero] at hqx
          rw [rcL_len, List.length_cons] at hqc ⊢
          obtain ⟨T, hT⟩ : ∃ T, T = t.length := ⟨_, rfl⟩
          rw [← hT] at hqc ⊢
          have hql : qb < w1.heap.size := World.block_lt_of_cell? _ _ hqx
          have hqn : qb ≠ w1.heap.size ∧ ¬ w1.heap.size = qb ∧ qb < w1.heap.size + 1 := by omega
          obtain ⟨hqn1, hqn2, hqn3⟩ := hqn
          have hTi : (0 : Int) < ((T + 1 : Nat) : Int) := by omega
          have HT := Lib.hid hT
          have HNO := Lib.hid hno
          clear hT hno
          gi_wp2_with fail
          obtain ⟨Wc, hWc⟩ : ∃ Wc, Wc = w1.alloc (.cells #[.int .i64 (no : Nat), .slice (some ⟨qb, qo, none⟩) (T + 1) qc] 80) := ⟨_, rfl⟩
          have hWz : Wc.heap.size = w1.heap.size + 1 := by rw [hWc]; simp
          have hWb : Below w1.heap.size w1 Wc := by rw [hWc]; exact (Below.refl _ _).alloc (Nat.le_refl _) _
          have hWr : Wc.heap[w1.heap.size]? = some (.cells #[.int .i64 (no : Nat), .slice (some ⟨qb, qo, none⟩) (T + 1) qc] 80 (0, 0)) := by rw [hWc]; exact World.alloc_heap_new w1 _
          rw [← hWc]
          have hts := ht.turn.size
          refine ⟨trivial, rfl, callsIn_wide.2 (Calls.mono (FnC.calls canClone (c_cloneQ Wc.heap.size hd (hokhd.at 0).1) Wc (fun _ => False) [qg 0 0] glo_none (fun _ h => h.elim) ?_) ?_)⟩
          · simp only [DVRs, DVR, and_true]
            refine .sem _ _ hqv.one (fun w' hs hsame => ⟨hqv.step ⟨fun b _ hlt => (hsame b id (by omega)).trans (hWb.block b hlt), fun _ h => h.elim, by omega⟩, hs⟩)
          rintro e w2 ⟨x, rfl, hxd, hB2⟩
          have hxr := DVR_sem hxd
          have hz2 := hB2.size
          have hXG := hxr.toG
          obtain ⟨G, hG⟩ : ∃ G : Nat → Prop, G = fun b => Wc.heap.size ≤ b ∧ b < w2.heap.size := ⟨_, rfl⟩
          rw [← hG] at hXG
          have same2 : ∀ b, b < wr.heap.size → b ≠ hb → ¬ AtB at_ b → w2.heap[b]? = wr.heap[b]? := fun b h1 h2 h3 => (hB2.block b (by omega)).trans ((hWb.block b (by omega)).trans (ht.turn.heap b h1 h2 h3))
          have hFr : ∀ b, Fo1.r b → b < wr.heap.size := fun b h => cJ.lt _ _ _ _ hJ h
          have hJ2 := cJ.stays _ _ _ w2 hJ (by omega) (fun b hb' => same2 b (hFr b hb') (fun e => nb_ (by rw [← e]; exact hb')) (fun h => (na b h).1 hb'))
          have hmz := hmv.size
          have hmv2 : Moves Fo Fo1 W0 w2 := ⟨hB2.os.trans (hWb.os.trans (ht.turn.os.trans hmv.os)), hB2.tape.trans (hWb.tape.trans (ht.turn.tape.trans hmv.tape)), hB2.output.trans (hWb.output.trans (ht.turn.output.trans hmv.output)), by omega,
            fun b hlt hn => (same2 b (by omega) (by omega) (fun h => by have := (na b h).2; omega)).trans (hmv.heap b hlt hn), hmv.own, hmv.rd⟩
          have hG1 : ∀ b, G b → W0.heap.size ≤ b ∧ b < w2.heap.size ∧ ¬ Fo1.r b := fun b h => by
            rw [hG] at h
            exact ⟨by omega, h.2, fun h2 => by have := hFr b h2; omega⟩
          have hmv3 : Moves Fo (Fo1.add G) W0 w2 := ⟨hmv2.os, hmv2.tape, hmv2.output, hmv2.size, hmv2.heap, fun b h => h.elim (hmv2.own b) (fun h => .inr (hG1 b h).1), fun b h => h.elim (hmv2.rd b) (fun h => .inr (hG1 b h).1)⟩
          have hEx : RowsE K LL pre x G w2 := by
            obtain ⟨rest, hr⟩ := hM'.pfx _ (Nat.le_refl _)
            refine ⟨hd, ?_, hXG⟩
            rw [hr, hlen]
            simp
          have hY2 := hY pre Fo1 x G w2 hJ2 hmv2 hG1 hEx (by omega)
          obtain ⟨fn, tmps, assign, body, hy, hR⟩ := hY2
          have HM3 := Lib.hid hmv3
          clear hmv3 hEx hJ2 hXG
          gi_wp2_with fail
          refine ⟨rfl, hR.mono ?_⟩
          rintro e W3 ⟨Fo', hm3, ⟨rfl, hJ3⟩ | ⟨rfl, hJx3⟩⟩
          · have hrn : ¬ (Fo1.add G).o w1.heap.size := fun h => by
              rcases h with h | h
              · have := hX _ h; omega
              · rw [hG] at h; omega
            have hW3 : W3.heap[w1.heap.size]? = some (.cells #[.int .i64 (no : Nat), .slice (some ⟨qb, qo, none⟩) (T + 1) qc] 80 (0, 0)) := (hm3.heap _ (by omega) hrn).trans ((hB2.block _ (by omega)).trans hWr)
            have hr0 : W3.cell? ⟨w1.heap.size, 0, none⟩ = some (.int .i64 (no : Nat)) := by simp [World.cell?, hW3]
            have hr1 : W3.cell? ⟨w1.heap.size, 1, none⟩ = some (.slice (some ⟨qb, qo, none⟩) (T + 1) qc) := by simp [World.cell?, hW3]
            have hrf : W3.frozen? ⟨w1.heap.size, 1, none⟩ = false := by simp [World.frozen?, hW3]
            have hm3z := hm3.size
            have hrbz : w1.heap.size < w2.heap.size := by omega
            have nr : ¬ Fo'.r w1.heap.size := fun h => by
              rcases hm3.rd _ h with (h | h) | h
              · have := hFr _ h; omega
              · rw [hG] at h; omega
              · omega
            have gnhb : ¬ Fo'.r hb := fun h => by
              have := hH.lt
              rcases hm3.rd _ h with (h | h) | h
              · exact nb_ h
              · rw [hG] at h; omega
              · omega
            have at2n : ∀ b, AtB at2 b → ¬ Fo'.r b ∧ W0.heap.size ≤ b := fun b h => by
              have h1 := (ht.heap.row b h).1
              refine ⟨fun h2 => ?_, ?_⟩
              · rcases hm3.rd _ h2 with (h3 | h3) | h3
                · rcases ht.own b h with h4 | h4
                  · exact (na b h4).1 h3
                  · have := hFr _ h3; omega
                · rw [hG] at h3; omega
                · omega
              · rcases ht.own b h with h4 | h4
                · exact (na b h4).2
                · omega
            obtain ⟨X2, hX2⟩ : ∃ X2 : Nat → Prop, X2 = fun b => (Fo1.add G).o b ∨ b = w1.heap.size := ⟨_, rfl⟩
            obtain ⟨X3, hX3⟩ : ∃ X3 : Nat → Prop, X3 = fun b => Fo'.o b ∨ b = w1.heap.size := ⟨_, rfl⟩
            have x2 : ∀ b, X2 b → Fo1.o b ∨ w1.heap.size ≤ b := fun b h => by
              rw [hX2] at h
              rcases h with (h | h) | h
              · exact .inl h
              · rw [hG] at h; right; omega
              · right; omega
            have x3 : ∀ b, X3 b → X2 b ∨ w2.heap.size ≤ b := fun b h => by
              rw [hX3] at h
              rw [hX2]
              rcases h with h | h
              · exact (hm3.own b h).imp .inl id
              · exact .inl (.inr h)
            have s12 : ∀ b, b < w1.heap.size → w2.heap[b]? = w1.heap[b]? := fun b h => (hB2.block b (by omega)).trans (hWb.block b h)
            have s23 : ∀ b, ¬ X2 b → b < w2.heap.size → W3.heap[b]? = w2.heap[b]? := fun b h hlt => hm3.heap b hlt (fun h2 => h (by rw [hX2]; exact .inl h2))
            have oo : ∀ {A B : Nat → Prop} {n : Nat}, (∀ b, A b → B b ∨ n ≤ b) → ∀ b, OwnO A hb at2 b → OwnO B hb at2 b ∨ n ≤ b := fun {A B n} h b h1 => by
              rcases h1 with h1 | h1
              · exact (h b h1).imp .inl id
              · exact .inl (.inr h1)
            have HP3 : HeapP K W3 X3 hb at2 (popL K l) := (ht.heap.step (w' := w2) (X' := X2) (fun b _ h => s12 b h) x2 (by omega)).step s23 x3 hm3z
            have hq3 : CVR W3 (OwnO X3 hb at2) (.vs (rcL (hd :: t))) (.slice (some ⟨qb, qo, none⟩) (T + 1) qc) := by
              have hq' := hq
              rw [rcL_len, List.length_cons, ← HT.out] at hq'
              exact (hq'.step (w' := w2) ⟨fun b _ h => s12 b h, oo x2, by omega⟩).step ⟨fun b h hlt => s23 b (fun h2 => h (.inl h2)) hlt, oo x3, hm3z⟩
            have st3 : ∀ (v : Value) b, ¬ X3 b → (W3.setCell ⟨w1.heap.size, 1, none⟩ v).heap[b]? = W3.heap[b]? := fun v b h => Below.heap_setCell W3 ⟨w1.heap.size, 1, none⟩ v b (fun e => h (by rw [hX3]; exact .inr e))
            have sz3 : ∀ v : Value, (W3.setCell ⟨w1.heap.size, 1, none⟩ v).heap.size = W3.heap.size := fun v => by simp [World.setCell]
            have xf : ∀ b, Fo'.o b → X3 b ∨ W3.heap.size ≤ b := fun b h => by rw [hX3]; exact .inl (.inl h)
            have HPs : ∀ v, HeapP K (W3.setCell ⟨w1.heap.size, 1, none⟩ v) Fo'.o hb at2 (popL K l) := fun v => HP3.step (fun b h _ => st3 v b h) xf (by rw [sz3]; exact Nat.le_refl _)
            have hqs : ∀ v, CVR (W3.setCell ⟨w1.heap.size, 1, none⟩ v) (OwnO Fo'.o hb at2) (.vs (rcL (hd :: t))) (.slice (some ⟨qb, qo, none⟩) (T + 1) qc) := fun v => hq3.step ⟨fun b h _ => st3 v b (fun h2 => h (.inl h2)), oo xf, by rw [sz3]; exact Nat.le_refl _⟩
            have hJs : ∀ v, J (pre ++ [x]) Fo' (W3.setCell ⟨w1.heap.size, 1, none⟩ v) := fun v => cJ.stays _ _ _ _ hJ3 (by rw [sz3]; exact Nat.le_refl _) (fun b h => Below.heap_setCell W3 ⟨w1.heap.size, 1, none⟩ v b (fun e => nr (by have e : b = w1.heap.size := e; rw [← e]; exact h)))
            have hM2 := HM3.out.trans hm3
            have hMs : ∀ v, Moves Fo Fo' W0 (W3.setCell ⟨w1.heap.size, 1, none⟩ v) := fun v => ⟨hM2.os, hM2.tape, hM2.output, by rw [sz3]; exact hM2.size, fun b hlt hn => (Below.heap_setCell W3 ⟨w1.heap.size, 1, none⟩ v b (fun e => by have e : b = w1.heap.size := e; omega)).trans (hM2.heap b hlt hn), hM2.own, hM2.rd⟩
            have hpl := (popL_heap hM.heap h0l).2.1.length_eq
            rw [List.length_cons] at hpl
            have key : ∀ (w5 : World) (at5 : Option (Nat × Nat)) (l5 : List Rn), J (pre ++ [x]) Fo' w5 → Moves Fo Fo' W0 w5 → MgJ K LL (pre' ++ [hd]) S' l5 → l5.length ≤ LL.length → HeapP K w5 Fo'.o hb at5 l5 → (∀ b, AtB at5 b → ¬ Fo'.r b ∧ W0.heap.size ≤ b) →
                (∃ m, RowsI K LL J Fo W0 hb m w5) ∧ (leastN fun m => RowsI K LL J Fo W0 hb m w5) < M := fun w5 at5 l5 a1 a2 a3 a4 a5 a6 => by
              have hi : RowsI K LL J Fo W0 hb S'.flatten.length w5 := ⟨pre ++ [x], pre' ++ [hd], Fo', at5, l5, S', a1, a2, by simp [hlen], rfl, by simp only [List.length_append, List.length_cons, List.length_nil]; omega, a3, a4, a5, gb, gnhb, a6⟩
              have := (leastN_spec (P := fun m => RowsI K LL J Fo W0 hb m w5) hi).2
              exact ⟨⟨_, hi⟩, by omega⟩
            have HK5 := Lib.hid key
            have HM' := Lib.hid hM'
            have HP := Lib.hid hpl
            clear key hM' hpl hX2 hX3 hG
            by_cases hT0 : T = 0
            · have ht0 : t = [] := List.length_eq_zero_iff.1 (by rw [← HT.out]; exact hT0)
              have hM5 := HM'.out
              rw [if_pos ht0] at hM5
              have HM5 := Lib.hid hM5
              clear hM5 ht0
              subst hT0
              gi_wp2_with fail
              have hpl := HP.out
              exact HK5.out _ at2 _ (hJs _) (hMs _) HM5.out (by omega) (HPs _) at2n
            · have hT1 : (0 : Int) < (T : Int) := by omega
              gi_wp2_with fail
              have hT := HT.out
              have hno := HNO.out
              have hpl := HP.out
              have ht0 : ¬ t = [] := fun e => hT0 (by rw [hT, e]; rfl)
              have hM5 := HM'.out
              rw [if_neg ht0] at hM5
              have okt : RowsOk t := ⟨by have := hokhd.1; simp only [List.length_cons] at this; omega, fun L hL => hokhd.2 L (List.mem_cons_of_mem _ hL)⟩
              have tl := rcL_tail (by rw [hT] at hqs; exact hqs (.slice (some ⟨qb, qo + 1, none⟩) T (qc - 1))) 
              rw [← hT] at tl
              refine ⟨trivial, rfl, callsIn_wide.2 (Calls.mono ((HPs _).push (R := (no, t)) hK (fun b h => cJ.lt _ _ _ _ (hJs (.slice (some ⟨qb, qo + 1, none⟩) T (qc - 1))) (cJ.sub _ _ _ _ (hJs (.slice (some ⟨qb, qo + 1, none⟩) T (qc - 1))) h)) (fun R hR => hM.oks R ((popL_heap hM.heap h0l).2.1.subset (List.mem_cons_of_mem _ hR))) ⟨by show 0 < t.length; omega, okt⟩ (by omega) tl) ?_)⟩
              rintro e w5 ⟨rfl, at3, ht5⟩
              gi_wp2_with fail
              refine HK5.out _ at3 _ (cJ.stays _ _ _ _ (hJs _) ht5.turn.size (fun b h => ht5.turn.heap b (cJ.lt _ _ _ _ (hJs (.slice (some ⟨qb, qo + 1, none⟩) T (qc - 1))) h) (fun e => gnhb (by rw [← e]; exact h)) (fun h2 => (at2n b h2).1 h))) ?_ hM5 (by rw [pushL_len]; omega) ht5.heap (fun b h => ?_)
              · have hm5 := hMs (.slice (some ⟨qb, qo + 1, none⟩) T (qc - 1))
                have := hm5.size
                exact ⟨ht5.turn.os.trans hm5.os, ht5.turn.tape.trans hm5.tape, ht5.turn.output.trans hm5.output, Nat.le_trans this ht5.turn.size, fun b hlt hn => (ht5.turn.heap b (by omega) (by omega) (fun h => by have := (at2n b h).2; omega)).trans (hm5.heap b hlt hn), hm5.own, hm5.rd⟩
              · rcases ht5.own b h with h1 | h1
                · exact at2n b h1
                · rw [sz3] at h1
                  have := (hMs undef).size
                  rw [sz3] at this
                  exact ⟨fun h2 => by have := cJ.lt _ _ _ _ hJ3 h2; omega, by omega⟩
          · gi_wp2_with fail
            refine bodyPost_ret (results_none rfl _ _ _) rfl ?_
            exact ⟨⟨_, rfl⟩, _, Fo', HM3.out.trans hm3, .inr ⟨trivial, hJx3⟩⟩
        · have hli : ¬ (0 : Int) < (l.length : Int) := by omega
          gi_wp2_with fail
          go_end0
          have hd := hM.done (by omega)
          have hl2 := sortL_len K LL
          rw [hd] at hl2
          exact ⟨⟨_, rfl⟩, pre, Fo1, hmv, .inl ⟨by omega, hJ⟩⟩
end Go.Proofs.Ytdgjcdhomfhfpaa
namespace Go.Proofs.Ytdgjcdhomfhfpaa
open Go.RowKit Go.IntWalk
set_option linter.unusedSimpArgs false
set_option linter.unusedVariables false

section
variable {P : Program}
theorem run_append_where (w : World) (base : Nat) (t ty e : TypeId) (i : TypeInfo) (z : Value) (size bytes : Nat) (ht : P.underlying t = some (.slice e)) (hi : P.info? e = some i) (hz : i.zero = some z)
    (hsize : i.size = size) (hby : i.bytes = bytes) (hzs : z.cells.size = size) (hsz : 0 < size)
    (v : Value) (n : Nat) (xs : List Value) (hown : w.ownsRow base e size v n xs)
    (a : Addr) (m c : Nat) (news : List Value) (hl : news.length = m * size) (hnews : ∀ j u, news[j]? = some u → w.cell? (a.add j) = some u) (h1 : ∀ u ∈ news, u.oneCell' = true)
    (h63 : n + m ≤ maxLen) (hbytes : (n + m) * bytes ≤ 140737488355328) (hbase : base ≤ w.heap.size) :
    ∃ v' w', (Builtin.append_ #[t, t] ty #[v, .slice (some a) m c]).run P w = .ok v' w' ∧ w'.ownsRow base e size v' (n + m) (xs ++ news) ∧ w.grownBy w' v.ownBlock ∧
      ∀ g, v'.ownBlock = some g → v.ownBlock = some g ∨ w.heap.size ≤ g := by
  have own := run_append_own (P := P) w base t ty e i z size bytes ht hi hz hsize hby hzs hsz v n xs hown a m c news hl hnews h1 h63 hbytes hbase
  obtain ⟨v', w', hr, h2, h3, h4⟩ := own
  refine ⟨v', w', hr, h2, h3, ?_⟩
  rcases hown.2 with ⟨rfl, rfl⟩ | ⟨g, cap, cur, rfl, hbg, hg, hnc, hcm, hcs, htake⟩
  · have hx : xs = [] := List.eq_nil_of_length_eq_zero (by simpa using hown.1)
    subst hx
    obtain ⟨v2, w2, hr2, k2, _, _⟩ := run_append_own (P := P) w w.heap.size t ty e i z size bytes ht hi hz hsize hby hzs hsz _ 0 [] (World.ownsRow_nil w _ e size) a m c news hl hnews h1 h63 hbytes (Nat.le_refl _)
    rw [hr] at hr2
    injection hr2 with e1 e2
    subst e1
    exact fun g hg => .inr (k2.lt g hg).1
  · by_cases hroom : n + m ≤ cap
    · obtain ⟨w2, hr2, _, _⟩ := run_append_fits (P := P) w base t ty e i size ht hi hsize g n cap xs hown a m c news hl hnews h1 hroom
      rw [hr] at hr2
      injection hr2 with e1 e2
      subst e1
      exact fun g' hg' => .inl hg'
    · subst hsize
      subst hby
      have holds : ∀ j u, xs[j]? = some u → w.cell? ((⟨g, 0, none⟩ : Addr).add j) = some u := hown.cells (g := g) rfl
      have hsmall : n + m ≤ 9223372036854775807 := by simp only [maxLen] at h63; omega
      have hr2 := run_append_grow (P := P) w t ty e i z ht hi hz ⟨g, 0, none⟩ n cap xs hown.1 holds a m c news hl hnews (by omega) (by omega) (growslice_fits (by omega) hbytes)
      rw [hr] at hr2
      injection hr2 with e1 e2
      subst e1
      intro g' hg'
      simp only [Value.ownBlock, Option.some.injEq] at hg'
      exact .inr (by omega)
theorem wpListIn_append_where {F : Fence} {n : Nat} (w : World) {ops : Array Oper} {rest : List Oper} {o : Oper} {a : Act} {Q : Exit → Act → World → Prop}
    (hg : o.guard = none) (s x : Operand) (t : TypeId) (hop : o.op = Op.call { callee := Callee.builtin Builtin.append, args := #[s, x], argTypes := #[t, t] })
    (base : Nat) (e : TypeId) (i : TypeInfo) (z : Value) (size bytes : Nat) (h1 : P.underlying t = some (.slice e)) (h2 : P.info? e = some i) (h3 : i.zero = some z) (h4 : i.size = size) (h5 : i.bytes = bytes) (h6 : z.cells.size = size) (h7 : 0 < size)
    (v : Value) (k : Nat) (xs : List Value) (hs : a.eval s = v) (hown : w.ownsRow base e size v k xs) (ad : Addr) (m c : Nat) (news : List Value) (hx : a.eval x = .slice (some ad) m c) (hn : news.length = m * size)
    (hc : ∀ j u, news[j]? = some u → w.cell? (ad.add j) = some u) (h1c : ∀ u ∈ news, u.oneCell' = true) (b1 : k + m ≤ maxLen) (b2 : (k + m) * bytes ≤ 140737488355328) (b3 : base ≤ w.heap.size)
    (hK : ∀ v' w', w'.ownsRow base e size v' (k + m) (xs ++ news) → w.grownBy w' v.ownBlock → (∀ g, v'.ownBlock = some g → v.ownBlock = some g ∨ w.heap.size ≤ g) → wpListIn F n P ops Q rest (a.put o.dst v') w') :
    wpListIn F n P ops Q (o :: rest) a w := by
  refine wpListIn_plain hg fun K hK' => ?_
  obtain ⟨v', w', hrun, r1, r2, r3⟩ := run_append_where (P := P) w base t o.type e i z size bytes h1 h2 h3 h4 h5 h6 h7 v k xs hown ad m c news hn hc h1c b1 b2 b3
  unfold Oper.wpIn
  refine ⟨?_, ?_⟩
  · simp [Oper.about, hop, resolve, Target.leads, Sem.run_pure]
  · rw [Oper.semAt_plain F _ _ (by rw [hop]; intro c hc'; cases hc')]
    simp [execOp, hop, resolve, invoke, builtin, hs, hx, hrun, Result.andThen]
    exact hK' _ _ (hK v' w' r1 r2 r3)
end
theorem iRow : (Try.prog.info? 34).map (fun i => (i.zero, i.size, i.bytes)) = some (some (.slice none 0 0), 1, 24) := by kernel_rfl

/-- what a loop that gathers rows has so far, in a variable vb of its own -/
structure OutJ (K : List K3) (LL : List (List V3)) (vb base : Nat) (pre : List Value) (Fo : Bl) (W : World) : Prop where
  lt : ∀ b, Fo.r b → b < W.heap.size
  sub : ∀ b, Fo.o b → Fo.r b
  ov : Fo.o vb
  cell : ∃ a c, W.heap[vb]? = some (.cells #[.slice a pre.length c] 23 (0, 0)) ∧ W.ownsRow base 34 1 (.slice a pre.length c) pre.length pre ∧ ∀ g, (Value.slice a pre.length c).ownBlock = some g → Fo.o g ∧ g ≠ vb
  rows : ∀ (i : Nat) (x : Value), pre[i]? = some x → ∃ L, (sortL K LL)[i]? = some L ∧ RowG (fun b => Fo.r b ∧ ¬ Fo.o b ∧ base ≤ b) L W x
theorem OutJ.cons (K : List K3) (LL : List (List V3)) (vb base : Nat) : Cons (OutJ K LL vb base) := by
  refine ⟨fun pre Fo W W' h hz hs => ?_, fun pre Fo W b h hb => h.lt b hb, fun pre Fo W b h hb => h.sub b hb⟩
  refine ⟨fun b hb => Nat.lt_of_lt_of_le (h.lt b hb) hz, h.sub, h.ov, ?_, fun i x hx => ?_⟩
  · obtain ⟨a, c, h1, ⟨h2, h3⟩, h4⟩ := h.cell
    refine ⟨a, c, (hs _ (h.sub _ h.ov)).trans h1, ⟨h2, h3.imp id ?_⟩, h4⟩
    rintro ⟨g, cap, cur, e, k1, k2, k3⟩
    exact ⟨g, cap, cur, e, k1, (hs g (h.sub _ (h4 g (by rw [e]; rfl)).1)).trans k2, k3⟩
  · obtain ⟨L, h1, h2⟩ := h.rows i x hx
    exact ⟨L, h1, h2.keep fun b hb => hs b hb.1⟩
theorem RowG.mono {P Q : Nat → Prop} {L : List V3} {w : World} {r : Value} (h : RowG P L w r) (hPQ : ∀ b, P b → Q b) : RowG Q L w r := ⟨h.1, fun b o n c e => hPQ b (h.2 b o n c e)⟩
theorem own_form {W : World} {base e size n : Nat} {v : Value} {xs : List Value} (h : W.ownsRow base e size v n xs) : ∃ a c, v = .slice a n c := by
  rcases h.2 with ⟨rfl, rfl⟩ | ⟨g, cap, cur, rfl, _⟩
  · exact ⟨_, _, rfl⟩
  · exact ⟨_, _, rfl⟩
/-- one row more -/
theorem OutJ.more {K : List K3} {LL : List (List V3)} {vb base : Nat} {pre : List Value} {Fo1 : Bl} {G : Nat → Prop} {W : World} (J : OutJ K LL vb base pre Fo1 W) (W0 : World) (hbase : base ≤ W0.heap.size)
    (hGb : ∀ b, G b → W0.heap.size ≤ b ∧ b < W.heap.size ∧ ¬ Fo1.r b) {x : Value} {L : List V3} (hL : (sortL K LL)[pre.length]? = some L) (hxG : RowG G L W x)
    {v v' : Value} {w' : World} (hvb : W.heap[vb]? = some (.cells #[v] 23 (0, 0))) (hg : ∀ g, v.ownBlock = some g → Fo1.o g ∧ g ≠ vb) (o : Obj)
    (ho : w'.ownsRow base 34 1 v' (pre.length + 1) (pre ++ [x])) (hgr : (W.alloc o).grownBy w' v.ownBlock) (hwh : ∀ g, v'.ownBlock = some g → v.ownBlock = some g ∨ W.heap.size + 1 ≤ g) :
    ∃ Fo', Moves (Fo1.add G) Fo' W (w'.setCell ⟨vb, 0, none⟩ v') ∧ OutJ K LL vb base (pre ++ [x]) Fo' (w'.setCell ⟨vb, 0, none⟩ v') := by
  have hvl : vb < W.heap.size := J.lt _ (J.sub _ J.ov)
  have gz := hgr.size
  rw [World.size_alloc] at gz
  have hsz : (w'.setCell ⟨vb, 0, none⟩ v').heap.size = w'.heap.size := by simp [World.setCell]
  have gb : ∀ b, b < W.heap.size → v.ownBlock ≠ some b → w'.heap[b]? = W.heap[b]? := fun b h1 h2 => (hgr.block b (by rw [World.size_alloc]; omega) (fun e => h2 e.symm)).trans (Below.heap_alloc _ _ _ h1)
  have hvb' : w'.heap[vb]? = some (.cells #[v] 23 (0, 0)) := (gb vb hvl (fun e => (hg vb e).2 rfl)).trans hvb
  have nv : v'.ownBlock ≠ some vb := fun e => by
    rcases hwh vb e with h | h
    · exact (hg vb h).2 rfl
    · omega
  have same : ∀ b, b < W.heap.size → ¬ Fo1.o b → (w'.setCell ⟨vb, 0, none⟩ v').heap[b]? = W.heap[b]? := fun b h1 h2 => (Below.heap_setCell _ _ _ _ (fun e => h2 (by have e : b = vb := e; rw [e]; exact J.ov))).trans (gb b h1 (fun e => h2 (hg b e).1))
  obtain ⟨a', c', hv'⟩ := own_form ho
  have hlt := ho.lt
  refine ⟨⟨fun b => Fo1.o b ∨ v'.ownBlock = some b, fun b => Fo1.r b ∨ G b ∨ v'.ownBlock = some b⟩, ⟨hgr.os, hgr.tape, hgr.output, by omega, fun b h1 h2 => same b h1 (fun h => h2 (.inl h)), fun b h => ?_, fun b h => ?_⟩, ⟨fun b h => ?_, fun b h => ?_, .inl J.ov, ⟨a', c', ?_, ?_, fun g h => ⟨.inr ?_, ?_⟩⟩, fun i y hy => ?_⟩⟩
  · rcases h with h | h
    · exact .inl (.inl h)
    · rcases hwh b h with h | h
      · exact .inl (.inl (hg b h).1)
      · exact .inr (by omega)
  · rcases h with h | h | h
    · exact .inl (.inl h)
    · exact .inl (.inr h)
    · rcases hwh b h with h | h
      · exact .inl (.inl (J.sub _ (hg b h).1))
      · exact .inr (by omega)
  · rcases h with h | h | h
    · have := J.lt b h; omega
    · have := (hGb b h).2.1; omega
    · have := (hlt b h).2; omega
  · rcases h with h | h
    · exact .inl (J.sub b h)
    · exact .inr (.inr h)
  · have := one_setCell (u := v') hvb'
    rw [this, hv']
    simp
  · have := ownsRow_setCell_other ho (a := ⟨vb, 0, none⟩) nv v'
    rw [hv'] at this ⊢
    simpa using this
  · rw [hv']
    simpa using h
  · intro e
    rw [e] at h
    refine nv ?_
    rw [hv']
    simpa using h
  · have nb : ∀ b, b < W.heap.size → ¬ Fo1.o b → v'.ownBlock ≠ some b := fun b h1 h2 e => by
      rcases hwh b e with h | h
      · exact h2 (hg b h).1
      · omega
    by_cases hi : i < pre.length
    · rw [List.getElem?_append_left hi] at hy
      obtain ⟨L', h1, h2⟩ := J.rows i y hy
      refine ⟨L', h1, (h2.keep (fun b hb => same b (J.lt b hb.1) hb.2.1)).mono fun b hb => ⟨.inl hb.1, fun h => h.elim hb.2.1 (nb b (J.lt b hb.1) hb.2.1), hb.2.2⟩⟩
    · have hi2 : i = pre.length := by
        have := (List.getElem?_eq_some_iff.1 hy).1
        rw [List.length_append, List.length_cons, List.length_nil] at this
        omega
      subst hi2
      have e : y = x := by simpa using hy.symm
      subst e
      have nG : ∀ b, G b → ¬ Fo1.o b := fun b hb h => (hGb b hb).2.2 (J.sub b h)
      refine ⟨L, hL, (hxG.keep (fun b hb => same b (hGb b hb).2.1 (nG b hb))).mono fun b hb => ⟨.inr (.inl hb), fun h => h.elim (nG b hb) (nb b (hGb b hb).2.1 (nG b hb)), by have := (hGb b hb).1; omega⟩⟩
theorem OutJ.le {K : List K3} {LL : List (List V3)} {vb base : Nat} {pre : List Value} {Fo : Bl} {W : World} (J : OutJ K LL vb base pre Fo W) : pre.length ≤ LL.length := by
  by_cases h0 : pre.length = 0
  · omega
  · obtain ⟨L, h1, _⟩ := J.rows (pre.length - 1) (pre[pre.length - 1]'(by omega)) (List.getElem?_eq_getElem (by omega))
    have := (List.getElem?_eq_some_iff.1 h1).1
    rw [sortL_len] at this
    omega
end Go.Proofs.Ytdgjcdhomfhfpaa
namespace Go.Proofs.Ytdgjcdhomfhfpaa
open Go.RowKit Go.IntWalk
set_option linter.unusedSimpArgs false
set_option linter.unusedVariables false
attribute [local go_sem] Oper.semAt_some

set_option maxHeartbeats 1000000 in
theorem rows_calls (w : World) (s : Value) (h1 : s.oneCell' = true) : Calls Try.prog 21 #[s] w fun e w' => e = .returned (.func (.func 36) #[] #[.pointer (some ⟨w.heap.size, 0, none⟩)]) ∧ w' = w.alloc (.cells #[s] 24) := by
  have hc1 := cells_of_one h1
  go_enter Try.func21, Try.ntmps21
  go_wp2
  go_ret
  exact ⟨rfl, rfl⟩
theorem func_ty {P : Program} {t : TypeId} (h : (match P.underlying t with | some (.func _ _ _) => true | _ => false) = true) : ∃ ps rs b, P.underlying t = some (.func ps rs b) := by
  cases hu : P.underlying t with
  | none => rw [hu] at h; cases h
  | some d =>
    rw [hu] at h
    cases d <;> first | exact ⟨_, _, _, rfl⟩ | cases h
theorem run_eql_func_nil {P : Program} (w : World) (t : TypeId) (f : Fn) (a b : Array Value) (h : (match P.underlying t with | some (.func _ _ _) => true | _ => false) = true) :
    (binOp .eql t (.func f a b) .nilFunc).run P w = .ok (.bool false) w := by
  obtain ⟨ps, rs, v, hu⟩ := func_ty h
  have key : ∀ d, (Op.equalIn (d + 1) t (.func f a b) .nilFunc).run P w = .ok false w := fun d => by simp [Op.equalIn, run_underlying hu]
  simp only [binOp]
  simp [Op.equal, Op.maxDepth, key 9999]
theorem canRows1 : CanEnter Try.prog 36 := canEnter_of Try.func36 (by kernel_rfl) (by kernel_rfl)
theorem RowsE.keep {K : List K3} {LL : List (List V3)} (pre : List Value) (x : Value) (G : Nat → Prop) (W W' : World) (h : RowsE K LL pre x G W) (_ : W.heap.size ≤ W'.heap.size) (hs : ∀ b, G b → W'.heap[b]? = W.heap[b]?) : RowsE K LL pre x G W' := by
  obtain ⟨L, h1, h2⟩ := h
  exact ⟨L, h1, h2.keep hs⟩
theorem out_cv {W : World} {base k c : Nat} {a : Option Addr} {xs : List Value} {M : List (List V3)} (ho : W.ownsRow base 34 1 (.slice a k c) k xs) (hk : k = M.length)
    (hr : ∀ (i : Nat) (x : Value), xs[i]? = some x → ∃ L, M[i]? = some L ∧ RowG (fun b => base ≤ b) L W x) : CVR W (fun b => b < base) (.vs (rS (RowAt base) M)) (.slice a k c) := by
  have hlen := ho.1
  rw [Nat.mul_one] at hlen
  rcases ho.2 with ⟨e, h0⟩ | ⟨g, cap, cur, e, hlo, hg, hcap, hmax, hsz, htake⟩
  · injection e with e1 e2 e3
    subst e1
    have : M = [] := List.length_eq_zero_iff.1 (by omega)
    subst this
    subst e2 e3
    exact .nil none
  · have hcells := ho.cells (g := g) (by rw [e]; rfl)
    injection e with e1 e2 e3
    subst e1 e3
    have hl : (rS (RowAt base) M).length = k := by rw [rS_len, hk]
    rw [← hl]
    refine .vs _ g 0 1 c (fun i _ => xs.getD i undef) (rS_sz M) (by omega) (fun i el hi f cv hf => ?_) (fun i el hi f cv hf => ?_)
    all_goals
      have hiM : i < M.length := by
        have := (List.getElem?_eq_some_iff.1 hi).1
        rw [rS_len] at this
        exact this
      obtain ⟨x, hx⟩ : ∃ x, xs[i]? = some x := ⟨xs[i]'(by omega), List.getElem?_eq_getElem _⟩
      have hgd : xs.getD i undef = x := by rw [List.getD_eq_getElem?_getD, hx]; rfl
      obtain ⟨L, hL, hG⟩ := hr i x hx
      have hel : el = [.sem (RowAt base L)] := by
        have : (rS (RowAt base) M)[i]? = some [.sem (RowAt base L)] := by simp [rS, hL]
        rw [hi] at this
        exact Option.some.inj this
      subst hel
      have hf0 : f = 0 := by
        have := (List.getElem?_eq_some_iff.1 hf).1
        simp at this
        exact this
      subst hf0
    · refine ⟨by omega, ?_⟩
      have := hcells i x hx
      rw [Addr.add_lit] at this
      rw [hgd, Nat.mul_one, Nat.add_zero]
      exact this
    · have e4 : cv = .sem (RowAt base L) := by simpa using hf.symm
      rw [e4, hgd]
      refine .sem _ x hG.1.one (fun w' hs ha => ?_)
      have hG' := hG
      obtain ⟨⟨q1, q2⟩, q3⟩ := hG'
      refine ⟨q1, q2.imp id ?_⟩
      rintro ⟨g', cap', cur', e', k1, k2, k3⟩
      have hb := q3 _ _ _ _ e'
      exact ⟨g', cap', cur', e', hb, (ha g' (by omega) (Array.getElem?_eq_some_iff.1 k2).1).trans k2, k3⟩
/-- a sorter, or none -/
def SortN (K : List K3) (LL : List (List V3)) (n : Nat) (X : Nat → Prop) (w : World) (s : Value) : Prop :=
  (s = .pointer none ∧ LL = []) ∨ ∃ sb, s = .pointer (some ⟨sb, 0, none⟩) ∧ sb < w.heap.size ∧ SortR K LL n X w sb
theorem SortN.rowsH {K : List K3} {LL : List (List V3)} {n : Nat} {w W : World} {s : Value} {tb : Nat} {Fo : Nat → Prop} (h : SortN K LL n (fun _ => False) w s) (hB : Below w.heap.size w W) (hF : ∀ b, Fo b → w.heap.size ≤ b) (ht : ¬ Fo tb) (hc : W.cell? ⟨tb, 0, none⟩ = some s) : RowsH K LL n tb Fo W := by
  refine ⟨ht, ?_⟩
  rcases h with ⟨rfl, h0⟩ | ⟨sb, rfl, hlt, n1, n2, _, kv, rv, c0, c1, c2, ck, cr⟩
  · exact .inl ⟨hc, h0⟩
  · have st : Stays (fun _ => False) Fo w W := ⟨fun b _ h => hB.block b h, fun b h => .inr (hF b h), hB.size⟩
    exact .inr ⟨sb, hc, n1, n2, fun h => by have := hF _ h; omega, kv, rv, (hB.cell (p := ⟨sb, 0, none⟩) hlt).trans c0, (hB.cell (p := ⟨sb, 1, none⟩) hlt).trans c1, (hB.cell (p := ⟨sb, 2, none⟩) hlt).trans c2, ck.step st, cr.step st⟩
set_option maxRecDepth 100000 in
set_option maxHeartbeats 4000000 in
theorem all_calls (K : List K3) (hK : K.length ≤ Lim) (LL : List (List V3)) (hLL : RowsOk LL) (hL2 : LL.length ≤ 65536) (n : Nat) (w : World) (s : Value) (h1 : s.oneCell' = true) (hs : SortN K LL n (fun _ => False) w s) :
    Calls Try.prog 15 #[s] w fun e w' => ∃ v, e = .returned (.tuple #[v, .bool true]) ∧ Below w.heap.size w w' ∧ CVR w' (fun b => b < w.heap.size) (.vs (rS (RowAt w.heap.size) (sortL K LL))) v := by
  have hc1 := cells_of_one h1
  have t23 := Try.underlying23
  obtain ⟨i0, hi, hz0, hz1, hz2⟩ := info_parts iRow
  have qf : ∀ (w : World) (f : Fn) (a b : Array Value), (binOp .eql 50 (.func f a b) .nilFunc).run Try.prog w = .ok (.bool false) w := fun w f a b => run_eql_func_nil w _ f a b (by kernel_rfl)
  refine calls_marks Try.func15 rfl ?_
  simp only [Try.ntmps15, List.size_toArray, List.length_cons, List.length_nil, Nat.reduceAdd, Nat.reduceSub, Array.replicate_succ, Array.replicate_zero, List.push_toArray, List.append_toArray, List.nil_append, List.cons_append]
  go_wp2_with fail
  refine (rows_calls _ s h1).mono ?_
  rintro e W1 ⟨rfl, rfl⟩
  go_wp2_with fail
  obtain ⟨Wa, hWa⟩ : ∃ Wa, Wa = ((((w.alloc (.cells #[.slice none 0 0] 23)).alloc (.cells #[.bool false] 4)).alloc (.cells #[s] 24)).alloc (.cells #[.slice none 0 0] 23)) := ⟨_, rfl⟩
  rw [← hWa]
  obtain ⟨hr1, hr2, hr3, hr4⟩ := heap_alloc4 w (.cells #[.slice none 0 0] 23) (.cells #[.bool false] 4) (.cells #[s] 24) (.cells #[.slice none 0 0] 23)
  rw [← hWa] at hr1 hr2 hr3 hr4
  have hzw : Wa.heap.size = w.heap.size + 4 := by rw [hWa]; simp
  have hB1 : Below w.heap.size w Wa := by rw [hWa]; exact ((((Below.refl _ w).alloc (Nat.le_refl _) _).alloc (by simp) _).alloc (by simp; omega) _).alloc (by simp; omega) _
  clear hWa
  refine wp_range (gf := 36) (lb := #[.pointer (some ⟨w.heap.size + 1 + 1, 0, none⟩)]) rfl (fun _ _ => canRows1 _ _) (rows_iter (w.heap.size + 1 + 1) K hK LL hLL n) rfl RowsE.keep
    (OutJ K LL (w.heap.size + 1 + 1 + 1) w.heap.size) (fun _ _ _ _ => False) (OutJ.cons K LL _ _) (fun _ => ⟨fun _ _ _ _ h => h.elim, fun _ _ _ _ h => h.elim, fun _ _ _ _ h => h.elim⟩)
    ⟨fun b => b = w.heap.size + 3, fun b => b = w.heap.size + 3⟩ ?start ?frame _ (fun l x W K hk => by gi_wp2; exact hk) ?body ?done (fun D c xs Fo' W W' _ _ _ _ _ _ _ _ h => h.elim)
  case start =>
    exact ⟨fun b h => by have h : b = w.heap.size + 3 := h; omega, fun b h => h, rfl, ⟨none, 0, hr4, World.ownsRow_nil _ _ _ _, fun g h => by cases h⟩, fun i x h => by cases h⟩
  case frame =>
    intro G W3 hB3 hG
    refine hs.rowsH (hB1.trans (hB3.mono (by omega))) (fun b hb => ?_) (fun h => ?_) ((hB3.cell (p := ⟨w.heap.size + 2, 0, none⟩) (by show w.heap.size + 2 < _; omega)).trans (cell_heap1 hr3))
    · rcases hG b hb with h | h
      · have h : b = w.heap.size + 3 := h; omega
      · omega
    · rcases hG _ h with h | h
      · have h : w.heap.size + 1 + 1 = w.heap.size + 3 := h; omega
      · omega
  case body =>
    rintro l pre Fo1 x G W J hm hGb ⟨L, hL, hxG⟩ hlen
    obtain ⟨a, c, hvb, hown, hg⟩ := J.cell
    have hcv : W.cell? ⟨w.heap.size + 1 + 1 + 1, 0, none⟩ = some (.slice a pre.length c) := cell_heap1 hvb
    have hn65 : ¬ (65536 : Int) < (pre.length : Int) := by omega
    obtain ⟨xa, xn, xc, rfl⟩ : ∃ xa xn xc, x = .slice xa xn xc := by
      obtain ⟨_, ⟨rfl, _⟩ | ⟨_, _, _, rfl, _⟩⟩ := hxG.1
      · exact ⟨_, _, _, rfl⟩
      · exact ⟨_, _, _, rfl⟩
    have hvl : w.heap.size + 1 + 1 + 1 < W.heap.size := J.lt _ (J.sub _ J.ov)
    obtain ⟨N, hN⟩ : ∃ N, N = pre.length := ⟨_, rfl⟩
    rw [← hN] at hcv hn65 hvb hown hg hlen
    have HN := Lib.hid hN
    clear hN
    gi_wp2_with (gi_at_builtin; refine wpListIn_append_where _ rfl _ _ 23 rfl w.heap.size 34 i0 (.slice none 0 0) 1 24 t23 hi hz0 hz1 hz2 rfl (by decide) _ _ _ rfl (hown.alloc _) ⟨W.heap.size, 0, none⟩ 1 1 [.slice xa xn xc] rfl rfl ?qc1 ?qc2 ?qc3 ?qc4 ?qc5 ?_)
    · rfl
    · have hmax : maxLen = 9223372036854775807 := by decide +kernel
      omega
    · omega
    · omega
    intro v' w' ho hgr hwh
    have hN := HN.out
    obtain ⟨a', c', hv'⟩ := own_form ho
    have hvb' : w'.heap[w.heap.size + 1 + 1 + 1]? = some (.cells #[.slice a N c] 23 (0, 0)) := (hgr.block _ (by rw [World.size_alloc]; omega) (fun e => (hg _ e.symm).2 rfl)).trans ((Below.heap_alloc _ _ _ hvl).trans hvb)
    have k1 := cell_heap1 hvb'
    have k2 := frozen_heap1 hvb'
    have more := OutJ.more J Wa (by omega) hGb hL hxG hvb hg _ (by rw [← hN]; exact ho) hgr hwh
    subst hv'
    clear hN
    gi_wp2_with fail
    exact more
  case done =>
    rintro D xs Fo' W W' hD1 hD2 hD3 hm hS hsame hl hsz J hdef
    obtain ⟨a, c, hvb, hown, hg⟩ := J.cell
    have hcv : W'.cell? ⟨w.heap.size + 1 + 1 + 1, 0, none⟩ = some (.slice a xs.length c) := cell_heap1 hvb
    have e1 : W'.heap[w.heap.size]? = some (.cells #[.slice none 0 0] 23 (0, 0)) := (hm.heap _ (by omega) (fun h => by have h : w.heap.size = w.heap.size + 3 := h; omega)).trans hr1
    have e2 : W'.heap[w.heap.size + 1]? = some (.cells #[.bool false] 4 (0, 0)) := (hm.heap _ (by omega) (fun h => by have h : w.heap.size + 1 = w.heap.size + 3 := h; omega)).trans hr2
    have c1 := cell_heap1 e1
    have c2 := cell_heap1 e2
    have f1 := frozen_heap1 e1
    have f2 := frozen_heap1 e2
    have HS := Lib.hid hS
    rw [hS] at hcv
    clear hS hsame hsz
    go_wp2_with fail
    refine ⟨by simp, .inl ⟨D, _, rfl, run_takeDeferred (w := (W'.setCell ⟨w.heap.size, 0, none⟩ (.slice a LL.length c)).setCell ⟨w.heap.size + 1, 0, none⟩ (.bool true)) ((Below.heap_setCell _ _ _ _ (by show D ≠ w.heap.size + 1; omega)).trans ((Below.heap_setCell _ _ _ _ (by show D ≠ w.heap.size; omega)).trans hdef)), ?_⟩⟩
    have hza := hm.size
    obtain ⟨Wf, hWf⟩ : ∃ Wf, Wf = ((W'.setCell ⟨w.heap.size, 0, none⟩ (.slice a LL.length c)).setCell ⟨w.heap.size + 1, 0, none⟩ (.bool true)).putObj D (.deferred none) := ⟨_, rfl⟩
    have hfz : Wf.heap.size = W'.heap.size := by rw [hWf]; simp [World.setCell]
    have hfo : ∀ b, b ≠ w.heap.size → b ≠ w.heap.size + 1 → b ≠ D → Wf.heap[b]? = W'.heap[b]? := fun b h1 h2 h3 => by
      rw [hWf]
      exact (World.putObj_heap_other h3).trans ((Below.heap_setCell _ _ _ _ h2).trans (Below.heap_setCell _ _ _ _ h1))
    have g1 : Wf.heap[w.heap.size]? = some (.cells #[.slice a LL.length c] 23 (0, 0)) := by
      rw [hWf]
      exact (World.putObj_heap_other (by omega)).trans ((Below.heap_setCell _ _ _ _ (by show w.heap.size ≠ w.heap.size + 1; omega)).trans (one_setCell e1))
    have g2 : Wf.heap[w.heap.size + 1]? = some (.cells #[.bool true] 4 (0, 0)) := by
      rw [hWf]
      exact (World.putObj_heap_other (by omega)).trans (one_setCell ((Below.heap_setCell _ _ _ _ (by show w.heap.size + 1 ≠ w.heap.size; omega)).trans e2))
    have hBf : Below w.heap.size w Wf := by
      have hb := hB1.trans ((hm.below (n := w.heap.size) (by omega) (fun b hb => by have hb : b = w.heap.size + 3 := hb; omega)).mono (Nat.le_refl _))
      rw [hWf]
      exact ((hb.setCell (p := ⟨w.heap.size, 0, none⟩) (Nat.le_refl _) _).setCell (p := ⟨w.heap.size + 1, 0, none⟩) (by show w.heap.size ≤ w.heap.size + 1; omega) _).trans ((Moves.put (Fo := ⟨fun b => b = D, fun b => b = D⟩) rfl).below (by simp [World.setCell]; omega) (fun b hb => by have hb : b = D := hb; omega))
    rw [← hWf]
    have hJf := (OutJ.cons K LL _ _).stays _ _ _ Wf J (by omega) (fun b hb => hfo b (fun e => ?_) (fun e => ?_) (fun e => hD3 (by rw [← e]; exact hb)))
    · have hle := HS.out
      obtain ⟨a', c', hvb', hown', _⟩ := hJf.cell
      have ea : (Value.slice a' xs.length c') = .slice a LL.length c := by
        have h5 := (hfo (w.heap.size + 1 + 1 + 1) (by omega) (by omega) (by omega)).symm.trans hvb'
        rw [hvb] at h5
        injection h5 with h5
        injection h5 with h5
        rw [← hle]
        simpa using h5.symm
      rw [ea, hle] at hown'
      refine ⟨.tuple #[.slice a LL.length c, .bool true], ?_, .slice a LL.length c, rfl, hBf, out_cv hown' (by rw [sortL_len]) (fun i x hx => ?_)⟩
      · have k1 := cell_heap1 g1
        have k2 := cell_heap1 g2
        simp [results, Try.results15, go_sem, k1, k2]
      · obtain ⟨L, h1, h2, h3⟩ := hJf.rows i x hx
        exact ⟨L, h1, h2, fun b o n c e => (h3 b o n c e).2.2⟩
    · rcases hm.rd b hb with h | h
      · have h : b = w.heap.size + 3 := h; omega
      · omega
    · rcases hm.rd b hb with h | h
      · have h : b = w.heap.size + 3 := h; omega
      · omega
end Go.Proofs.Ytdgjcdhomfhfpaa
namespace Go.Proofs.Ytdgjcdhomfhfpaa
open Go.RowKit Go.IntWalk
set_option linter.unusedSimpArgs false
set_option linter.unusedVariables false

abbrev sorM : Mo := ⟨2, 59, 34, 1⟩
def sorC (K : List K3) (n : Nat) (P : Nat → Prop) (LL : List (List V3)) : List DV := [.c (.v (.int .i64 (n : Nat))), .c (.vs (kc K)), .c (.vs (rS (RowG P) LL))]
/-- a sorter of one's own, beside blocks X that are let be; its rows lie in P -/
structure SorP (K : List K3) (n : Nat) (P : Nat → Prop) (LL : List (List V3)) (w : World) (X : Nat → Prop) (sb : Nat) (at_ : Option (Nat × Nat)) : Prop where
  lt : sb < w.heap.size
  out : ¬ X sb
  row : ∀ b, AtB at_ b → b < w.heap.size ∧ ¬ X b ∧ b ≠ sb
  box : ∃ (kv sv : Value) (fr : Nat × Nat), w.heap[sb]? = some (.cells #[.int .i64 (n : Nat), kv, sv] 59 fr) ∧ Free fr 3 ∧ CVR w (OwnO X sb at_) (.vs (kc K)) kv ∧ SlP at_ LL.length sv
  rows : RowP w (OwnO X sb at_) at_ (rS (RowG P) LL) 34 1
section
variable {K : List K3} {n : Nat} {P : Nat → Prop} {LL : List (List V3)} {w w' : World} {X X' : Nat → Prop} {sb : Nat} {at_ : Option (Nat × Nat)}
theorem SorP.boxP (h : SorP K n P LL w X sb at_) : BoxP w (OwnO X sb at_) sb at_ sorM (sorC K n P LL) := by
  obtain ⟨kv, sv, fr, h1, h2, h3, h4⟩ := h.box
  refine ⟨_, fr, h1, h2, ?_⟩
  show ArgsM w _ at_ 2 _ [.int .i64 (n : Nat), kv, sv]
  simp only [sorC, ArgsM, DVR, DVRs, and_true]
  exact ⟨.v _ rfl, h3, _, rfl, by rw [rS_len]; exact h4⟩
theorem SorP.ofBox (lt : sb < w.heap.size) (out : ¬ X sb) (row : ∀ b, AtB at_ b → b < w.heap.size ∧ ¬ X b ∧ b ≠ sb)
    (box : BoxP w (OwnO X sb at_) sb at_ sorM (sorC K n P LL)) (rows : RowP w (OwnO X sb at_) at_ (rS (RowG P) LL) 34 1) : SorP K n P LL w X sb at_ := by
  refine ⟨lt, out, row, ?_, rows⟩
  obtain ⟨⟨a⟩, fr, h1, h2, h3⟩ := box
  have h3 : ArgsM w (OwnO X sb at_) at_ 2 (sorC K n P LL) a := h3
  match a, h3 with
  | [v0, kv, sv], h3 =>
    simp only [sorC, ArgsM, DVR, DVRs, and_true] at h3
    obtain ⟨k1, k2, c, e, k3⟩ := h3
    cases k1
    injection e with e
    injection e with e
    subst e
    rw [rS_len] at k3
    exact ⟨kv, sv, fr, h1, h2, k2, k3⟩
  | [], h => simp [sorC, ArgsM] at h
  | [_], h => simp [sorC, ArgsM] at h
  | [_, _], h => simp [sorC, ArgsM] at h
  | _ :: _ :: _ :: _ :: _, h => simp [sorC, ArgsM, DVRs] at h
theorem SorP.step (h : SorP K n P LL w X sb at_) (hs : ∀ b, ¬ X b → b < w.heap.size → w'.heap[b]? = w.heap[b]?) (hx : ∀ b, X' b → X b ∨ w.heap.size ≤ b) (hz : w.heap.size ≤ w'.heap.size) : SorP K n P LL w' X' sb at_ := by
  have st : Stays (OwnO X sb at_) (OwnO X' sb at_) w w' := ⟨fun b hb' hlt => hs b (fun hX => hb' (.inl hX)) hlt, fun b hb' => by
    rcases hb' with h1 | h1
    · rcases hx b h1 with h2 | h2
      · exact .inl (.inl h2)
      · exact .inr h2
    · exact .inl (.inr h1), hz⟩
  have nx : ∀ b, b < w.heap.size → ¬ X b → ¬ X' b := fun b hlt hn hX => by
    rcases hx b hX with h2 | h2
    · exact hn h2
    · omega
  refine ⟨Nat.lt_of_lt_of_le h.lt hz, nx _ h.lt h.out, fun b hb' => ?_, ?_, ?_⟩
  · obtain ⟨h1, h2, h3⟩ := h.row b hb'
    exact ⟨Nat.lt_of_lt_of_le h1 hz, nx _ h1 h2, h3⟩
  · obtain ⟨kv, sv, fr, h1, h2, h3, h4⟩ := h.box
    exact ⟨kv, sv, fr, (hs sb h.out h.lt).trans h1, h2, h3.step st, h4⟩
  · obtain ⟨h1, h2, h3⟩ := h.rows
    refine ⟨h1, h2, h3.imp id ?_⟩
    rintro ⟨b, cap, a, fr, e, g1, g2, g3, g4, g5⟩
    obtain ⟨k1, k2, k3⟩ := h.row b ⟨cap, e⟩
    refine ⟨b, cap, a, fr, e, (hs b k2 k1).trans g1, g2, g3, g4, fun i el hi f cv hf => ?_⟩
    obtain ⟨r, hr, hc⟩ := g5 i el hi f cv hf
    exact ⟨r, hr, hc.step st⟩
theorem RowG.read {L : List V3} {r : Value} (h : RowG P L w r) : CVR w (fun _ => False) (.vs (vc L)) r := RowAt.read h.1
/-- read -/
theorem SorP.sortR (h : SorP K n P LL w X sb at_) (hn : 1 ≤ n) (hn2 : n ≤ 65536) : SortR K LL n (fun _ => False) w sb := by
  obtain ⟨kv, sv, fr, h1, h2, h3, h4⟩ := h.box
  refine ⟨hn, hn2, id, kv, sv, by simp [World.cell?, h1], by simp [World.cell?, h1], by simp [World.cell?, h1], h3.mono fun _ h => h.elim, ?_⟩
  obtain ⟨_, k2, k3⟩ := h.rows
  rcases h4 with ⟨e1, e2, e3⟩ | ⟨b, c, rc, e1, e2, e3, e4⟩
  · subst e2
    have : LL = [] := List.length_eq_zero_iff.1 e3
    subst this
    exact .nil none
  · subst e2
    rcases k3 with ⟨e5, _⟩ | ⟨b', cap, a, fr', e5, g1, g2, g3, g4, g5⟩
    · rw [e1] at e5; cases e5
    · rw [e1] at e5
      injection e5 with e5
      injection e5 with e5 e6
      subst e5 e6
      have hl : (rcL LL).length = LL.length := rcL_len LL
      rw [← hl]
      refine .vs _ b 0 1 rc (fun i _ => a.getD i undef) (rcL_sz LL) (by omega) (fun i el hi f cv hf => ?_) (fun i el hi f cv hf => ?_)
      all_goals
        have hiM : i < LL.length := by
          have := (List.getElem?_eq_some_iff.1 hi).1
          rw [rcL_len] at this
          exact this
        have hi' : (rS (RowG P) LL)[i]? = some [.sem (RowG P (LL.getD i []))] := by simp [rS, hiM]
        have hel : el = [.vs (vc (LL.getD i []))] := by
          have : (rcL LL)[i]? = some [.vs (vc (LL.getD i []))] := by simp [rcL, hiM]
          rw [hi] at this
          exact Option.some.inj this
        subst hel
        have hf0 : f = 0 := by
          have := (List.getElem?_eq_some_iff.1 hf).1
          simp at this
          exact this
        subst hf0
        obtain ⟨r, hr, hc⟩ := g5 i _ hi' 0 _ rfl
        rw [Nat.mul_one, Nat.add_zero] at hr
        have hgd : a.getD i undef = r := by rw [Array.getD_eq_getD_getElem?, hr]; rfl
      · refine ⟨id, ?_⟩
        rw [hgd, Nat.mul_one, Nat.zero_add, Nat.add_zero]
        simp [World.cell?, g1, hr]
      · have e4 : cv = .vs (vc (LL.getD i [])) := by simpa using hf.symm
        rw [e4, hgd]
        have : RowG P (LL.getD i []) w r := by
          cases hc with
          | sem _ _ _ hq => exact hq w (Nat.le_refl _) (fun _ _ _ => rfl)
        exact this.read
end
end Go.Proofs.Ytdgjcdhomfhfpaa
namespace Go.Proofs.Ytdgjcdhomfhfpaa
open Go.RowKit Go.IntWalk
set_option linter.unusedSimpArgs false
set_option linter.unusedVariables false

theorem c_cloneG (lo : Nat) (P : Nat → Prop) (hP : ∀ b, lo ≤ b → P b) (L : List V3) (hL : L.length ≤ 1048576) : FnC Try.prog 25 [.c (.sem (RowQ lo L))] (.c (.sem (RowG P L))) := by
  intro w X vs hg hx hd
  have key : ∀ (e : Ending) (w' : World), (∃ v, e = .returned v ∧ DVR w' X (.c (.sem (RowAt lo L))) v ∧ Below w.heap.size w w') → ∃ v, e = .returned v ∧ DVR w' X (.c (.sem (RowG P L))) v ∧ Below w.heap.size w w' := by
    rintro e w' ⟨v, he, hr, hb⟩
    refine ⟨v, he, ?_, hb⟩
    simp only [DVR] at hr ⊢
    cases hr with
    | sem _ _ h1 hq => exact .sem _ _ h1 fun w2 hs ha => (hq w2 hs ha).toG.mono fun b hb => hP b hb.1
  rcases c_cloneQ lo L hL w X vs hg hx hd with ⟨h1, h2⟩ | ⟨v, w', h1, h2⟩
  · exact .inl ⟨h1, h2.mono key⟩
  · exact .inr ⟨v, w', h1, key _ _ h2⟩
/-- where it has been turned -/
structure STurn (K : List K3) (n : Nat) (P : Nat → Prop) (X : Nat → Prop) (sb : Nat) (at_ : Option (Nat × Nat)) (w w' : World) (at' : Option (Nat × Nat)) (LL' : List (List V3)) : Prop where
  turn : TurnO sb at_ w w'
  own : ∀ b, AtB at' b → AtB at_ b ∨ w.heap.size ≤ b
  sor : SorP K n P LL' w' X sb at'
section
variable {K : List K3} {n : Nat} {P : Nat → Prop} {LL : List (List V3)} {w w' : World} {X X' : Nat → Prop} {sb : Nat} {at_ : Option (Nat × Nat)}
theorem SorP.meets (h : SorP K n P LL w X sb at_) (hX : ∀ b, X b → b < w.heap.size) {Q : World → Value → Prop} {LL' : List (List V3)} {z : Int} (hf : FnO Try.prog sorM 10 (sorC K n P LL) [.c (.sem Q)] (.c (.v (.int .i64 z))) (sorC K n P LL')) {x : Value} (hx : CVR w (OwnO X sb at_) (.sem Q) x) :
    Calls Try.prog 10 #[.pointer (some ⟨sb, 0, none⟩), x] w fun e w' => e = .returned (.int .i64 z) ∧ ∃ at', STurn K n P X sb at_ w w' at' LL' := by
  obtain ⟨_, c, c', e1, e2, hc⟩ := hf
  have e1 : (some (DV.c (.vs (rS (RowG P) LL))) : Option DV) = some (.c (.vs c)) := e1
  have e2 : (some (DV.c (.vs (rS (RowG P) LL'))) : Option DV) = some (.c (.vs c')) := e2
  injection e1 with e1; injection e1 with e1; injection e1 with e1
  injection e2 with e2; injection e2 with e2; injection e2 with e2
  subst e1 e2
  refine (hc w X sb at_ [x] glo_none hX ⟨h.lt, h.out, fun g hg => by simp [gloList] at hg⟩ (fun b hb' => ?_) h.boxP h.rows ?_).mono ?_
  · obtain ⟨h1, h2, h3⟩ := h.row b hb'
    exact ⟨h1, h2, h3, fun g hg => by simp [gloList] at hg⟩
  · simp only [DVRs, and_true, DVR]
    exact hx
  · rintro ex w' ⟨v, at', rfl, ht, ho, hbx, hrw, hd⟩
    simp only [DVR] at hd
    cases hd
    refine ⟨rfl, at', ht, fun b hb' => (ho b hb').1, SorP.ofBox (Nat.lt_of_lt_of_le h.lt ht.size) h.out (fun b hb' => ?_) hbx hrw⟩
    obtain ⟨h1, h2, h3⟩ := ho b hb'
    refine ⟨h2, ?_, h3⟩
    rcases h1 with h1 | h1
    · exact (h.row b h1).2.1
    · intro hx; have := hX b hx; omega
theorem SorP.add (h : SorP K n P LL w X sb at_) (hX : ∀ b, X b → b < w.heap.size) (hl : LL.length < 65536) {lo : Nat} (hP : ∀ b, lo ≤ b → P b) {L : List V3} (hL : L.length ≤ 1048576) {x : Value} (hx : CVR w (OwnO X sb at_) (.sem (RowQ lo L)) x) :
    Calls Try.prog 10 #[.pointer (some ⟨sb, 0, none⟩), x] w fun e w' => e = .returned (.int .i64 0) ∧ ∃ at', STurn K n P X sb at_ w w' at' (LL ++ [L]) := by
  refine h.meets hX (a10_obj (n : Nat) (kc K) (rS (RowG P) LL) [[.sem (RowQ lo L)]] (c' := rS (RowG P) (LL ++ [L])) rfl ⟨fun hge => ?_, fun _ => ⟨[[.sem (RowG P L)]], c_cloneG lo P hP L hL, fun x5 e5 => ?_⟩⟩) hx
  · rw [rS_len] at hge; omega
  · have e5 : x5 = rS (RowG P) [L] := e5
    subst e5
    rw [rS_len, rS_len]
    refine ⟨by simp only [List.length_cons, List.length_nil]; omega, fun x6 e6 => ?_⟩
    rw [rS_app] at e6
    subst e6
    rfl
theorem SorP.full (h : SorP K n P LL w X sb at_) (hX : ∀ b, X b → b < w.heap.size) (hl : 65536 ≤ LL.length) {lo : Nat} {L : List V3} {x : Value} (hx : CVR w (OwnO X sb at_) (.sem (RowQ lo L)) x) :
    Calls Try.prog 10 #[.pointer (some ⟨sb, 0, none⟩), x] w fun e w' => e = .returned (.int .i64 3) ∧ ∃ at', STurn K n P X sb at_ w w' at' LL := by
  refine h.meets hX (a10_obj (n : Nat) (kc K) (rS (RowG P) LL) [[.sem (RowQ lo L)]] (c' := rS (RowG P) LL) rfl ⟨fun _ => rfl, fun hlt => ?_⟩) hx
  rw [rS_len] at hlt; omega
theorem add_nil (x : Value) : Calls Try.prog 10 #[.pointer none, x] w fun e w' => e = .returned (.int .i64 2) ∧ w' = w := by
  go_enter Try.func10, Try.ntmps10
  go_wp2_with fail
  go_ret
  exact ⟨rfl, rfl⟩
theorem SorP.lenS (h : SorP K n P LL w X sb at_) : ∃ a c, w.cell? ⟨sb, 2, none⟩ = some (.slice a LL.length c) := by
  obtain ⟨kv, sv, fr, h1, h2, h3, h4⟩ := h.box
  rcases h4 with ⟨_, rfl, h0⟩ | ⟨b, cc, rc, _, rfl, _⟩
  · exact ⟨none, 0, by rw [h0]; simp [World.cell?, h1]⟩
  · exact ⟨some ⟨b, 0, none⟩, rc, by simp [World.cell?, h1]⟩
theorem SorP.most (h : SorP K n P LL w X sb at_) : w.cell? ⟨sb, 0, none⟩ = some (.int .i64 (n : Nat)) := by
  obtain ⟨kv, sv, fr, h1, h2, h3, h4⟩ := h.box
  simp [World.cell?, h1]
theorem len_nil : Calls Try.prog 12 #[.pointer none] w fun e w' => e = .returned (.int .i64 0) ∧ w' = w := by
  go_enter Try.func12, Try.ntmps12
  go_wp2_with fail
  go_ret
  exact ⟨rfl, rfl⟩
theorem runs_nil : Calls Try.prog 13 #[.pointer none] w fun e w' => e = .returned (.int .i64 0) ∧ w' = w := by
  go_enter Try.func13, Try.ntmps13
  go_wp2_with fail
  go_ret
  exact ⟨rfl, rfl⟩
theorem SorP.len_calls (h : SorP K n P LL w X sb at_) : Calls Try.prog 12 #[.pointer (some ⟨sb, 0, none⟩)] w fun e w' => e = .returned (.int .i64 (LL.length : Nat)) ∧ w' = w := by
  obtain ⟨a, c, hc⟩ := h.lenS
  go_enter Try.func12, Try.ntmps12
  go_wp2_with fail
  go_ret
  exact ⟨rfl, rfl⟩
theorem SorP.runs_len (h : SorP K n P LL w X sb at_) (hn : 1 ≤ n) (hn2 : n ≤ 65536) (hl : LL.length ≤ 65536) : Calls Try.prog 13 #[.pointer (some ⟨sb, 0, none⟩)] w fun e w' => e = .returned (.int .i64 ((LL.length + n - 1) / n : Nat)) ∧ Below w.heap.size w w' := by
  obtain ⟨a, c, hc⟩ := h.lenS
  have hm := h.most
  have hm1 : -9223372036854775808 ≤ ((LL.length : Int) + n - 1) / n ∧ ((LL.length : Int) + n - 1) / n ≤ 9223372036854775807 := by
    rw [show (LL.length : Int) + n - 1 = ((LL.length + n - 1 : Nat) : Int) by omega, ← Int.natCast_ediv]
    have hle : (LL.length + n - 1) / n ≤ LL.length + n - 1 := Nat.div_le_self _ _
    obtain ⟨q, hq⟩ : ∃ q, q = (LL.length + n - 1) / n := ⟨_, rfl⟩
    rw [← hq] at hle ⊢
    omega
  have hn0 : ¬ (n : Int) = 0 := by omega
  go_enter Try.func13, Try.ntmps13
  go_wp2_with (first | ((with_reducible refine region_draws ?_); go_quiet (fail)))
  go_ret
  refine ⟨?_, ⟨rfl, rfl, rfl, Nat.le_refl _, fun _ _ => rfl⟩⟩
  show Ending.returned (.int .i64 (((LL.length : Int) + n - 1) / n)) = _
  rw [show (LL.length : Int) + n - 1 = ((LL.length + n - 1 : Nat) : Int) by omega, ← Int.natCast_ediv]
theorem canCheckO : CanEnter Try.prog 18 := canEnter_of Try.func18 (by kernel_rfl) (by kernel_rfl)
theorem canCloneK : CanEnter Try.prog 22 := canEnter_of Try.func22 (by kernel_rfl) (by kernel_rfl)
theorem c_cloneK (K : List K3) (h : K.length ≤ 1048576) : FnC Try.prog 22 [.c (.vs (kc K))] (.c (.vs (kc K))) := by
  refine w22 (kc K) ⟨fun e => by rw [e], fun x1 e1 => ?_⟩
  subst e1
  refine ⟨kc_sz K, ?_, fun x2 e2 => ?_⟩
  · rw [kc_len]; simp only [List.length_nil]; omega
  · rw [e2]; rfl
/-- what New answers -/
def newE (z : Int) (K : List K3) : Int := if z < 1 ∨ 65536 < z then 1 else chkK K
theorem new_calls (z : Int) (hz : -9223372036854775808 ≤ z ∧ z ≤ 9223372036854775807) (hK : K.length ≤ 1048576) (hX : ∀ b, X b → b < w.heap.size) {kv : Value} (ck : CVR w X (.vs (kc K)) kv) (P : Nat → Prop) :
    Calls Try.prog 6 #[.int .i64 z, kv] w fun e w' => Below w.heap.size w w' ∧
      ((newE z K ≠ 0 ∧ e = .returned (.tuple #[.pointer none, .int .i64 (newE z K)])) ∨
       (newE z K = 0 ∧ ∃ sb, e = .returned (.tuple #[.pointer (some ⟨sb, 0, none⟩), .int .i64 0]) ∧ w.heap.size ≤ sb ∧ SorP K z.toNat P [] w' X sb none)) := by
  have hk1 := ck.one
  have hkc := cells_of_one hk1
  by_cases h1 : z < 1
  · go_enter Try.func6, Try.ntmps6
    go_wp2_with fail
    go_ret2
    exact ⟨Below.refl _ _, .inl ⟨by unfold newE; rw [if_pos (.inl h1)]; omega, by unfold newE; rw [if_pos (.inl h1)]; rfl⟩⟩
  by_cases h2 : 65536 < z
  · go_enter Try.func6, Try.ntmps6
    go_wp2_with fail
    go_ret2
    exact ⟨Below.refl _ _, .inl ⟨by unfold newE; rw [if_pos (.inr h2)]; omega, by unfold newE; rw [if_pos (.inr h2)]; rfl⟩⟩
  have hne : newE z K = chkK K := by unfold newE; rw [if_neg (by omega)]
  go_enter Try.func6, Try.ntmps6
  go_wp2_with fail
  refine Calls.mono (ret_iD canCheckO (c_oCheck K (by show K.length ≤ 4611686018427387903; omega)) [kv] w (by simp only [DVRs, and_true]; exact DVR_vs (ck.mono fun _ h => h.elim))) ?_
  rintro e w1 ⟨rfl, hB1⟩
  have hB1z := hB1.size
  by_cases h3 : chkK K = 0
  · rw [h3]
    go_wp2_with fail
    refine Calls.mono (FnC.calls canCloneK (c_cloneK K hK) w1 X [kv] glo_none (fun b h => Nat.lt_of_lt_of_le (hX b h) hB1z) (by
      simp only [DVRs, DVR, and_true]
      exact ck.step ⟨fun b _ h => hB1.block b h, fun b h => .inl h, hB1z⟩)) ?_
    rintro e w2 ⟨kv2, rfl, hd, hB2⟩
    simp only [DVR] at hd
    obtain ⟨ka, kn, kcc, rfl⟩ : ∃ ka kn kcc, kv2 = .slice ka kn kcc := by
      rcases CVR_inv hd with ⟨_, a, rfl⟩ | ⟨b, o, sz, c, g, rfl, _⟩
      · exact ⟨_, _, _, rfl⟩
      · exact ⟨_, _, _, rfl⟩
    have hB2z := hB2.size
    go_wp2_with fail
    go_ret2
    have hz0 : ((z.toNat : Nat) : Int) = z := by omega
    refine ⟨(hB1.trans (hB2.mono hB1z)).alloc (by omega) _, .inr ⟨by rw [hne, h3], w2.heap.size, rfl, by omega, ⟨by simp, fun h => by have := hX _ h; omega, fun b ⟨_, h⟩ => (by cases h), ?_, ?_⟩⟩⟩
    · refine ⟨.slice ka kn kcc, .slice none 0 0, (0, 0), by rw [World.alloc_heap_new, hz0], fun o h1 h2 => by omega, hd.step ⟨fun b _ h => Below.heap_alloc _ _ _ h, fun b h => ?_, by simp⟩, .inl ⟨rfl, rfl, rfl⟩⟩
      rcases h with h | h | ⟨_, h⟩
      · exact .inl h
      · exact .inr (by omega)
      · cases h
    · exact ⟨by decide, fun el h => (by cases h), .inl ⟨rfl, rfl⟩⟩
  · go_wp2_with fail
    go_ret2
    exact ⟨hB1, .inl ⟨by rw [hne]; exact h3, by rw [hne]; rfl⟩⟩
end
end Go.Proofs.Ytdgjcdhomfhfpaa
namespace Go.Proofs.Ytdgjcdhomfhfpaa
open Go.RowKit Go.IntWalk
set_option linter.unusedSimpArgs false
set_option linter.unusedVariables false

theorem c_num (z : Int) : FnC Try.prog 24 [iD z] (.agg [.v (.int .i64 1), .v (.int .i64 z), .v (.string ⟨#[]⟩)]) := w24 z rfl
theorem canNum : CanEnter Try.prog 24 := canEnter_of Try.func24 (by kernel_rfl) (by kernel_rfl)
theorem num_calls (w : World) (z : Int) : Calls Try.prog 24 #[.int .i64 z] w fun e w' => e = .returned (.agg #[.int .i64 1, .int .i64 z, .string ⟨#[]⟩]) ∧ Below w.heap.size w w' := by
  refine Calls.mono (FnC.calls canNum (c_num z) w (fun _ => False) [.int .i64 z] glo_none (fun _ h => h.elim) (by simp only [DVRs, DVR, and_true]; exact .v _ rfl)) ?_
  rintro e w' ⟨v, rfl, hd, hB⟩
  simp only [DVR] at hd
  obtain ⟨⟨a⟩, rfl, hc⟩ := hd
  match a, hc with
  | [p, q, r], hc =>
    simp only [CVRs, and_true] at hc
    obtain ⟨h1, h2, h3⟩ := hc
    cases h1
    cases h2
    cases h3
    exact ⟨rfl, hB⟩
  | [], h => simp [CVRs] at h
  | [_], h => simp [CVRs] at h
  | [_, _], h => simp [CVRs] at h
  | _ :: _ :: _ :: _ :: _, h => simp [CVRs] at h
theorem TurnO.below {sb : Nat} {at_ : Option (Nat × Nat)} {n : Nat} {w w1 w2 : World} (h : TurnO sb at_ w1 w2) (hB : Below n w w1) (hn : n ≤ w1.heap.size) (h1 : n ≤ sb) (h2 : ∀ b, AtB at_ b → n ≤ b) : Below n w w2 :=
  ⟨h.os.trans hB.os, h.tape.trans hB.tape, h.output.trans hB.output, Nat.le_trans hB.size h.size, fun b hb => (h.heap b (by omega) (by omega) (fun h => by have := h2 b h; omega)).trans (hB.block b hb)⟩
theorem rowQ_of {w : World} {Y : Nat → Prop} {L : List V3} {x : Value} {lo : Nat} (h : CVR w Y (.vs (vc L)) x) (hlo : lo ≤ w.heap.size) : CVR w Y (.sem (RowQ lo L)) x :=
  .sem _ x h.one fun w2 hs ha => ⟨(h.step (X' := Y) ⟨ha, fun b hb => .inl hb, hs⟩).mono fun _ h => h.elim, Nat.le_trans hlo hs⟩
/-- a row of one number, new -/
abbrev nmV (z : Int) : V3 := (1, z, [])
theorem row_one {w : World} {Y : Nat → Prop} {b : Nat} {z : Int} (h : w.heap[b]? = some (.cells #[.int .i64 1, .int .i64 z, .string ⟨#[]⟩] 38 (0, 0))) (hY : ¬ Y b) : CVR w Y (.vs (vc [nmV z])) (.slice (some ⟨b, 0, none⟩) 1 1) := by
  have hl : (vc [nmV z]).length = 1 := rfl
  rw [← hl]
  refine .vs _ b 0 3 1 (fun _ f => (#[.int .i64 1, .int .i64 z, .string ⟨#[]⟩] : Array Value).getD f undef) (vc_sz _) (Nat.le_refl _) (fun i el hi f cv hf => ?_) (fun i el hi f cv hf => ?_)
  all_goals
    have hi0 : i = 0 := by
      have := (List.getElem?_eq_some_iff.1 hi).1
      rw [hl] at this
      omega
    subst hi0
    have hel : el = [.v (.int .i64 1), .v (.int .i64 z), .v (.string ⟨#[]⟩)] := (Option.some.inj hi).symm
    subst hel
    have hf3 : f < 3 := (List.getElem?_eq_some_iff.1 hf).1
  · refine ⟨hY, ?_⟩
    have : f = 0 ∨ f = 1 ∨ f = 2 := by omega
    rcases this with rfl | rfl | rfl <;> simp [World.cell?, h]
  · have : f = 0 ∨ f = 1 ∨ f = 2 := by omega
    rcases this with rfl | rfl | rfl
    · simp at hf; subst hf; exact .v _ rfl
    · simp at hf; subst hf; exact .v _ rfl
    · simp at hf; subst hf; exact .v _ rfl
/-- one key, new -/
theorem key_one {w : World} {Y : Nat → Prop} {b : Nat} {k : K3} (h : w.heap[b]? = some (.cells #[.int .i64 k.1, .int .i64 k.2.1, .bool k.2.2] 55 (0, 0))) (hY : ¬ Y b) : CVR w Y (.vs (kc [k])) (.slice (some ⟨b, 0, none⟩) 1 1) := by
  have hl : (kc [k]).length = 1 := rfl
  rw [← hl]
  refine .vs _ b 0 3 1 (fun _ f => (#[.int .i64 k.1, .int .i64 k.2.1, .bool k.2.2] : Array Value).getD f undef) (kc_sz _) (Nat.le_refl _) (fun i el hi f cv hf => ?_) (fun i el hi f cv hf => ?_)
  all_goals
    have hi0 : i = 0 := by
      have := (List.getElem?_eq_some_iff.1 hi).1
      rw [hl] at this
      omega
    subst hi0
    have hel : el = [.v (.int .i64 k.1), .v (.int .i64 k.2.1), .v (.bool k.2.2)] := (Option.some.inj hi).symm
    subst hel
    have hf3 : f < 3 := (List.getElem?_eq_some_iff.1 hf).1
  · refine ⟨hY, ?_⟩
    have : f = 0 ∨ f = 1 ∨ f = 2 := by omega
    rcases this with rfl | rfl | rfl <;> simp [World.cell?, h]
  · have : f = 0 ∨ f = 1 ∨ f = 2 := by omega
    rcases this with rfl | rfl | rfl
    · simp at hf; subst hf; exact .v _ rfl
    · simp at hf; subst hf; exact .v _ rfl
    · simp at hf; subst hf; exact .v _ rfl
theorem rS_read {w : World} {X : Nat → Prop} {lo : Nat} {M : List (List V3)} {v : Value} (h : CVR w X (.vs (rS (RowAt lo) M)) v) : CVR w (fun _ => False) (.vs (rcL M)) v := by
  rcases CVR_inv h with ⟨hnil, a, rfl⟩ | ⟨b, o, sz, c, g, rfl, hsz, hc, hcell, hval⟩
  · have : M = [] := by
      have := rS_len (Q := RowAt lo) M
      rw [hnil] at this
      exact List.length_eq_zero_iff.1 this.symm
    subst this
    exact .nil a
  · have hl : (rS (RowAt lo) M).length = (rcL M).length := by rw [rS_len, rcL_len]
    rw [hl] at hc ⊢
    have at_ : ∀ i, i < M.length → (rS (RowAt lo) M)[i]? = some [.sem (RowAt lo (M.getD i []))] ∧ (rcL M)[i]? = some [.vs (vc (M.getD i []))] := fun i hi => by simp [rS, rcL, hi]
    by_cases h0 : M.length = 0
    · have : M = [] := List.length_eq_zero_iff.1 h0
      subst this
      refine .vs (rcL []) b o 1 c g (rcL_sz []) hc (fun i el hi => by cases hi) (fun i el hi => by cases hi)
    · have s1 : sz = 1 := (hsz _ (List.mem_of_getElem? (at_ 0 (by omega)).1)).symm
      subst s1
      refine .vs _ b o 1 c g (rcL_sz M) hc (fun i el hi f cv hf => ?_) (fun i el hi f cv hf => ?_)
      all_goals
        have hiM : i < M.length := by
          have := (List.getElem?_eq_some_iff.1 hi).1
          rw [rcL_len] at this
          exact this
        obtain ⟨k1, k2⟩ := at_ i hiM
        rw [k2] at hi
        have hel := (Option.some.inj hi).symm
        subst hel
        have hf0 : f = 0 := by
          have := (List.getElem?_eq_some_iff.1 hf).1
          simp at this
          exact this
        subst hf0
      · exact ⟨id, (hcell i _ k1 0 _ rfl).2⟩
      · have e4 : cv = .vs (vc (M.getD i [])) := by simpa using hf.symm
        rw [e4]
        have := hval i _ k1 0 _ rfl
        have hq : RowAt lo (M.getD i []) w (g i 0) := by
          cases this with
          | sem _ _ _ hq => exact hq w (Nat.le_refl _) (fun _ _ _ => rfl)
        exact hq.read
abbrev Kl : List K3 := [(0, 0, false)]
abbrev Ll : List (List V3) := [[nmV 3], [nmV 1], [nmV 2]]
theorem okl : RowsOk Ll := by simp only [RowsOk, RowOk, I64]; decide
theorem sortl : sortL Kl Ll = [[nmV 1], [nmV 2], [nmV 3]] := by
  refine sortL_uniq Kl Ll _ (Stab.swap (fineO_cmpR Kl) [[nmV 3]] [[nmV 1], [nmV 2]] ?_) ?_
  · intro x hx y hy
    simp only [List.mem_singleton, List.mem_cons, List.not_mem_nil, or_false] at hx hy
    subst hx
    rcases hy with rfl | rfl <;> decide +kernel
  · have h : ([[nmV 1], [nmV 2], [nmV 3]] : List (List V3)).Pairwise (fun x y => cmpR x y Kl ≤ 0) := by decide +kernel
    exact h
/-- a sorter of one's own, made since w -/
structure LvS (K : List K3) (n : Nat) (w : World) (sb : Nat) (LL : List (List V3)) (W : World) (at_ : Option (Nat × Nat)) : Prop where
  ge : w.heap.size ≤ sb
  ag : ∀ b, AtB at_ b → w.heap.size ≤ b
  hB : Below w.heap.size w W
  sor : SorP K n (fun _ => True) LL W (fun _ => False) sb at_
section
variable {K : List K3} {n : Nat} {w : World} {sb : Nat} {LL : List (List V3)} {W W' : World} {at_ : Option (Nat × Nat)}
theorem LvS.below (h : LvS K n w sb LL W at_) (hB : Below W.heap.size W W') : LvS K n w sb LL W' at_ :=
  ⟨h.ge, h.ag, h.hB.trans (hB.mono h.hB.size), h.sor.step (fun b _ h => hB.block b h) (fun b h => .inl h) hB.size⟩
theorem LvS.turn {at' : Option (Nat × Nat)} {LL' : List (List V3)} (h : LvS K n w sb LL W at_) (ht : STurn K n (fun _ => True) (fun _ => False) sb at_ W W' at' LL') : LvS K n w sb LL' W' at' :=
  ⟨h.ge, fun b hb => by
    have := h.hB.size
    rcases ht.own b hb with h1 | h1
    · exact h.ag b h1
    · omega, ht.turn.below h.hB h.hB.size h.ge h.ag, ht.sor⟩
theorem LvS.add (h : LvS K n w sb LL W at_) (hl : LL.length < 65536) {L : List V3} (hL : L.length ≤ 1048576) {x : Value} (hx : ∀ Y : Nat → Prop, (∀ b, Y b → OwnO (fun _ => False) sb at_ b) → CVR W Y (.vs (vc L)) x) :
    Calls Try.prog 10 #[.pointer (some ⟨sb, 0, none⟩), x] W fun e w' => e = .returned (.int .i64 0) ∧ ∃ at', LvS K n w sb (LL ++ [L]) w' at' := by
  refine Calls.mono (h.sor.add (fun _ h => h.elim) hl (lo := 0) (fun _ _ => trivial) hL (rowQ_of (hx _ (fun _ h => h)) (Nat.zero_le _))) ?_
  rintro e w' ⟨he, at', ht⟩
  exact ⟨he, at', h.turn ht⟩
theorem LvS.add1 (h : LvS K n w sb LL W at_) (hl : LL.length < 65536) (z : Int) :
    Calls Try.prog 10 #[.pointer (some ⟨sb, 0, none⟩), .slice (some ⟨W.heap.size, 0, none⟩) 1 1] (W.alloc (.cells #[.int .i64 1, .int .i64 z, .string ⟨#[]⟩] 38)) fun e w' => e = .returned (.int .i64 0) ∧ ∃ at', LvS K n w sb (LL ++ [[nmV z]]) w' at' := by
  have h2 : LvS K n w sb LL (W.alloc (.cells #[.int .i64 1, .int .i64 z, .string ⟨#[]⟩] 38)) at_ := h.below ((Below.refl _ W).alloc (Nat.le_refl _) _)
  refine h2.add hl (by simp) (fun Y hY => row_one (World.alloc_heap_new W _) (fun hb => ?_))
  rcases hY _ hb with h3 | h3 | h3
  · exact h3
  · have := h.sor.lt; omega
  · have := (h.sor.row _ h3).1; omega
theorem LvS.sortN (h : LvS K n w sb LL W at_) (h1 : 1 ≤ n) (h2 : n ≤ 65536) : SortN K LL n (fun _ => False) W (.pointer (some ⟨sb, 0, none⟩)) := .inr ⟨sb, rfl, h.sor.lt, h.sor.sortR h1 h2⟩
end
theorem rows3 {W : World} {Y : Nat → Prop} {b : Nat} {L1 L2 L3 : List V3} {x1 x2 x3 : Value} (h : W.heap[b]? = some (.cells #[x1, x2, x3] 34 (0, 0))) (hY : ¬ Y b) (h1 : CVR W Y (.vs (vc L1)) x1) (h2 : CVR W Y (.vs (vc L2)) x2) (h3 : CVR W Y (.vs (vc L3)) x3) :
    CVR W Y (.vs (rcL [L1, L2, L3])) (.slice (some ⟨b, 0, none⟩) 3 3) := by
  have hl : (rcL [L1, L2, L3]).length = 3 := rfl
  rw [← hl]
  refine .vs _ b 0 1 3 (fun i _ => (#[x1, x2, x3] : Array Value).getD i undef) (rcL_sz _) (Nat.le_refl _) (fun i el hi f cv hf => ?_) (fun i el hi f cv hf => ?_)
  all_goals
    have hi3 : i < 3 := (List.getElem?_eq_some_iff.1 hi).1
    have hi4 : i = 0 ∨ i = 1 ∨ i = 2 := by omega
    have hf0 : f = 0 := by
      have h1 := rcL_sz [L1, L2, L3] el (List.mem_of_getElem? hi)
      have h2 := (List.getElem?_eq_some_iff.1 hf).1
      omega
    subst hf0
  · refine ⟨hY, ?_⟩
    rcases hi4 with rfl | rfl | rfl <;> simp [World.cell?, h]
  · rcases hi4 with rfl | rfl | rfl
    · have : el = [.vs (vc L1)] := (Option.some.inj hi).symm
      subst this; simp at hf; subst hf; exact h1
    · have : el = [.vs (vc L2)] := (Option.some.inj hi).symm
      subst this; simp at hf; subst hf; exact h2
    · have : el = [.vs (vc L3)] := (Option.some.inj hi).symm
      subst this; simp at hf; subst hf; exact h3
theorem canSame : CanEnter Try.prog 16 := canEnter_of Try.func16 (by kernel_rfl) (by kernel_rfl)
theorem same_calls {W : World} {A B : List (List V3)} (hA : RowsOk A) {x y : Value} (h1 : CVR W (fun _ => False) (.vs (rcL A)) x) (h2 : CVR W (fun _ => False) (.vs (rcL B)) y) :
    Calls Try.prog 16 #[x, y] W fun e w' => e = .returned (.bool (decide (A = B))) ∧ Below W.heap.size W w' := by
  refine Calls.mono (FnC.calls canSame (c_r6Same A B hA) W (fun _ => False) [x, y] glo_none (fun _ h => h.elim) (by simp only [DVRs, DVR, and_true]; exact ⟨h1, h2⟩)) ?_
  rintro e w' ⟨v, rfl, hd, hB⟩
  simp only [DVR] at hd
  cases hd
  exact ⟨rfl, hB⟩
theorem newE1 : newE 2 Kl = 0 := by decide +kernel
theorem newE2 : newE 0 [] = 1 := by decide +kernel
theorem newE3 : newE 1 [(-1, 0, false)] = 1 := by decide +kernel
set_option maxRecDepth 100000 in
set_option maxHeartbeats 4000000 in
theorem live_calls (w : World) : Calls Try.prog 9 #[] w fun e w' => e = .returned (.bool true) ∧ Below w.heap.size w w' := by
  go_enter Try.func9, Try.ntmps9
  go_wp2_with fail
  refine Calls.mono (new_calls (K := Kl) 2 (by omega) (by decide) (X := fun _ => False) (fun _ h => h.elim) (key_one (k := (0, 0, false)) (World.alloc_heap_new w _) id) (fun _ => True)) ?_
  rintro e W1 ⟨hB1, ⟨h, _⟩ | ⟨_, sb, rfl, hsb, hS1⟩⟩
  · exact absurd newE1 h
  have hz1 := hB1.size
  rw [World.size_alloc] at hz1 hsb
  have S1 : LvS Kl 2 w sb [] W1 none := ⟨by omega, fun b ⟨_, h⟩ => (by cases h), ((Below.refl _ w).alloc (Nat.le_refl _) _).trans (hB1.mono (by rw [World.size_alloc]; omega)), hS1⟩
  clear hB1 hS1
  go_wp2_with fail
  refine Calls.mono (new_calls (K := []) 0 (by omega) (by decide) (X := fun _ => False) (fun _ h => h.elim) (.nil none) (fun _ => True)) ?_
  rintro e W2 ⟨hB2, ⟨_, rfl⟩ | ⟨h, _⟩⟩
  rotate_left
  · rw [newE2] at h; cases h
  rw [newE2]
  have S2 := S1.below hB2
  clear S1 hB2
  go_wp2_with fail
  refine Calls.mono (new_calls (K := [(-1, 0, false)]) 1 (by omega) (by decide) (X := fun _ => False) (fun _ h => h.elim) (key_one (k := (-1, 0, false)) (World.alloc_heap_new W2 _) id) (fun _ => True)) ?_
  rintro e W3 ⟨hB3, ⟨_, rfl⟩ | ⟨h, _⟩⟩
  rotate_left
  · rw [newE3] at h; cases h
  rw [newE3]
  have S3 := (S2.below ((Below.refl _ W2).alloc (Nat.le_refl _) _)).below hB3
  clear S2 hB3
  go_wp2_with fail
  refine Calls.mono (num_calls W3 3) ?_
  rintro e W4 ⟨rfl, hB4⟩
  have S4 := S3.below hB4
  clear S3 hB4
  go_wp2_with fail
  refine Calls.mono (S4.add1 (by decide) 3) ?_
  rintro e W5 ⟨rfl, at5, S5⟩
  clear S4
  go_wp2_with fail
  refine Calls.mono (num_calls W5 1) ?_
  rintro e W6 ⟨rfl, hB6⟩
  have S6 := S5.below hB6
  clear S5 hB6
  go_wp2_with fail
  refine Calls.mono (S6.add1 (by decide) 1) ?_
  rintro e W7 ⟨rfl, at7, S7⟩
  clear S6
  go_wp2_with fail
  refine Calls.mono (num_calls W7 2) ?_
  rintro e W8 ⟨rfl, hB8⟩
  have S8 := S7.below hB8
  clear S7 hB8
  go_wp2_with fail
  refine Calls.mono (S8.add1 (by decide) 2) ?_
  rintro e W9 ⟨rfl, at9, S9⟩
  clear S8
  have S9 : LvS Kl 2 w sb Ll W9 at9 := S9
  go_wp2_with fail
  refine Calls.mono (all_calls Kl (by decide) Ll okl (by decide) 2 W9 _ rfl (S9.sortN (by omega) (by omega))) ?_
  rintro e W10 ⟨v1, rfl, hB10, hv1⟩
  rw [sortl] at hv1
  have S10 := S9.below hB10
  have r1 := rS_read hv1
  clear S9 hB10 hv1
  go_wp2_with fail
  refine Calls.mono (all_calls Kl (by decide) [] (by simp [RowsOk]) (by decide) 2 W10 (.pointer none) rfl (.inl ⟨rfl, rfl⟩)) ?_
  rintro e W11 ⟨v2, rfl, hB11, hv2⟩
  have S11 := S10.below hB11
  have r2 := cv_on r1 hB11
  obtain ⟨a2, c2, rfl⟩ : ∃ a2 c2, v2 = .slice a2 0 c2 := by
    have hl : sortL Kl [] = [] := List.length_eq_zero_iff.1 (sortL_len Kl [])
    rw [hl] at hv2
    rcases CVR_inv hv2 with ⟨_, a, rfl⟩ | ⟨b, o, sz, c, g, rfl, _⟩
    · exact ⟨_, _, rfl⟩
    · exact ⟨_, _, rfl⟩
  clear S10 hB11 hv2 r1
  go_wp2_with fail
  refine Calls.mono (num_calls W11 1) ?_
  rintro e W12 ⟨rfl, hB12⟩
  have S12 := S11.below hB12
  have r12 := cv_on r2 hB12
  clear S11 hB12 r2
  have A12 : Below W12.heap.size W12 (W12.alloc (.cells #[.int .i64 1, .int .i64 1, .string ⟨#[]⟩] 38)) := (Below.refl _ W12).alloc (Nat.le_refl _) _
  have q12 := row_one (Y := fun _ => False) (z := 1) (World.alloc_heap_new W12 _) id
  go_wp2_with fail
  refine Calls.mono (num_calls (W12.alloc (.cells #[.int .i64 1, .int .i64 1, .string ⟨#[]⟩] 38)) 2) ?_
  rintro e W13 ⟨rfl, hB13⟩
  have S13 := (S12.below A12).below hB13
  have r13 := cv_on (cv_on r12 A12) hB13
  have q13 := cv_on q12 hB13
  clear S12 hB13 r12 q12 A12
  have A13 : Below W13.heap.size W13 (W13.alloc (.cells #[.int .i64 1, .int .i64 2, .string ⟨#[]⟩] 38)) := (Below.refl _ W13).alloc (Nat.le_refl _) _
  have p13 := row_one (Y := fun _ => False) (z := 2) (World.alloc_heap_new W13 _) id
  go_wp2_with fail
  refine Calls.mono (num_calls (W13.alloc (.cells #[.int .i64 1, .int .i64 2, .string ⟨#[]⟩] 38)) 3) ?_
  rintro e W14 ⟨rfl, hB14⟩
  have S14 := (S13.below A13).below hB14
  have r14 := cv_on (cv_on r13 A13) hB14
  have q14 := cv_on (cv_on q13 A13) hB14
  have p14 := cv_on p13 hB14
  clear S13 hB14 r13 q13 p13 A13
  have A14 : Below W14.heap.size W14 (W14.alloc (.cells #[.int .i64 1, .int .i64 3, .string ⟨#[]⟩] 38)) := (Below.refl _ W14).alloc (Nat.le_refl _) _
  have o14 := row_one (Y := fun _ => False) (z := 3) (World.alloc_heap_new W14 _) id
  have S15 := S14.below A14
  have r15 := cv_on r14 A14
  have q15 := cv_on q14 A14
  have p15 := cv_on p14 A14
  clear S14 r14 q14 p14 A14
  go_wp2_with fail
  obtain ⟨Wr, hWr⟩ : ∃ Wr, Wr = W14.alloc (.cells #[.int .i64 1, .int .i64 3, .string ⟨#[]⟩] 38) := ⟨_, rfl⟩
  have ew : W14.heap.size + 1 = Wr.heap.size := by rw [hWr]; simp
  rw [← hWr] at S15 r15 q15 p15 o14 ⊢
  rw [ew]
  clear hWr ew
  have A15 : Below Wr.heap.size Wr (Wr.alloc (.cells #[.slice (some ⟨W12.heap.size, 0, none⟩) 1 1, .slice (some ⟨W13.heap.size, 0, none⟩) 1 1, .slice (some ⟨W14.heap.size, 0, none⟩) 1 1] 34)) := (Below.refl _ Wr).alloc (Nat.le_refl _) _
  refine Calls.mono (same_calls (A := [[nmV 1], [nmV 2], [nmV 3]]) (B := [[nmV 1], [nmV 2], [nmV 3]]) (by simp only [RowsOk, RowOk, I64]; decide) (cv_on r15 A15) (rows3 (World.alloc_heap_new Wr _) id (cv_on q15 A15) (cv_on p15 A15) (cv_on o14 A15))) ?_
  rintro e W16 ⟨rfl, hB16⟩
  have S16 := (S15.below A15).below hB16
  clear S15 hB16 r15 q15 p15 o14 A15
  have hd : decide (([[nmV 1], [nmV 2], [nmV 3]] : List (List V3)) = [[nmV 1], [nmV 2], [nmV 3]]) = true := decide_eq_true rfl
  rw [hd]
  clear hd
  go_wp2_with fail
  refine Calls.mono S16.sor.len_calls ?_
  rintro e _ ⟨rfl, rfl⟩
  go_wp2_with fail
  refine Calls.mono (S16.sor.runs_len (by omega) (by omega) (by decide)) ?_
  rintro e W17 ⟨rfl, hB17⟩
  have S17 := S16.below hB17
  clear S16 hB17
  go_wp2_with fail
  refine Calls.mono (add_nil _) ?_
  rintro e _ ⟨rfl, rfl⟩
  go_wp2_with fail
  refine Calls.mono len_nil ?_
  rintro e _ ⟨rfl, rfl⟩
  go_wp2_with fail
  refine Calls.mono runs_nil ?_
  rintro e _ ⟨rfl, rfl⟩
  go_wp2_with fail
  go_ret
  exact ⟨rfl, S17.hB⟩
end Go.Proofs.Ytdgjcdhomfhfpaa
