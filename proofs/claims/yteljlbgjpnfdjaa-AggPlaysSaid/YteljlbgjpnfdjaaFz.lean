/- Small lemmas that all walks of this seat use: what is below a block number stays as it was; the end of a body. No condition. From a contract over closed data to a call's. No condition. From the given reading of an argument to closed data: slices of elements that read as closed data. No condition. From the given reading of lists of values, of ints and of small numbers to closed data. No condition. -/
import Derived.Test.YteljlbgjpnfdjaaRows
import Derived.WalkKit
import Derived.ProofKit
import Derived.OpenShut
import Derived.WalkSpells
import Derived.WalkLawsBesides
import Derived.BigQuiet
import Derived.Lib.Hide
import Derived.Test.YteljlbgjpnfdjaaEz
import Derived.Deep.Slices
namespace Go.Proofs.Yteljlbgjpnfdjaa
open Go.ChangeShapes Go.WideShapes Go.ChangeAt Go.RowKit
set_option linter.unusedSimpArgs false
set_option linter.unusedVariables false

/-- A call that only computes: it hands back v, and nothing that was there has changed. -/
def Ret (v : Value) (w : World) (e : Ending) (w' : World) : Prop := e = .returned v ∧ Below w.heap.size w w'

/-- A world that is w but for new blocks. -/
structure Later (w : World) where
  world : World
  below : Below w.heap.size w world
instance (w : World) : Nonempty (Later w) := ⟨⟨w, Below.refl _ _⟩⟩
end Go.Proofs.Yteljlbgjpnfdjaa
def Go.World.plus (w : Go.World) (x : Go.Proofs.Yteljlbgjpnfdjaa.Later w) : Go.World := x.world
namespace Go.Proofs.Yteljlbgjpnfdjaa
open Go.ChangeShapes Go.WideShapes Go.ChangeAt Go.RowKit
set_option linter.unusedSimpArgs false
set_option linter.unusedVariables false
theorem plus_cell (w : World) (x : Later w) (b o : Nat) (h : b < w.heap.size) : (w.plus x).cell? ⟨b, o, none⟩ = w.cell? ⟨b, o, none⟩ := x.below.cell (p := ⟨b, o, none⟩) h
theorem plus_frozen (w : World) (x : Later w) (b o : Nat) (h : b < w.heap.size) : (w.plus x).frozen? ⟨b, o, none⟩ = w.frozen? ⟨b, o, none⟩ := x.below.frozen (p := ⟨b, o, none⟩) h
attribute [go_sem] plus_cell plus_frozen
end Go.Proofs.Yteljlbgjpnfdjaa
namespace Go.Proofs.Yteljlbgjpnfdjaa
open Go.RowKit
set_option linter.unusedSimpArgs false
set_option linter.unusedVariables false
theorem wf_i64 {n : Int} (h : (Lit.int .i64 n).wf = true) : I64 n := by simpa [Lit.wf, IntKind.min, IntKind.max, IntKind.bits, IntKind.signed] using h
end Go.Proofs.Yteljlbgjpnfdjaa
namespace Go.Proofs.Yteljlbgjpnfdjaa
open Go.RowKit Go.ChangeShapes Go.WideShapes
set_option linter.unusedSimpArgs false
set_option linter.unusedVariables false

theorem CVRs.at {w : World} {X : Nat → Prop} : ∀ {cs : List CV} {rs : List Value}, CVRs w X cs rs → ∀ (f : Nat) (c : CV), cs[f]? = some c → ∃ r, rs[f]? = some r ∧ CVR w X c r
  | [], [], _, f, c, h => by simp at h
  | c0 :: cs, r :: rs, hr, 0, c, h => by
    simp only [CVRs] at hr
    simp only [List.getElem?_cons_zero, Option.some.injEq] at h
    subst h
    exact ⟨r, rfl, hr.1⟩
  | c0 :: cs, r :: rs, hr, f + 1, c, h => by
    simp only [CVRs] at hr
    simp only [List.getElem?_cons_succ] at h ⊢
    exact CVRs.at hr.2 f c h
  | [], _ :: _, hr, _, _, _ => by simp only [CVRs] at hr
  | _ :: _, [], hr, _, _, _ => by simp only [CVRs] at hr
theorem CVRs.len {w : World} {X : Nat → Prop} : ∀ {cs : List CV} {rs : List Value}, CVRs w X cs rs → cs.length = rs.length
  | [], [], _ => rfl
  | c0 :: cs, r :: rs, hr => by
    simp only [CVRs] at hr
    simp only [List.length_cons, CVRs.len hr.2]
  | [], _ :: _, hr => by simp only [CVRs] at hr
  | _ :: _, [], hr => by simp only [CVRs] at hr
theorem ret_ofF {P : Program} {f : FuncId} {args : List DV} (hent : CanEnter P f) (h : FnC P f args (bD true)) (vs : Array Value) (w : World) (hg : Glo w) (hv : DVRs w (fun _ => False) args vs.toList) : Calls P f vs w (Ret (.bool true) w) := by
  have := h.calls hent w (fun _ => False) vs.toList hg (fun _ h => h.elim) hv
  refine Calls.mono (by simpa using this) ?_
  rintro e w' ⟨v, rfl, hr, hb⟩
  simp only [DVR] at hr
  cases hr
  exact ⟨rfl, hb⟩
section
variable {H : Type} {enc : TypeId × Value → H} {P : Program} {W : World}
/-- a slice, cell by cell -/
theorem slice_cells {t e : TypeId} (ht : P.underlying t = some (.slice e)) (hpos : 0 < P.cellsOf e) (Q : List CV → Prop)
    (hel : ∀ n cs x, DataW.trod enc P W 0 (fun _ => true) true n e cs = some x → ∃ el : List CV, CVRs W (fun _ => False) el cs ∧ Q el)
    {fuel : Nat} {v : Value} {x : DataW H × List MemPlace} (hsp : ∀ a c, v = .slice (some a) 0 c → a.spot = none) (h : DataW.trod enc P W 0 (fun _ => true) true fuel t [v] = some x) :
    ∃ els : List (List CV), CVR W (fun _ => False) (.vs els) v ∧ (∀ el ∈ els, Q el) ∧ els.length ≤ maxLen := by
  rcases Go.Deep.open_slice ht h with ⟨h0, _⟩ | ⟨a, len, cap, m, n, D, Pl, hv, hb, hl, hm, hmm, _, hx⟩
  · simp only [List.cons.injEq, and_true] at h0
    subst h0
    exact ⟨[], .nil _, by simp, Nat.zero_le _⟩
  · simp only [List.cons.injEq, and_true] at hv
    subst hv
    have hmm : m = cap := by simpa using hmm
    subst hmm
    have each : ∀ i, i < len → ∃ q : List CV × List Value, W.cells? 0 (a.add (i * P.cellsOf e)) (P.cellsOf e) = some q.2 ∧ CVRs W (fun _ => False) q.1 q.2 ∧ Q q.1 := fun i hi => by
      obtain ⟨cs', h1, h2⟩ := hx i (by omega)
      obtain ⟨el, h3, h4⟩ := hel _ _ _ h2
      exact ⟨(el, cs'), h1, h3, h4⟩
    obtain ⟨q, hq⟩ := Go.Deep.choose_lt each
    have hl1 : ((List.range len).map fun i => (q i).1).length = len := by simp
    have hin : ∀ (i : Nat) (el : List CV), ((List.range len).map fun i => (q i).1)[i]? = some el → i < len ∧ el = (q i).1 := fun i el hi => by
      by_cases h : i < len
      · rw [List.getElem?_map, List.getElem?_range h] at hi
        simp only [Option.map_some, Option.some.injEq] at hi
        exact ⟨h, hi.symm⟩
      · rw [List.getElem?_eq_none (by simp; omega)] at hi
        cases hi
    have hlen : ∀ i, i < len → (q i).1.length = P.cellsOf e ∧ (q i).2.length = P.cellsOf e := fun i hi => by
      obtain ⟨h1, h2, _⟩ := hq i hi
      obtain ⟨_, h3, _⟩ := World.cells?_some h1
      exact ⟨by rw [CVRs.len h2, h3], h3⟩
    refine ⟨(List.range len).map fun i => (q i).1, ?_, ?_, by rw [hl1]; omega⟩
    · have hspot : a.spot = none := by
        by_cases h0 : len = 0
        · subst h0; exact hsp a m rfl
        · obtain ⟨h1, _, _⟩ := hq 0 (by omega)
          obtain ⟨_, h3, h4⟩ := World.cells?_some h1
          have h5 := h4 0 hpos
          rw [List.getElem?_eq_getElem (by omega)] at h5
          have := World.cell?_spot h5
          simpa [Addr.add] using this
      obtain ⟨b, o, spot⟩ := a
      have hspot : spot = none := hspot
      subst hspot
      have hc := CVR.vs (w := W) (X := fun _ => False) ((List.range len).map fun i => (q i).1) b o (P.cellsOf e) m (fun i f => ((q i).2[f]?).getD default)
        (fun el hel => by
          simp only [List.mem_map, List.mem_range] at hel
          obtain ⟨i, hi, rfl⟩ := hel
          exact (hlen i hi).1)
        (by rw [hl1]; exact hl)
        (fun i el hi f cv hf => by
          obtain ⟨hj, rfl⟩ := hin i el hi
          have hf2 : f < P.cellsOf e := by
            rw [← (hlen i hj).1]
            exact (List.getElem?_eq_some_iff.1 hf).1
          obtain ⟨h1, h2, _⟩ := hq i hj
          obtain ⟨_, h3, h4⟩ := World.cells?_some h1
          have h5 := h4 f hf2
          rw [Go.WideShapes.add_plain, Go.WideShapes.add_plain, List.getElem?_eq_getElem (by omega)] at h5
          refine ⟨fun h => h, ?_⟩
          rw [h5, List.getElem?_eq_getElem (by omega)]; rfl)
        (fun i el hi f cv hf => by
          obtain ⟨hj, rfl⟩ := hin i el hi
          obtain ⟨_, h2, _⟩ := hq i hj
          obtain ⟨r, hr, hv⟩ := h2.at f cv hf
          rw [hr]; exact hv)
      rwa [hl1] at hc
    · intro el hel
      simp only [List.mem_map, List.mem_range] at hel
      obtain ⟨i, hi, rfl⟩ := hel
      exact (hq i hi).2.2
theorem slice_arg {t e : TypeId} (ht : P.underlying t = some (.slice e)) (hpos : 0 < P.cellsOf e) (Q : List CV → Prop)
    (hel : ∀ n cs x, DataW.trod enc P W 0 (fun _ => true) true n e cs = some x → ∃ el : List CV, CVRs W (fun _ => False) el cs ∧ Q el)
    {v : Value} {d : DataW H} {ps : List MemPlace} (hval : Value.okWide P W .any 0 t v) (h : DataW.Trod enc P W 0 (fun _ => true) true t v d ps) :
    ∃ els : List (List CV), CVR W (fun _ => False) (.vs els) v ∧ (∀ el ∈ els, Q el) ∧ els.length ≤ maxLen := by
  obtain ⟨fuel, h⟩ := h
  unfold Value.okWide at hval
  rw [ht] at hval
  simp only [] at hval
  have hc : v.cells.toList = [v] := by
    cases v <;> first | rfl | (exfalso; unfold Cell.okWide Cell.ok at hval; rw [ht] at hval; exact hval)
  rw [hc] at h
  refine slice_cells ht hpos Q hel (fun a c e => ?_) h
  subst e
  unfold Cell.okWide Cell.ok at hval
  rw [ht] at hval
  exact hval.2.2.2.1
/-- the cells of a value of three fields -/
theorem val_cells {t : TypeId} {f0 f1 f2 : Field} (ht : P.underlying t = some (.struct #[f0, f1, f2])) (ct : P.cellsOf t = 3) (o0 : f0.offset = 0) (o1 : f1.offset = 1) (o2 : f2.offset = 2)
    (c0 : P.cellsOf f0.type = 1) (c1 : P.cellsOf f1.type = 1) (c2 : P.cellsOf f2.type = 1) (h0 : P.underlying f0.type = some (.int .i64)) (h1 : P.underlying f1.type = some (.int .i64)) (h2 : P.underlying f2.type = some .string)
    (n : Nat) (cs : List Value) (x : DataW H × List MemPlace) (h : DataW.trod enc P W 0 (fun _ => true) true n t cs = some x) :
    ∃ el : List CV, CVRs W (fun _ => False) el cs ∧ ∃ v : V3, el = [.v (.int .i64 v.1), .v (.int .i64 v.2.1), .v (.string (bs v.2.2))] ∧ I64 v.1 ∧ I64 v.2.1 ∧ v.2.2.length ≤ maxLen := by
  obtain ⟨xs, k, _, _, hl, hxl, hf⟩ := DataW.trod_struct ht h
  rw [ct] at hl
  match cs, hl, xs, hxl with
  | [a, b, c], _, [y0, y1, y2], _ =>
    have g0 := hf 0 f0 rfl
    have g1 := hf 1 f1 rfl
    have g2 := hf 2 f2 rfl
    simp [o0, o1, o2, c0, c1, c2] at g0 g1 g2
    obtain ⟨z0, e0, _, w0⟩ := DataW.trod_int h0 g0
    obtain ⟨z1, e1, _, w1⟩ := DataW.trod_int h1 g1
    obtain ⟨s, e2, _, w2⟩ := DataW.trod_string h2 g2
    simp only [List.cons.injEq, and_true] at e0 e1 e2
    subst e0 e1 e2
    refine ⟨[.v (.int .i64 z0), .v (.int .i64 z1), .v (.string s)], ?_, (z0, z1, s.data.toList), ?_, wf_i64 w0, wf_i64 w1, w2⟩
    · simp only [CVRs]
      exact ⟨.v _ rfl, .v _ rfl, .v _ rfl, trivial⟩
    · show _ = [_, _, CV.v (.string (bs s.data.toList))]
      rw [← bs_of s]
end
end Go.Proofs.Yteljlbgjpnfdjaa
namespace Go.Proofs.Yteljlbgjpnfdjaa
open Go.RowKit Go.ChangeShapes Go.WideShapes Go.IntWalk
set_option linter.unusedSimpArgs false
set_option linter.unusedVariables false

def ValOk (v : V3) : Prop := I64 v.1 ∧ I64 v.2.1 ∧ v.2.2.length ≤ maxLen
theorem vals_of : ∀ {els : List (List CV)}, (∀ el ∈ els, ∃ v : V3, el = [.v (.int .i64 v.1), .v (.int .i64 v.2.1), .v (.string (bs v.2.2))] ∧ I64 v.1 ∧ I64 v.2.1 ∧ v.2.2.length ≤ maxLen) →
    ∃ L : List V3, els = vc L ∧ ∀ v ∈ L, ValOk v
  | [], _ => ⟨[], rfl, by simp⟩
  | el :: els, h => by
    obtain ⟨v, rfl, hv⟩ := h el (by simp)
    obtain ⟨L, rfl, hL⟩ := vals_of (els := els) fun e he => h e (by simp [he])
    refine ⟨v :: L, rfl, fun u hu => ?_⟩
    rcases List.mem_cons.1 hu with rfl | hu
    · exact hv
    · exact hL u hu
set_option maxRecDepth 100000 in
theorem vals_arg {H : Type} {enc : TypeId × Value → H} {W : World} {v : Value} {d : DataW H} {ps : List MemPlace} (hval : Value.okWide Try.prog W .any 0 22 v) (h : DataW.Trod enc Try.prog W 0 (fun _ => true) true 22 v d ps) :
    ∃ L : List V3, CVR W (fun _ => False) (.vs (vc L)) v ∧ (∀ v ∈ L, ValOk v) ∧ L.length ≤ maxLen := by
  obtain ⟨els, h1, h2, h3⟩ := slice_arg Try.underlying22 (of_decide_eq_true (by kernel_rfl)) _ (val_cells Try.underlying33 (by kernel_rfl) rfl rfl rfl (by kernel_rfl) (by kernel_rfl) (by kernel_rfl) Try.underlying3 Try.underlying2 Try.underlying9) hval h
  obtain ⟨L, rfl, hL⟩ := vals_of h2
  exact ⟨L, h1, hL, by rwa [vc_len] at h3⟩
/- numbers -/
end Go.Proofs.Yteljlbgjpnfdjaa
