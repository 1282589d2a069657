/-
  No cell of these rows narrows 'for every input' (looked for: loops, veiled, ifaces, maps, wideKeys, modest, calm, conditions, laid).
  DERIVED. THE GIVEN ROWS OF THIS SEAT. 6 by the template 'for every input the law returns true; each argument reads behind the call as it read before'; 0 by the template 'total and deterministic' (their statements: YtbgndledcnfceaaTotals.lean).
  GIVEN WITH THE SEED: the statements are not yours to turn. If you find one false, say at which input.
  Laid BY PROGRAM, IN A SANDBOX (cutbox-rows.mjs): the forced cells as the released guide's own fill.sh prints them over the translation c0dce557f2becfa6… (all of the seat's roots in one cut). By AI agents, Wed Nov 11 2026. No macro, syntax, notation, axiom, sorry.
-/
import Derived.Test.YtbgndledcnfceaaChecked
import GoSem.Claim
import GoSem.ClaimJoined
import GoSem.ClaimMapViews
import Derived.JoinedTies
import Derived.KernelRfl
namespace Go.Proofs.Ytbgndledcnfceaa
/- THE CELL 'sum', in the pinned program and in every row, IS THE sha256 OF THE DUMP (.gsa) THAT YtbgndledcnfceaaProg.lean LOADS. Nothing in Lean hashes anything: it is a label: what it is worth is what the hold of that sum in a sandbox is worth. -/
noncomputable def Try.pinned : Pinned := { name := "ytbgndledcnfceaa", sum := "c0dce557f2becfa6c626941d3f6c22d095a09df887f722190f2bead9561191d5", checked := Try.checked }
namespace Rows
def none {H : Type} : Left H := { results := [], args := [] }

/-- 'tomelaw04.ValueOrders': WHATEVER THE INPUT: true; the input reads as it did. -/
def valueOrdersSpec : ChangeSpec := { name := "valueOrders", fn := fun _ => fun
  | [d1, d2, d3] => { results := [.lit (.bool true)], args := [d1, d2, d3] }
  | _ => none }
def valueOrdersRow : OpenClaim := { program := "ytbgndledcnfceaa", sum := "c0dce557f2becfa6c626941d3f6c22d095a09df887f722190f2bead9561191d5", func := "tome/tomelaw04.ValueOrders", spec := "valueOrders", inPlace := ["internal/bytealg.IndexByteString", "internal/bytealg.IndexString", "internal/bytealg.abigen_runtime_cmpstring"], named := ["internal/bytealg.MaxLen"], apart := false }
def ValueOrdersSaid : Prop := valueOrdersRow.holds Try.pinned (OpenSpec.ofChange valueOrdersSpec)

/-- ITS FALSE NEIGHBOUR: 'it returns false'. Refute it at one input. -/
def valueOrdersWrong : ChangeSpec := { name := "valueOrders", fn := fun _ => fun
  | [d1, d2, d3] => { results := [.lit (.bool false)], args := [d1, d2, d3] }
  | _ => none }
def ValueOrdersWrongFalsely : Prop := valueOrdersRow.holds Try.pinned (OpenSpec.ofChange valueOrdersWrong)

/-- 'tomelaw04.ValueReckons': WHATEVER THE INPUT: true; the input reads as it did. -/
def valueReckonsSpec : ChangeSpec := { name := "valueReckons", fn := fun _ => fun
  | [d1, d2, d3] => { results := [.lit (.bool true)], args := [d1, d2, d3] }
  | _ => none }
def valueReckonsRow : OpenClaim := { program := "ytbgndledcnfceaa", sum := "c0dce557f2becfa6c626941d3f6c22d095a09df887f722190f2bead9561191d5", func := "tome/tomelaw04.ValueReckons", spec := "valueReckons", inPlace := ["internal/bytealg.IndexByteString", "internal/bytealg.IndexString", "internal/bytealg.abigen_runtime_cmpstring"], recurses := true, named := ["internal/bytealg.MaxLen"], apart := false }
def ValueReckonsSaid : Prop := valueReckonsRow.holds Try.pinned (OpenSpec.ofChange valueReckonsSpec)

/-- ITS FALSE NEIGHBOUR: 'it returns false'. Refute it at one input. -/
def valueReckonsWrong : ChangeSpec := { name := "valueReckons", fn := fun _ => fun
  | [d1, d2, d3] => { results := [.lit (.bool false)], args := [d1, d2, d3] }
  | _ => none }
def ValueReckonsWrongFalsely : Prop := valueReckonsRow.holds Try.pinned (OpenSpec.ofChange valueReckonsWrong)

/-- 'tomelaw04.ValueOrder': WHATEVER THE INPUT: true; the input reads as it did. -/
def valueOrderSpec : ChangeSpec := { name := "valueOrder", fn := fun _ => fun
  | [d1, d2, d3] => { results := [.lit (.bool true)], args := [d1, d2, d3] }
  | _ => none }
def valueOrderRow : OpenClaim := { program := "ytbgndledcnfceaa", sum := "c0dce557f2becfa6c626941d3f6c22d095a09df887f722190f2bead9561191d5", func := "tome/tomelaw04.ValueOrder", spec := "valueOrder", inPlace := ["internal/bytealg.IndexByteString", "internal/bytealg.IndexString", "internal/bytealg.abigen_runtime_cmpstring"], named := ["internal/bytealg.MaxLen"], apart := false }
def ValueOrderSaid : Prop := valueOrderRow.holds Try.pinned (OpenSpec.ofChange valueOrderSpec)

/-- ITS FALSE NEIGHBOUR: 'it returns false'. Refute it at one input. -/
def valueOrderWrong : ChangeSpec := { name := "valueOrder", fn := fun _ => fun
  | [d1, d2, d3] => { results := [.lit (.bool false)], args := [d1, d2, d3] }
  | _ => none }
def ValueOrderWrongFalsely : Prop := valueOrderRow.holds Try.pinned (OpenSpec.ofChange valueOrderWrong)

/-- 'tomelaw04.ValueUndoes': WHATEVER THE INPUT: true; the input reads as it did. -/
def valueUndoesSpec : ChangeSpec := { name := "valueUndoes", fn := fun _ => fun
  | [d1, d2] => { results := [.lit (.bool true)], args := [d1, d2] }
  | _ => none }
def valueUndoesRow : OpenClaim := { program := "ytbgndledcnfceaa", sum := "c0dce557f2becfa6c626941d3f6c22d095a09df887f722190f2bead9561191d5", func := "tome/tomelaw04.ValueUndoes", spec := "valueUndoes", inPlace := ["internal/bytealg.IndexByteString", "internal/bytealg.IndexString", "internal/bytealg.abigen_runtime_cmpstring"], named := ["internal/bytealg.MaxLen"], apart := false }
def ValueUndoesSaid : Prop := valueUndoesRow.holds Try.pinned (OpenSpec.ofChange valueUndoesSpec)

/-- ITS FALSE NEIGHBOUR: 'it returns false'. Refute it at one input. -/
def valueUndoesWrong : ChangeSpec := { name := "valueUndoes", fn := fun _ => fun
  | [d1, d2] => { results := [.lit (.bool false)], args := [d1, d2] }
  | _ => none }
def ValueUndoesWrongFalsely : Prop := valueUndoesRow.holds Try.pinned (OpenSpec.ofChange valueUndoesWrong)

/-- 'tomelaw04.ValueCasts': WHATEVER THE INPUT: true; the input reads as it did. -/
def valueCastsSpec : ChangeSpec := { name := "valueCasts", fn := fun _ => fun
  | [d1, d2] => { results := [.lit (.bool true)], args := [d1, d2] }
  | _ => none }
def valueCastsRow : OpenClaim := { program := "ytbgndledcnfceaa", sum := "c0dce557f2becfa6c626941d3f6c22d095a09df887f722190f2bead9561191d5", func := "tome/tomelaw04.ValueCasts", spec := "valueCasts", inPlace := ["internal/bytealg.IndexByteString", "internal/bytealg.IndexString", "internal/bytealg.abigen_runtime_cmpstring"], recurses := true, named := ["internal/bytealg.MaxLen"], apart := false }
def ValueCastsSaid : Prop := valueCastsRow.holds Try.pinned (OpenSpec.ofChange valueCastsSpec)

/-- ITS FALSE NEIGHBOUR: 'it returns false'. Refute it at one input. -/
def valueCastsWrong : ChangeSpec := { name := "valueCasts", fn := fun _ => fun
  | [d1, d2] => { results := [.lit (.bool false)], args := [d1, d2] }
  | _ => none }
def ValueCastsWrongFalsely : Prop := valueCastsRow.holds Try.pinned (OpenSpec.ofChange valueCastsWrong)

/-- 'tomelaw04.ValueFits': WHATEVER THE INPUT: true; the input reads as it did. -/
def valueFitsSpec : ChangeSpec := { name := "valueFits", fn := fun _ => fun
  | [d1, d2] => { results := [.lit (.bool true)], args := [d1, d2] }
  | _ => none }
def valueFitsRow : OpenClaim := { program := "ytbgndledcnfceaa", sum := "c0dce557f2becfa6c626941d3f6c22d095a09df887f722190f2bead9561191d5", func := "tome/tomelaw04.ValueFits", spec := "valueFits", inPlace := ["internal/bytealg.IndexByteString", "internal/bytealg.IndexString", "internal/bytealg.abigen_runtime_cmpstring"], named := ["internal/bytealg.MaxLen"], apart := false }
def ValueFitsSaid : Prop := valueFitsRow.holds Try.pinned (OpenSpec.ofChange valueFitsSpec)

/-- ITS FALSE NEIGHBOUR: 'it returns false'. Refute it at one input. -/
def valueFitsWrong : ChangeSpec := { name := "valueFits", fn := fun _ => fun
  | [d1, d2] => { results := [.lit (.bool false)], args := [d1, d2] }
  | _ => none }
def ValueFitsWrongFalsely : Prop := valueFitsRow.holds Try.pinned (OpenSpec.ofChange valueFitsWrong)

/- THE SECOND FORM. 'bulk': how many values and letters a reading holds, each counted each time it is reached (what is shared counts as often as it is met; a slice's spare places count too). A statement '..UptoSaid' is the law's where the arguments, and the package variables that the reading takes, are together of bulk at most 1048576: NARROWER than '..Said'. Prove '..Said' where nothing that the law and all that it calls make is longer than what came in: it says more and counts as full. Else prove '..UptoSaid'. A law counts once. -/
mutual
def uptoBulk {H : Type} : DataW H → Nat
  | .lit (.string bytes) => bytes.length + 1
  | .lit _ => 1
  | .nil => 1
  | .ptr d => uptoBulk d + 1
  | .slice elems spare => uptoBulkAll elems + uptoBulkAll spare + 1
  | .agg parts => uptoBulkAll parts + 1
  | .iface _ d => uptoBulk d + 1
  | .map entries => uptoBulkEntries entries + 1
  | .held _ => 1
def uptoBulkAll {H : Type} : List (DataW H) → Nat
  | [] => 0
  | d :: r => uptoBulk d + uptoBulkAll r
def uptoBulkEntries {H : Type} : List (Lit × DataW H) → Nat
  | [] => 0
  | x :: r => uptoBulkEntry x + uptoBulkEntries r
def uptoBulkEntry {H : Type} : Lit × DataW H → Nat
  | (.string bytes, d) => bytes.length + uptoBulk d + 1
  | (_, d) => uptoBulk d + 1
 end
def uptoSmall : (H : Type) → List (DataW H) → Bool := fun _ ds => decide (uptoBulkAll ds ≤ 1048576)
def OpenSpec.upto (s : _root_.Go.ChangeSpec) : _root_.Go.OpenSpec := { _root_.Go.OpenSpec.ofChange s with cond := some uptoSmall }

/-- 'tomelaw04.ValueOrders', WHERE WHAT IT READS IS OF BULK AT MOST 1048576: true; the input reads as it did. -/
def valueOrdersUptoRow : OpenClaim := { program := "ytbgndledcnfceaa", sum := "c0dce557f2becfa6c626941d3f6c22d095a09df887f722190f2bead9561191d5", func := "tome/tomelaw04.ValueOrders", spec := "valueOrders", inPlace := ["internal/bytealg.IndexByteString", "internal/bytealg.IndexString", "internal/bytealg.abigen_runtime_cmpstring"], named := ["internal/bytealg.MaxLen"], apart := false, narrowed := true }
def ValueOrdersUptoSaid : Prop := valueOrdersUptoRow.holds Try.pinned (OpenSpec.upto valueOrdersSpec)

/-- 'tomelaw04.ValueReckons', WHERE WHAT IT READS IS OF BULK AT MOST 1048576: true; the input reads as it did. -/
def valueReckonsUptoRow : OpenClaim := { program := "ytbgndledcnfceaa", sum := "c0dce557f2becfa6c626941d3f6c22d095a09df887f722190f2bead9561191d5", func := "tome/tomelaw04.ValueReckons", spec := "valueReckons", inPlace := ["internal/bytealg.IndexByteString", "internal/bytealg.IndexString", "internal/bytealg.abigen_runtime_cmpstring"], recurses := true, named := ["internal/bytealg.MaxLen"], apart := false, narrowed := true }
def ValueReckonsUptoSaid : Prop := valueReckonsUptoRow.holds Try.pinned (OpenSpec.upto valueReckonsSpec)

/-- 'tomelaw04.ValueOrder', WHERE WHAT IT READS IS OF BULK AT MOST 1048576: true; the input reads as it did. -/
def valueOrderUptoRow : OpenClaim := { program := "ytbgndledcnfceaa", sum := "c0dce557f2becfa6c626941d3f6c22d095a09df887f722190f2bead9561191d5", func := "tome/tomelaw04.ValueOrder", spec := "valueOrder", inPlace := ["internal/bytealg.IndexByteString", "internal/bytealg.IndexString", "internal/bytealg.abigen_runtime_cmpstring"], named := ["internal/bytealg.MaxLen"], apart := false, narrowed := true }
def ValueOrderUptoSaid : Prop := valueOrderUptoRow.holds Try.pinned (OpenSpec.upto valueOrderSpec)

/-- 'tomelaw04.ValueUndoes', WHERE WHAT IT READS IS OF BULK AT MOST 1048576: true; the input reads as it did. -/
def valueUndoesUptoRow : OpenClaim := { program := "ytbgndledcnfceaa", sum := "c0dce557f2becfa6c626941d3f6c22d095a09df887f722190f2bead9561191d5", func := "tome/tomelaw04.ValueUndoes", spec := "valueUndoes", inPlace := ["internal/bytealg.IndexByteString", "internal/bytealg.IndexString", "internal/bytealg.abigen_runtime_cmpstring"], named := ["internal/bytealg.MaxLen"], apart := false, narrowed := true }
def ValueUndoesUptoSaid : Prop := valueUndoesUptoRow.holds Try.pinned (OpenSpec.upto valueUndoesSpec)

/-- 'tomelaw04.ValueCasts', WHERE WHAT IT READS IS OF BULK AT MOST 1048576: true; the input reads as it did. -/
def valueCastsUptoRow : OpenClaim := { program := "ytbgndledcnfceaa", sum := "c0dce557f2becfa6c626941d3f6c22d095a09df887f722190f2bead9561191d5", func := "tome/tomelaw04.ValueCasts", spec := "valueCasts", inPlace := ["internal/bytealg.IndexByteString", "internal/bytealg.IndexString", "internal/bytealg.abigen_runtime_cmpstring"], recurses := true, named := ["internal/bytealg.MaxLen"], apart := false, narrowed := true }
def ValueCastsUptoSaid : Prop := valueCastsUptoRow.holds Try.pinned (OpenSpec.upto valueCastsSpec)

/-- 'tomelaw04.ValueFits', WHERE WHAT IT READS IS OF BULK AT MOST 1048576: true; the input reads as it did. -/
def valueFitsUptoRow : OpenClaim := { program := "ytbgndledcnfceaa", sum := "c0dce557f2becfa6c626941d3f6c22d095a09df887f722190f2bead9561191d5", func := "tome/tomelaw04.ValueFits", spec := "valueFits", inPlace := ["internal/bytealg.IndexByteString", "internal/bytealg.IndexString", "internal/bytealg.abigen_runtime_cmpstring"], named := ["internal/bytealg.MaxLen"], apart := false, narrowed := true }
def ValueFitsUptoSaid : Prop := valueFitsUptoRow.holds Try.pinned (OpenSpec.upto valueFitsSpec)

end Rows
end Go.Proofs.Ytbgndledcnfceaa
