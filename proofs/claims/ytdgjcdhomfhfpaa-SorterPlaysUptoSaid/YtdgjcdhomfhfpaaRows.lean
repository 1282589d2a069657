/-
  No cell of these rows narrows 'for every input' (looked for: loops, veiled, ifaces, maps, wideKeys, modest, calm, conditions, laid).
  DERIVED. THE GIVEN ROWS OF THIS SEAT. 3 by the template 'for every input the law returns true; each argument reads behind the call as it read before'; 0 by the template 'total and deterministic' (their statements: YtdgjcdhomfhfpaaTotals.lean).
  GIVEN WITH THE SEED: the statements are not yours to turn. If you find one false, say at which input.
  Laid BY PROGRAM, IN A SANDBOX (cutbox-rows.mjs): the forced cells as the released guide's own fill.sh prints them over the translation f1265d4438fa7ebc… (all of the seat's roots in one cut). By AI agents, Wed Nov 11 2026. No macro, syntax, notation, axiom, sorry.
-/
import Derived.Test.YtdgjcdhomfhfpaaChecked
import GoSem.Claim
import GoSem.ClaimJoined
import GoSem.ClaimMapViews
import Derived.JoinedTies
import Derived.KernelRfl
namespace Go.Proofs.Ytdgjcdhomfhfpaa
/- THE CELL 'sum', in the pinned program and in every row, IS THE sha256 OF THE DUMP (.gsa) THAT YtdgjcdhomfhfpaaProg.lean LOADS. Nothing in Lean hashes anything: it is a label: what it is worth is what the hold of that sum in a sandbox is worth. -/
noncomputable def Try.pinned : Pinned := { name := "ytdgjcdhomfhfpaa", sum := "f1265d4438fa7ebc893f2a5447078480c3335daa8958070e7f383c8a6a0c88f5", checked := Try.checked }
namespace Rows
def none {H : Type} : Left H := { results := [], args := [] }

/-- 'tomelaw42.SorterPlays': WHATEVER THE INPUT: true; the input reads as it did. -/
def sorterPlaysSpec : ChangeSpec := { name := "sorterPlays", fn := fun _ => fun
  | [d1, d2, d3] => { results := [.lit (.bool true)], args := [d1, d2, d3] }
  | _ => none }
def sorterPlaysRow : OpenClaim := { program := "ytdgjcdhomfhfpaa", sum := "f1265d4438fa7ebc893f2a5447078480c3335daa8958070e7f383c8a6a0c88f5", func := "tome/tomelaw42.SorterPlays", spec := "sorterPlays", inPlace := ["internal/bytealg.abigen_runtime_cmpstring"], unfollowed := true, recurses := true, apart := false }
def SorterPlaysSaid : Prop := sorterPlaysRow.holds Try.pinned (OpenSpec.ofChange sorterPlaysSpec)

/-- ITS FALSE NEIGHBOUR: 'it returns false'. Refute it at one input. -/
def sorterPlaysWrong : ChangeSpec := { name := "sorterPlays", fn := fun _ => fun
  | [d1, d2, d3] => { results := [.lit (.bool false)], args := [d1, d2, d3] }
  | _ => none }
def SorterPlaysWrongFalsely : Prop := sorterPlaysRow.holds Try.pinned (OpenSpec.ofChange sorterPlaysWrong)

/-- 'tomelaw42.SorterRuns': WHATEVER THE INPUT: true; the input reads as it did. -/
def sorterRunsSpec : ChangeSpec := { name := "sorterRuns", fn := fun _ => fun
  | [d1, d2, d3] => { results := [.lit (.bool true)], args := [d1, d2, d3] }
  | _ => none }
def sorterRunsRow : OpenClaim := { program := "ytdgjcdhomfhfpaa", sum := "f1265d4438fa7ebc893f2a5447078480c3335daa8958070e7f383c8a6a0c88f5", func := "tome/tomelaw42.SorterRuns", spec := "sorterRuns", inPlace := ["internal/bytealg.abigen_runtime_cmpstring"], unfollowed := true, recurses := true, apart := false }
def SorterRunsSaid : Prop := sorterRunsRow.holds Try.pinned (OpenSpec.ofChange sorterRunsSpec)

/-- ITS FALSE NEIGHBOUR: 'it returns false'. Refute it at one input. -/
def sorterRunsWrong : ChangeSpec := { name := "sorterRuns", fn := fun _ => fun
  | [d1, d2, d3] => { results := [.lit (.bool false)], args := [d1, d2, d3] }
  | _ => none }
def SorterRunsWrongFalsely : Prop := sorterRunsRow.holds Try.pinned (OpenSpec.ofChange sorterRunsWrong)

/-- 'tomelaw42.SorterFull': WHATEVER THE INPUT: true; the input reads as it did. -/
def sorterFullSpec : ChangeSpec := { name := "sorterFull", fn := fun _ => fun
  | [d] => { results := [.lit (.bool true)], args := [d] }
  | _ => none }
def sorterFullRow : OpenClaim := { program := "ytdgjcdhomfhfpaa", sum := "f1265d4438fa7ebc893f2a5447078480c3335daa8958070e7f383c8a6a0c88f5", func := "tome/tomelaw42.SorterFull", spec := "sorterFull", inPlace := ["internal/bytealg.abigen_runtime_cmpstring"], unfollowed := true, recurses := true, apart := false }
def SorterFullSaid : Prop := sorterFullRow.holds Try.pinned (OpenSpec.ofChange sorterFullSpec)

/-- ITS FALSE NEIGHBOUR: 'it returns false'. Refute it at one input. -/
def sorterFullWrong : ChangeSpec := { name := "sorterFull", fn := fun _ => fun
  | [d] => { results := [.lit (.bool false)], args := [d] }
  | _ => none }
def SorterFullWrongFalsely : Prop := sorterFullRow.holds Try.pinned (OpenSpec.ofChange sorterFullWrong)

/- THE SECOND FORM. 'bulk': how many values and letters a reading holds, each counted each time it is reached (what is shared counts as often as it is met; a slice's spare places count too). A statement '..UptoSaid' is the law's where the arguments, and the package variables that the reading takes, are together of bulk at most 1048576: NARROWER than '..Said'. Prove '..Said' where nothing that the law and all that it calls make is longer than what came in: it says more and counts as full. Else prove '..UptoSaid'. A law counts once. -/
mutual
def uptoBulk {H : Type} : DataW H → Nat
  | .lit (.string bytes) => bytes.length + 1
  | .lit _ => 1
  | .nil => 1
  | .ptr d => uptoBulk d + 1
  | .slice elems spare => uptoBulkAll elems + uptoBulkAll spare + 1
  | .agg parts => uptoBulkAll parts + 1
  | .iface _ d => uptoBulk d + 1
  | .map entries => uptoBulkEntries entries + 1
  | .held _ => 1
def uptoBulkAll {H : Type} : List (DataW H) → Nat
  | [] => 0
  | d :: r => uptoBulk d + uptoBulkAll r
def uptoBulkEntries {H : Type} : List (Lit × DataW H) → Nat
  | [] => 0
  | x :: r => uptoBulkEntry x + uptoBulkEntries r
def uptoBulkEntry {H : Type} : Lit × DataW H → Nat
  | (.string bytes, d) => bytes.length + uptoBulk d + 1
  | (_, d) => uptoBulk d + 1
 end
def uptoSmall : (H : Type) → List (DataW H) → Bool := fun _ ds => decide (uptoBulkAll ds ≤ 1048576)
def OpenSpec.upto (s : _root_.Go.ChangeSpec) : _root_.Go.OpenSpec := { _root_.Go.OpenSpec.ofChange s with cond := some uptoSmall }

/-- 'tomelaw42.SorterPlays', WHERE WHAT IT READS IS OF BULK AT MOST 1048576: true; the input reads as it did. -/
def sorterPlaysUptoRow : OpenClaim := { program := "ytdgjcdhomfhfpaa", sum := "f1265d4438fa7ebc893f2a5447078480c3335daa8958070e7f383c8a6a0c88f5", func := "tome/tomelaw42.SorterPlays", spec := "sorterPlays", inPlace := ["internal/bytealg.abigen_runtime_cmpstring"], unfollowed := true, recurses := true, apart := false, narrowed := true }
def SorterPlaysUptoSaid : Prop := sorterPlaysUptoRow.holds Try.pinned (OpenSpec.upto sorterPlaysSpec)

/-- 'tomelaw42.SorterRuns', WHERE WHAT IT READS IS OF BULK AT MOST 1048576: true; the input reads as it did. -/
def sorterRunsUptoRow : OpenClaim := { program := "ytdgjcdhomfhfpaa", sum := "f1265d4438fa7ebc893f2a5447078480c3335daa8958070e7f383c8a6a0c88f5", func := "tome/tomelaw42.SorterRuns", spec := "sorterRuns", inPlace := ["internal/bytealg.abigen_runtime_cmpstring"], unfollowed := true, recurses := true, apart := false, narrowed := true }
def SorterRunsUptoSaid : Prop := sorterRunsUptoRow.holds Try.pinned (OpenSpec.upto sorterRunsSpec)

/-- 'tomelaw42.SorterFull', WHERE WHAT IT READS IS OF BULK AT MOST 1048576: true; the input reads as it did. -/
def sorterFullUptoRow : OpenClaim := { program := "ytdgjcdhomfhfpaa", sum := "f1265d4438fa7ebc893f2a5447078480c3335daa8958070e7f383c8a6a0c88f5", func := "tome/tomelaw42.SorterFull", spec := "sorterFull", inPlace := ["internal/bytealg.abigen_runtime_cmpstring"], unfollowed := true, recurses := true, apart := false, narrowed := true }
def SorterFullUptoSaid : Prop := sorterFullUptoRow.holds Try.pinned (OpenSpec.upto sorterFullSpec)

end Rows
end Go.Proofs.Ytdgjcdhomfhfpaa
