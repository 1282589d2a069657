/-
  No cell of these rows narrows 'for every input' (looked for: loops, veiled, ifaces, maps, wideKeys, modest, calm, conditions, laid).
  DERIVED. THE GIVEN ROWS OF THIS SEAT. 3 by the template 'for every input the law returns true; each argument reads behind the call as it read before'; 0 by the template 'total and deterministic' (their statements: YteljlbgjpnfdjaaTotals.lean).
  GIVEN WITH THE SEED: the statements are not yours to turn. If you find one false, say at which input.
  Laid BY PROGRAM, IN A SANDBOX (cutbox-rows.mjs): the forced cells as the released guide's own fill.sh prints them over the translation 3dc4c615085e4401… (all of the seat's roots in one cut). By AI agents, Wed Nov 11 2026. No macro, syntax, notation, axiom, sorry.
-/
import Derived.Test.YteljlbgjpnfdjaaChecked
import GoSem.Claim
import GoSem.ClaimJoined
import GoSem.ClaimMapViews
import Derived.JoinedTies
import Derived.KernelRfl
namespace Go.Proofs.Yteljlbgjpnfdjaa
/- THE CELL 'sum', in the pinned program and in every row, IS THE sha256 OF THE DUMP (.gsa) THAT YteljlbgjpnfdjaaProg.lean LOADS. Nothing in Lean hashes anything: it is a label: what it is worth is what the hold of that sum in a sandbox is worth. -/
noncomputable def Try.pinned : Pinned := { name := "yteljlbgjpnfdjaa", sum := "3dc4c615085e4401b2a1608abcd2d03c1464a8cc612e0c4f301ed725bf3d4dfe", checked := Try.checked }
namespace Rows
def none {H : Type} : Left H := { results := [], args := [] }

/-- 'tomelaw32.AggPlays': WHATEVER THE INPUT: true; the input reads as it did. -/
def aggPlaysSpec : ChangeSpec := { name := "aggPlays", fn := fun _ => fun
  | [d1, d2, d3] => { results := [.lit (.bool true)], args := [d1, d2, d3] }
  | _ => none }
def aggPlaysRow : OpenClaim := { program := "yteljlbgjpnfdjaa", sum := "3dc4c615085e4401b2a1608abcd2d03c1464a8cc612e0c4f301ed725bf3d4dfe", func := "tome/tomelaw32.AggPlays", spec := "aggPlays", inPlace := ["internal/bytealg.abigen_runtime_cmpstring", "slices.overlaps[tome/api.Val]"], unfollowed := true, recurses := true, apart := false }
def AggPlaysSaid : Prop := aggPlaysRow.holds Try.pinned (OpenSpec.ofChange aggPlaysSpec)

/-- ITS FALSE NEIGHBOUR: 'it returns false'. Refute it at one input. -/
def aggPlaysWrong : ChangeSpec := { name := "aggPlays", fn := fun _ => fun
  | [d1, d2, d3] => { results := [.lit (.bool false)], args := [d1, d2, d3] }
  | _ => none }
def AggPlaysWrongFalsely : Prop := aggPlaysRow.holds Try.pinned (OpenSpec.ofChange aggPlaysWrong)

/-- 'tomelaw32.AggTurns': WHATEVER THE INPUT: true; the input reads as it did. -/
def aggTurnsSpec : ChangeSpec := { name := "aggTurns", fn := fun _ => fun
  | [d1, d2, d3] => { results := [.lit (.bool true)], args := [d1, d2, d3] }
  | _ => none }
def aggTurnsRow : OpenClaim := { program := "yteljlbgjpnfdjaa", sum := "3dc4c615085e4401b2a1608abcd2d03c1464a8cc612e0c4f301ed725bf3d4dfe", func := "tome/tomelaw32.AggTurns", spec := "aggTurns", inPlace := ["internal/bytealg.abigen_runtime_cmpstring", "slices.overlaps[tome/api.Val]"], unfollowed := true, recurses := true, apart := false }
def AggTurnsSaid : Prop := aggTurnsRow.holds Try.pinned (OpenSpec.ofChange aggTurnsSpec)

/-- ITS FALSE NEIGHBOUR: 'it returns false'. Refute it at one input. -/
def aggTurnsWrong : ChangeSpec := { name := "aggTurns", fn := fun _ => fun
  | [d1, d2, d3] => { results := [.lit (.bool false)], args := [d1, d2, d3] }
  | _ => none }
def AggTurnsWrongFalsely : Prop := aggTurnsRow.holds Try.pinned (OpenSpec.ofChange aggTurnsWrong)

/-- 'tomelaw32.AggSame': WHATEVER THE INPUT: true; the input reads as it did. -/
def aggSameSpec : ChangeSpec := { name := "aggSame", fn := fun _ => fun
  | [d] => { results := [.lit (.bool true)], args := [d] }
  | _ => none }
def aggSameRow : OpenClaim := { program := "yteljlbgjpnfdjaa", sum := "3dc4c615085e4401b2a1608abcd2d03c1464a8cc612e0c4f301ed725bf3d4dfe", func := "tome/tomelaw32.AggSame", spec := "aggSame", inPlace := ["internal/bytealg.abigen_runtime_cmpstring", "slices.overlaps[tome/api.Val]"], unfollowed := true, recurses := true, apart := false }
def AggSameSaid : Prop := aggSameRow.holds Try.pinned (OpenSpec.ofChange aggSameSpec)

/-- ITS FALSE NEIGHBOUR: 'it returns false'. Refute it at one input. -/
def aggSameWrong : ChangeSpec := { name := "aggSame", fn := fun _ => fun
  | [d] => { results := [.lit (.bool false)], args := [d] }
  | _ => none }
def AggSameWrongFalsely : Prop := aggSameRow.holds Try.pinned (OpenSpec.ofChange aggSameWrong)

/- THE SECOND FORM. 'bulk': how many values and letters a reading holds, each counted each time it is reached (what is shared counts as often as it is met; a slice's spare places count too). A statement '..UptoSaid' is the law's where the arguments, and the package variables that the reading takes, are together of bulk at most 1048576: NARROWER than '..Said'. Prove '..Said' where nothing that the law and all that it calls make is longer than what came in: it says more and counts as full. Else prove '..UptoSaid'. A law counts once. -/
mutual
def uptoBulk {H : Type} : DataW H → Nat
  | .lit (.string bytes) => bytes.length + 1
  | .lit _ => 1
  | .nil => 1
  | .ptr d => uptoBulk d + 1
  | .slice elems spare => uptoBulkAll elems + uptoBulkAll spare + 1
  | .agg parts => uptoBulkAll parts + 1
  | .iface _ d => uptoBulk d + 1
  | .map entries => uptoBulkEntries entries + 1
  | .held _ => 1
def uptoBulkAll {H : Type} : List (DataW H) → Nat
  | [] => 0
  | d :: r => uptoBulk d + uptoBulkAll r
def uptoBulkEntries {H : Type} : List (Lit × DataW H) → Nat
  | [] => 0
  | x :: r => uptoBulkEntry x + uptoBulkEntries r
def uptoBulkEntry {H : Type} : Lit × DataW H → Nat
  | (.string bytes, d) => bytes.length + uptoBulk d + 1
  | (_, d) => uptoBulk d + 1
 end
def uptoSmall : (H : Type) → List (DataW H) → Bool := fun _ ds => decide (uptoBulkAll ds ≤ 1048576)
def OpenSpec.upto (s : _root_.Go.ChangeSpec) : _root_.Go.OpenSpec := { _root_.Go.OpenSpec.ofChange s with cond := some uptoSmall }

/-- 'tomelaw32.AggPlays', WHERE WHAT IT READS IS OF BULK AT MOST 1048576: true; the input reads as it did. -/
def aggPlaysUptoRow : OpenClaim := { program := "yteljlbgjpnfdjaa", sum := "3dc4c615085e4401b2a1608abcd2d03c1464a8cc612e0c4f301ed725bf3d4dfe", func := "tome/tomelaw32.AggPlays", spec := "aggPlays", inPlace := ["internal/bytealg.abigen_runtime_cmpstring", "slices.overlaps[tome/api.Val]"], unfollowed := true, recurses := true, apart := false, narrowed := true }
def AggPlaysUptoSaid : Prop := aggPlaysUptoRow.holds Try.pinned (OpenSpec.upto aggPlaysSpec)

/-- 'tomelaw32.AggTurns', WHERE WHAT IT READS IS OF BULK AT MOST 1048576: true; the input reads as it did. -/
def aggTurnsUptoRow : OpenClaim := { program := "yteljlbgjpnfdjaa", sum := "3dc4c615085e4401b2a1608abcd2d03c1464a8cc612e0c4f301ed725bf3d4dfe", func := "tome/tomelaw32.AggTurns", spec := "aggTurns", inPlace := ["internal/bytealg.abigen_runtime_cmpstring", "slices.overlaps[tome/api.Val]"], unfollowed := true, recurses := true, apart := false, narrowed := true }
def AggTurnsUptoSaid : Prop := aggTurnsUptoRow.holds Try.pinned (OpenSpec.upto aggTurnsSpec)

/-- 'tomelaw32.AggSame', WHERE WHAT IT READS IS OF BULK AT MOST 1048576: true; the input reads as it did. -/
def aggSameUptoRow : OpenClaim := { program := "yteljlbgjpnfdjaa", sum := "3dc4c615085e4401b2a1608abcd2d03c1464a8cc612e0c4f301ed725bf3d4dfe", func := "tome/tomelaw32.AggSame", spec := "aggSame", inPlace := ["internal/bytealg.abigen_runtime_cmpstring", "slices.overlaps[tome/api.Val]"], unfollowed := true, recurses := true, apart := false, narrowed := true }
def AggSameUptoSaid : Prop := aggSameUptoRow.holds Try.pinned (OpenSpec.upto aggSameSpec)

end Rows
end Go.Proofs.Yteljlbgjpnfdjaa
