/-
  DERIVED. GIVEN WITH THE SEED: THE CARDS: each row of YtodjimecekaaeaaGreatDoorRows.lean that lists a variable, with what it lists TIED to the program's text (the seventh form; the later family's looks); each row that meets fmt, with fmt's text TOLD by the authors' own Lean function (tested against real Go, not proved from fmt's source: count such statements apart). THE CARD IS WHAT COUNTS. Prove the row's statement (the work); the ties are given (YtodjimecekaaeaaGreatDoorTie.lean); close each card by the builder's one call (the guide's Derived/Test/ToyasCard.lean, 'card_holds'). Laid BY PROGRAM, IN A SANDBOX (cutbox-door.mjs). By AI agents, Wed Nov 11 2026. No macro, syntax, notation, axiom, sorry.
-/
import Derived.Test.YtodjimecekaaeaaGreatDoorRows
import GoSem.ClaimSeven
namespace Go.Proofs.YtodjimecekaaeaaGreatDoor
namespace Rows

/-- THE TIED CARD OF 'tomelaw37.SpanOf'. -/
def spanOfCard : Claim7 := { stood := { row := spanOfRow, standIns := [], harness := (true, "cffd1878c7008332596dd31977b7a48733e4a85a675fdb5b5341cfec815e3d43"), looks := false }, kinds := [], alts := [], laidByText := true, laidKinds := [.data, .pinned], laidTests := true, laidLooks := .later }
def SpanOfCardSaid : Prop := Claim7.holds Tryz.pinned (.plain (OpenSpec.ofChange spanOfSpec)) spanOfCard

/-- THE TIED CARD OF 'tomelaw37.SpanIn'. -/
def spanInCard : Claim7 := { stood := { row := spanInRow, standIns := [], harness := (true, "cffd1878c7008332596dd31977b7a48733e4a85a675fdb5b5341cfec815e3d43"), looks := false }, kinds := [], alts := [], laidByText := true, laidKinds := [.data, .pinned], laidTests := true, laidLooks := .later }
def SpanInCardSaid : Prop := Claim7.holds Tryz.pinned (.plain (OpenSpec.ofChange spanInSpec)) spanInCard

/-- THE TIED CARD OF 'tomelaw37.SpanMeans'. -/
def spanMeansCard : Claim7 := { stood := { row := spanMeansRow, standIns := [], harness := (true, "cffd1878c7008332596dd31977b7a48733e4a85a675fdb5b5341cfec815e3d43"), looks := false }, kinds := [], alts := [], laidByText := true, laidKinds := [.data, .pinned], laidTests := true, laidLooks := .later }
def SpanMeansCardSaid : Prop := Claim7.holds Tryz.pinned (.plain (OpenSpec.ofChange spanMeansSpec)) spanMeansCard

/-- THE SECOND FORM's CARD OF 'tomelaw37.SpanOf'. -/
def spanOfUptoCard : Claim7 := { stood := { row := spanOfUptoRow, standIns := [], harness := (true, "cffd1878c7008332596dd31977b7a48733e4a85a675fdb5b5341cfec815e3d43"), looks := false }, kinds := [], alts := [], laidByText := true, laidKinds := [.data, .pinned], laidTests := true, laidLooks := .later }
def SpanOfUptoCardSaid : Prop := Claim7.holds Tryz.pinned (.plain (OpenSpec.upto spanOfSpec)) spanOfUptoCard

/-- THE SECOND FORM's CARD OF 'tomelaw37.SpanIn'. -/
def spanInUptoCard : Claim7 := { stood := { row := spanInUptoRow, standIns := [], harness := (true, "cffd1878c7008332596dd31977b7a48733e4a85a675fdb5b5341cfec815e3d43"), looks := false }, kinds := [], alts := [], laidByText := true, laidKinds := [.data, .pinned], laidTests := true, laidLooks := .later }
def SpanInUptoCardSaid : Prop := Claim7.holds Tryz.pinned (.plain (OpenSpec.upto spanInSpec)) spanInUptoCard

/-- THE SECOND FORM's CARD OF 'tomelaw37.SpanMeans'. -/
def spanMeansUptoCard : Claim7 := { stood := { row := spanMeansUptoRow, standIns := [], harness := (true, "cffd1878c7008332596dd31977b7a48733e4a85a675fdb5b5341cfec815e3d43"), looks := false }, kinds := [], alts := [], laidByText := true, laidKinds := [.data, .pinned], laidTests := true, laidLooks := .later }
def SpanMeansUptoCardSaid : Prop := Claim7.holds Tryz.pinned (.plain (OpenSpec.upto spanMeansSpec)) spanMeansUptoCard
end Rows
end Go.Proofs.YtodjimecekaaeaaGreatDoor
