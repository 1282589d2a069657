/-
  DERIVED. GIVEN WITH THE SEED: THE CARDS: each row of YtmpnglbonmifiaaDoorRows.lean that lists a variable, with what it lists TIED to the program's text (the seventh form; the later family's looks); each row that meets fmt, with fmt's text TOLD by the authors' own Lean function (tested against real Go, not proved from fmt's source: count such statements apart). THE CARD IS WHAT COUNTS. Prove the row's statement (the work); the ties are given (YtmpnglbonmifiaaDoorTie.lean); close each card by the builder's one call (the guide's Derived/Test/ToyasCard.lean, 'card_holds'). Laid BY PROGRAM, IN A SANDBOX (cutbox-door.mjs). By AI agents, Wed Nov 11 2026. No macro, syntax, notation, axiom, sorry.
-/
import Derived.Test.YtmpnglbonmifiaaDoorRows
import GoSem.ClaimSeven
namespace Go.Proofs.YtmpnglbonmifiaaDoor
namespace Rows

/-- THE TIED CARD OF 'tomelaw31.EvalLogic'. -/
def evalLogicCard : Claim7 := { stood := { row := evalLogicRow, standIns := [], harness := (true, "a713de0634cc3e46ed3335267249e8b65fd780b05428b29daf726b0cb8f30209"), looks := false }, kinds := [], alts := [], laidByText := true, laidKinds := [.data, .pinned], laidTests := true, laidLooks := .later }
def EvalLogicCardSaid : Prop := Claim7.holds Tryd.pinned (.plain (OpenSpec.ofChange evalLogicSpec)) evalLogicCard

/-- THE TIED CARD OF 'tomelaw31.EvalPairs'. -/
def evalPairsCard : Claim7 := { stood := { row := evalPairsRow, standIns := [], harness := (true, "a713de0634cc3e46ed3335267249e8b65fd780b05428b29daf726b0cb8f30209"), looks := false }, kinds := [], alts := [], laidByText := true, laidKinds := [.data, .pinned], laidTests := true, laidLooks := .later }
def EvalPairsCardSaid : Prop := Claim7.holds Tryd.pinned (.plain (OpenSpec.ofChange evalPairsSpec)) evalPairsCard

/-- THE SECOND FORM's CARD OF 'tomelaw31.EvalLogic'. -/
def evalLogicUptoCard : Claim7 := { stood := { row := evalLogicUptoRow, standIns := [], harness := (true, "a713de0634cc3e46ed3335267249e8b65fd780b05428b29daf726b0cb8f30209"), looks := false }, kinds := [], alts := [], laidByText := true, laidKinds := [.data, .pinned], laidTests := true, laidLooks := .later }
def EvalLogicUptoCardSaid : Prop := Claim7.holds Tryd.pinned (.plain (OpenSpec.upto evalLogicSpec)) evalLogicUptoCard

/-- THE SECOND FORM's CARD OF 'tomelaw31.EvalPairs'. -/
def evalPairsUptoCard : Claim7 := { stood := { row := evalPairsUptoRow, standIns := [], harness := (true, "a713de0634cc3e46ed3335267249e8b65fd780b05428b29daf726b0cb8f30209"), looks := false }, kinds := [], alts := [], laidByText := true, laidKinds := [.data, .pinned], laidTests := true, laidLooks := .later }
def EvalPairsUptoCardSaid : Prop := Claim7.holds Tryd.pinned (.plain (OpenSpec.upto evalPairsSpec)) evalPairsUptoCard
end Rows
end Go.Proofs.YtmpnglbonmifiaaDoor
