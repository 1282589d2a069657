/-
  DERIVED. GIVEN WITH THE SEED: THE CARDS: each row of YtmpnglbonmifiaaGreatDoorRows.lean that lists a variable, with what it lists TIED to the program's text (the seventh form; the later family's looks); each row that meets fmt, with fmt's text TOLD by the authors' own Lean function (tested against real Go, not proved from fmt's source: count such statements apart). THE CARD IS WHAT COUNTS. Prove the row's statement (the work); the ties are given (YtmpnglbonmifiaaGreatDoorTie.lean); close each card by the builder's one call (the guide's Derived/Test/ToyasCard.lean, 'card_holds'). Laid BY PROGRAM, IN A SANDBOX (cutbox-door.mjs). By AI agents, Wed Nov 11 2026. No macro, syntax, notation, axiom, sorry.
-/
import Derived.Test.YtmpnglbonmifiaaGreatDoorRows
import GoSem.ClaimSeven
namespace Go.Proofs.YtmpnglbonmifiaaGreatDoor
namespace Rows

/-- THE TIED CARD OF 'tomelaw31.EvalTells'. -/
def evalTellsCard : Claim7 := { stood := { row := evalTellsRow, standIns := [], harness := (true, "d0adee087c19f40b97910525f1d34f0f1cf18f20177b834699bf07a3b83c1e86"), looks := false }, kinds := [], alts := [], laidByText := true, laidKinds := [.data, .pinned], laidTests := true, laidLooks := .later }
def EvalTellsCardSaid : Prop := Claim7.holds Tryz.pinned (.plain (OpenSpec.ofChange evalTellsSpec)) evalTellsCard

/-- THE TIED CARD OF 'tomelaw31.EvalOps'. -/
def evalOpsCard : Claim7 := { stood := { row := evalOpsRow, standIns := [], harness := (true, "d0adee087c19f40b97910525f1d34f0f1cf18f20177b834699bf07a3b83c1e86"), looks := false }, kinds := [], alts := [], laidByText := true, laidKinds := [.data, .pinned], laidTests := true, laidLooks := .later }
def EvalOpsCardSaid : Prop := Claim7.holds Tryz.pinned (.plain (OpenSpec.ofChange evalOpsSpec)) evalOpsCard

/-- THE TIED CARD OF 'tomelaw31.EvalAll'. -/
def evalAllCard : Claim7 := { stood := { row := evalAllRow, standIns := [], harness := (true, "d0adee087c19f40b97910525f1d34f0f1cf18f20177b834699bf07a3b83c1e86"), looks := false }, kinds := [], alts := [], laidByText := true, laidKinds := [.data, .pinned], laidTests := true, laidLooks := .later }
def EvalAllCardSaid : Prop := Claim7.holds Tryz.pinned (.plain (OpenSpec.ofChange evalAllSpec)) evalAllCard

/-- THE TIED CARD OF 'tomelaw31.EvalSees'. -/
def evalSeesCard : Claim7 := { stood := { row := evalSeesRow, standIns := [], harness := (true, "d0adee087c19f40b97910525f1d34f0f1cf18f20177b834699bf07a3b83c1e86"), looks := false }, kinds := [], alts := [], laidByText := true, laidKinds := [.data, .pinned], laidTests := true, laidLooks := .later }
def EvalSeesCardSaid : Prop := Claim7.holds Tryz.pinned (.plain (OpenSpec.ofChange evalSeesSpec)) evalSeesCard

/-- THE SECOND FORM's CARD OF 'tomelaw31.EvalTells'. -/
def evalTellsUptoCard : Claim7 := { stood := { row := evalTellsUptoRow, standIns := [], harness := (true, "d0adee087c19f40b97910525f1d34f0f1cf18f20177b834699bf07a3b83c1e86"), looks := false }, kinds := [], alts := [], laidByText := true, laidKinds := [.data, .pinned], laidTests := true, laidLooks := .later }
def EvalTellsUptoCardSaid : Prop := Claim7.holds Tryz.pinned (.plain (OpenSpec.upto evalTellsSpec)) evalTellsUptoCard

/-- THE SECOND FORM's CARD OF 'tomelaw31.EvalOps'. -/
def evalOpsUptoCard : Claim7 := { stood := { row := evalOpsUptoRow, standIns := [], harness := (true, "d0adee087c19f40b97910525f1d34f0f1cf18f20177b834699bf07a3b83c1e86"), looks := false }, kinds := [], alts := [], laidByText := true, laidKinds := [.data, .pinned], laidTests := true, laidLooks := .later }
def EvalOpsUptoCardSaid : Prop := Claim7.holds Tryz.pinned (.plain (OpenSpec.upto evalOpsSpec)) evalOpsUptoCard

/-- THE SECOND FORM's CARD OF 'tomelaw31.EvalAll'. -/
def evalAllUptoCard : Claim7 := { stood := { row := evalAllUptoRow, standIns := [], harness := (true, "d0adee087c19f40b97910525f1d34f0f1cf18f20177b834699bf07a3b83c1e86"), looks := false }, kinds := [], alts := [], laidByText := true, laidKinds := [.data, .pinned], laidTests := true, laidLooks := .later }
def EvalAllUptoCardSaid : Prop := Claim7.holds Tryz.pinned (.plain (OpenSpec.upto evalAllSpec)) evalAllUptoCard

/-- THE SECOND FORM's CARD OF 'tomelaw31.EvalSees'. -/
def evalSeesUptoCard : Claim7 := { stood := { row := evalSeesUptoRow, standIns := [], harness := (true, "d0adee087c19f40b97910525f1d34f0f1cf18f20177b834699bf07a3b83c1e86"), looks := false }, kinds := [], alts := [], laidByText := true, laidKinds := [.data, .pinned], laidTests := true, laidLooks := .later }
def EvalSeesUptoCardSaid : Prop := Claim7.holds Tryz.pinned (.plain (OpenSpec.upto evalSeesSpec)) evalSeesUptoCard
end Rows
end Go.Proofs.YtmpnglbonmifiaaGreatDoor
