/-
  DERIVED. GIVEN WITH THE SEED: THE CARDS: each row of YtabakkdlcjpjfaaDoorRows.lean that lists a variable, with what it lists TIED to the program's text (the seventh form; the later family's looks); each row that meets fmt, with fmt's text TOLD by the authors' own Lean function (tested against real Go, not proved from fmt's source: count such statements apart). THE CARD IS WHAT COUNTS. Prove the row's statement (the work); the ties are given (YtabakkdlcjpjfaaDoorTie.lean); close each card by the builder's one call (the guide's Derived/Test/ToyasCard.lean, 'card_holds'). Laid BY PROGRAM, IN A SANDBOX (cutbox-door.mjs). By AI agents, Wed Nov 11 2026. No macro, syntax, notation, axiom, sorry.
-/
import Derived.Test.YtabakkdlcjpjfaaDoorRows
import GoSem.ClaimSeven
namespace Go.Proofs.YtabakkdlcjpjfaaDoor
namespace Rows

/-- THE TIED CARD OF 'tomelaw30.FnCalls'. -/
def fnCallsCard : Claim7 := { stood := { row := fnCallsRow, standIns := [], harness := (true, "f75ea9107940cbaea8aced09a1f7a7d8c2b1bbb2608f8e9ad872ae8a54509d42"), looks := false }, kinds := [], alts := [], laidByText := true, laidKinds := [.data, .pinned], laidTests := true, laidLooks := .later }
def FnCallsCardSaid : Prop := Claim7.holds Tryd.pinned (.plain (OpenSpec.ofChange fnCallsSpec)) fnCallsCard

/-- THE TIED CARD OF 'tomelaw30.FnLikes'. -/
def fnLikesCard : Claim7 := { stood := { row := fnLikesRow, standIns := [], harness := (true, "f75ea9107940cbaea8aced09a1f7a7d8c2b1bbb2608f8e9ad872ae8a54509d42"), looks := false }, kinds := [], alts := [], laidByText := true, laidKinds := [.data, .pinned], laidTests := true, laidLooks := .later }
def FnLikesCardSaid : Prop := Claim7.holds Tryd.pinned (.plain (OpenSpec.ofChange fnLikesSpec)) fnLikesCard

/-- THE TIED CARD OF 'tomelaw30.FnLetters'. -/
def fnLettersCard : Claim7 := { stood := { row := fnLettersRow, standIns := [], harness := (true, "f75ea9107940cbaea8aced09a1f7a7d8c2b1bbb2608f8e9ad872ae8a54509d42"), looks := false }, kinds := [], alts := [], laidByText := true, laidKinds := [.data, .pinned], laidTests := true, laidLooks := .later }
def FnLettersCardSaid : Prop := Claim7.holds Tryd.pinned (.plain (OpenSpec.ofChange fnLettersSpec)) fnLettersCard

/-- THE TIED CARD OF 'tomelaw30.FnCuts'. -/
def fnCutsCard : Claim7 := { stood := { row := fnCutsRow, standIns := [], harness := (true, "f75ea9107940cbaea8aced09a1f7a7d8c2b1bbb2608f8e9ad872ae8a54509d42"), looks := false }, kinds := [], alts := [], laidByText := true, laidKinds := [.data, .pinned], laidTests := true, laidLooks := .later }
def FnCutsCardSaid : Prop := Claim7.holds Tryd.pinned (.plain (OpenSpec.ofChange fnCutsSpec)) fnCutsCard

/-- THE SECOND FORM's CARD OF 'tomelaw30.FnCalls'. -/
def fnCallsUptoCard : Claim7 := { stood := { row := fnCallsUptoRow, standIns := [], harness := (true, "f75ea9107940cbaea8aced09a1f7a7d8c2b1bbb2608f8e9ad872ae8a54509d42"), looks := false }, kinds := [], alts := [], laidByText := true, laidKinds := [.data, .pinned], laidTests := true, laidLooks := .later }
def FnCallsUptoCardSaid : Prop := Claim7.holds Tryd.pinned (.plain (OpenSpec.upto fnCallsSpec)) fnCallsUptoCard

/-- THE SECOND FORM's CARD OF 'tomelaw30.FnLikes'. -/
def fnLikesUptoCard : Claim7 := { stood := { row := fnLikesUptoRow, standIns := [], harness := (true, "f75ea9107940cbaea8aced09a1f7a7d8c2b1bbb2608f8e9ad872ae8a54509d42"), looks := false }, kinds := [], alts := [], laidByText := true, laidKinds := [.data, .pinned], laidTests := true, laidLooks := .later }
def FnLikesUptoCardSaid : Prop := Claim7.holds Tryd.pinned (.plain (OpenSpec.upto fnLikesSpec)) fnLikesUptoCard

/-- THE SECOND FORM's CARD OF 'tomelaw30.FnLetters'. -/
def fnLettersUptoCard : Claim7 := { stood := { row := fnLettersUptoRow, standIns := [], harness := (true, "f75ea9107940cbaea8aced09a1f7a7d8c2b1bbb2608f8e9ad872ae8a54509d42"), looks := false }, kinds := [], alts := [], laidByText := true, laidKinds := [.data, .pinned], laidTests := true, laidLooks := .later }
def FnLettersUptoCardSaid : Prop := Claim7.holds Tryd.pinned (.plain (OpenSpec.upto fnLettersSpec)) fnLettersUptoCard

/-- THE SECOND FORM's CARD OF 'tomelaw30.FnCuts'. -/
def fnCutsUptoCard : Claim7 := { stood := { row := fnCutsUptoRow, standIns := [], harness := (true, "f75ea9107940cbaea8aced09a1f7a7d8c2b1bbb2608f8e9ad872ae8a54509d42"), looks := false }, kinds := [], alts := [], laidByText := true, laidKinds := [.data, .pinned], laidTests := true, laidLooks := .later }
def FnCutsUptoCardSaid : Prop := Claim7.holds Tryd.pinned (.plain (OpenSpec.upto fnCutsSpec)) fnCutsUptoCard
end Rows
end Go.Proofs.YtabakkdlcjpjfaaDoor
