/- Small lemmas that all walks of this seat use: what is below a block number stays as it was; the end of a body. No condition. -/
import Derived.Test.YtodjimecekaaeaaGreatDoorRows
import Derived.WalkKit
import Derived.ProofKit
import Derived.OpenShut
import Derived.WalkSpells
import Derived.WalkLawsBesides
import Derived.BigQuiet
import Derived.Lib.Hide
namespace Go.Proofs.YtodjimecekaaeaaGreatDoor
open Go.ChangeShapes Go.WideShapes Go.ChangeAt Go.RowKit
set_option linter.unusedSimpArgs false
set_option linter.unusedVariables false
def Ret (v : Value) (w : World) (e : Ending) (w' : World) : Prop := e = .returned v ∧ Below w.heap.size w w'
structure Later (w : World) where
 world : World
 below : Below w.heap.size w world
instance (w : World) : Nonempty (Later w) := ⟨⟨w, Below.refl _ _⟩⟩
end Go.Proofs.YtodjimecekaaeaaGreatDoor
def Go.World.plus (w : Go.World) (x : Go.Proofs.YtodjimecekaaeaaGreatDoor.Later w) : Go.World := x.world
namespace Go.Proofs.YtodjimecekaaeaaGreatDoor
open Go.ChangeShapes Go.WideShapes Go.ChangeAt Go.RowKit
set_option linter.unusedSimpArgs false
set_option linter.unusedVariables false
theorem plus_cell (w : World) (x : Later w) (b o : Nat) (h : b < w.heap.size) : (w.plus x).cell? ⟨b, o, none⟩ = w.cell? ⟨b, o, none⟩ := x.below.cell (p := ⟨b, o, none⟩) h
theorem plus_frozen (w : World) (x : Later w) (b o : Nat) (h : b < w.heap.size) : (w.plus x).frozen? ⟨b, o, none⟩ = w.frozen? ⟨b, o, none⟩ := x.below.frozen (p := ⟨b, o, none⟩) h
attribute [go_sem] plus_cell plus_frozen
end Go.Proofs.YtodjimecekaaeaaGreatDoor
