/- Small lemmas that all walks of this seat use: what is below a block number stays as it was; the end of a body. No condition. -/
import Derived.Test.YtmpnglbonmifiaaGreatDoorRows
import Derived.WalkKit
import Derived.ProofKit
import Derived.OpenShut
import Derived.WalkSpells
import Derived.WalkLawsBesides
import Derived.BigQuiet
import Derived.Lib.Hide
namespace Go.Proofs.YtmpnglbonmifiaaGreatDoor
open Go.ChangeShapes Go.WideShapes Go.ChangeAt Go.RowKit

theorem bcell {W w1 : World} (hb : Below W.heap.size W w1) : (∀ b o, b < W.heap.size → w1.cell? ⟨b, o, none⟩ = W.cell? ⟨b, o, none⟩) ∧ (∀ b o, b < W.heap.size → w1.frozen? ⟨b, o, none⟩ = W.frozen? ⟨b, o, none⟩) :=
  ⟨fun b o h => hb.cell (p := ⟨b, o, none⟩) h, fun b o h => hb.frozen (p := ⟨b, o, none⟩) h⟩

theorem bsz {W w1 : World} (hb : Below W.heap.size W w1) : (∀ b, b < W.heap.size → b < w1.heap.size) ∧ (∀ b, b ≤ W.heap.size → b ≤ w1.heap.size) :=
  ⟨fun _ h => Nat.lt_of_lt_of_le h hb.size, fun _ h => Nat.le_trans h hb.size⟩

/-- A guard for an arm of a walk: the goal is a region that draws its order. -/
theorem region_draws {P : Program} {id : Nat} {ops : Array Oper} {Q : Exit → Act → World → Prop} {a : Act} {w : World} (h : (Code.region id ops true).wp P Q a w) : (Code.region id ops true).wp P Q a w := h

/-- A call that only computes: it hands back v, and nothing that was there has changed. -/
def Ret (v : Value) (w : World) (e : Ending) (w' : World) : Prop := e = .returned v ∧ Below w.heap.size w w'

/-- A world that is w but for new blocks. -/
structure Later (w : World) where
  world : World
  below : Below w.heap.size w world
instance (w : World) : Nonempty (Later w) := ⟨⟨w, Below.refl _ _⟩⟩
end Go.Proofs.YtmpnglbonmifiaaGreatDoor
def Go.World.plus (w : Go.World) (x : Go.Proofs.YtmpnglbonmifiaaGreatDoor.Later w) : Go.World := x.world
namespace Go.Proofs.YtmpnglbonmifiaaGreatDoor
open Go.ChangeShapes Go.WideShapes Go.ChangeAt Go.RowKit
theorem plus_cell (w : World) (x : Later w) (b o : Nat) (h : b < w.heap.size) : (w.plus x).cell? ⟨b, o, none⟩ = w.cell? ⟨b, o, none⟩ := x.below.cell (p := ⟨b, o, none⟩) h
theorem plus_frozen (w : World) (x : Later w) (b o : Nat) (h : b < w.heap.size) : (w.plus x).frozen? ⟨b, o, none⟩ = w.frozen? ⟨b, o, none⟩ := x.below.frozen (p := ⟨b, o, none⟩) h
attribute [go_sem] plus_cell plus_frozen
/-- A callee's contract, met in such a world. -/
theorem plus_of {P : Program} {f : FuncId} {args : Array Value} {w : World} {x : Later w} {v : Value} (h : Calls P f args (w.plus x) (Ret v (w.plus x))) :
    Calls P f args (w.plus x) fun e w'' => e = .returned v ∧ ∃ y, w'' = w.plus y :=
  h.mono fun _ w'' ⟨he, hb⟩ => ⟨he, ⟨w'', x.below.trans (hb.mono x.below.size)⟩, rfl⟩
theorem plus_of_same {P : Program} {f : FuncId} {args : Array Value} {w : World} {x : Later w} {v : Value} (h : Calls P f args (w.plus x) fun e w' => e = .returned v ∧ w' = w.plus x) :
    Calls P f args (w.plus x) fun e w'' => e = .returned v ∧ ∃ y, w'' = w.plus y :=
  h.mono fun _ _ ⟨he, hm⟩ => ⟨he, x, hm⟩
/-- A region that draws its order, whose operations only read and whose callees only make new memory and hand back a value that does not hang on it. -/
theorem region_plus {P : Program} {id : Nat} {Q : Exit → Act → World → Prop} {a : Act} {w : World} {l : List Oper} (hm : P.follows .mixedOrders = true) (hB : Region.lexB .any l.toArray = true)
    (h : wpQuiet P l.toArray (fun w' => ∃ x, w' = w.plus x) (fun a' => ∀ w', Below w.heap.size w w' → Q .normal a' w') l a) : (Code.region id l.toArray true).wp P Q a w :=
  wp_region_quiet (C := fun w' => ∃ x, w' = w.plus x) hm hB ⟨⟨w.drew, (Below.refl _ _).drew⟩, rfl⟩ (by
    have e : (fun a' => ∀ w', (∃ x, w' = w.plus x) → Q .normal a' w') = (fun a' => ∀ w', Below w.heap.size w w' → Q .normal a' w') := by
      funext a'
      exact propext ⟨fun H w' hb => H w' ⟨⟨w', hb⟩, rfl⟩, fun H w' ⟨x, hx⟩ => H w' (by rw [hx]; exact x.below)⟩
    rw [e]
    simpa using h)

theorem ret_str {a b : ByteArray} (h : a = b) : Ending.returned (.string a) = .returned (.string b) := by rw [h]
theorem ret_int {k : IntKind} {a b : Int} (h : a = b) : Ending.returned (.int k a) = .returned (.int k b) := by rw [h]
theorem ret_bool {a b : Bool} (h : a = b) : Ending.returned (.bool a) = .returned (.bool b) := by rw [h]
theorem ret2_ii {a b a' b' : Int} {k k' : IntKind} (h : a = a') (h' : b = b') : Ending.returned (.tuple #[.int k a, .int k' b]) = .returned (.tuple #[.int k a', .int k' b']) := by rw [h, h']
theorem ret2_sb {a a' : ByteArray} {b b' : Bool} (h : a = a') (h' : b = b') : Ending.returned (.tuple #[.string a, .bool b]) = .returned (.tuple #[.string a', .bool b']) := by rw [h, h']

end Go.Proofs.YtmpnglbonmifiaaGreatDoor
