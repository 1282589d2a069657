/- What holds of the package variables that the program's library code reads: some hold a number. No condition. Printed by mkglo.py. -/
import Derived.Below
namespace Go.Proofs.Ytdgjcdhomfhfpaa
open Go.RowKit
def gloList : List Nat := []
def Glo (w : World) : Prop := ∀ g ∈ gloList, ∃ m : Int, w.cell? ⟨g, 0, none⟩ = some (.int .i64 m)
theorem Glo.step {w w' : World} (h : Glo w) (hb : Below w.heap.size w w') : Glo w' := fun g hg => by
  obtain ⟨m, hm⟩ := h g hg
  refine ⟨m, ?_⟩
  rw [hb.cell (p := ⟨g, 0, none⟩) (World.block_lt_of_cell? _ _ hm)]
  exact hm
theorem glo_none {w : World} : Glo w := fun g hg => by simp [gloList] at hg
end Go.Proofs.Ytdgjcdhomfhfpaa
