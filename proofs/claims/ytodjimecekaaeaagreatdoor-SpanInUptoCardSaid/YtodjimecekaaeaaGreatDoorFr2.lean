/- From a contract over closed data to a given statement whose row lists package variables. No condition. -/
import Derived.Test.YtodjimecekaaeaaGreatDoorFr
import Derived.Test.YtodjimecekaaeaaGreatDoorShelf
import Derived.Test.YtodjimecekaaeaaGreatDoorTie
import Derived.Test.YtodjimecekaaeaaGreatDoorCards
import Derived.HandedShaped
import Derived.PinnedBridge
import Derived.LaidOnce
import Derived.Lay
import Derived.SevenTiedAt
namespace Go.Proofs.YtodjimecekaaeaaGreatDoor
open Go Go.RowKit
set_option linter.unusedSimpArgs false
set_option linter.unusedVariables false
theorem glo_shaped {w : World} (h : w.ShapedOpen Tryz.prog) : Glo w := fun g hg => by
 have e : g = 0 := by simpa [gloList] using hg
 subst e
 exact Tryz.laysM155.s1_3 w h
theorem one_param {P : Program} {fn : Func} (h : (fn.params.toList.all fun t => !P.wantsStandIn t) = true) : ∀ (j : Nat) t, fn.params[j]? = some t → P.wantsStandIn t = false := fun j t ht => by
 have hm : t ∈ fn.params.toList := by
  have := Array.mem_of_getElem? ht
  simpa using this
 have := List.all_eq_true.1 h t hm
 simpa using this
end Go.Proofs.YtodjimecekaaeaaGreatDoor
