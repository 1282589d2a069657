/- From a contract over closed data to a call's. No condition. -/
import Derived.Test.YtodjimecekaaeaaGreatDoorBase
import Derived.Test.YtodjimecekaaeaaGreatDoorDv
import Derived.Test.YtodjimecekaaeaaGreatDoorCt2
namespace Go.Proofs.YtodjimecekaaeaaGreatDoor
open Go.RowKit
set_option linter.unusedSimpArgs false
set_option linter.unusedVariables false
theorem wf_i64 {n : Int} (h : (Lit.int .i64 n).wf = true) : I64 n := by simpa [Lit.wf, IntKind.min, IntKind.max, IntKind.bits, IntKind.signed] using h
end Go.Proofs.YtodjimecekaaeaaGreatDoor
