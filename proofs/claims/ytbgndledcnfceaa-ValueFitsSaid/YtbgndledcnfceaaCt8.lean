/- The chapter's examples hold, and what a cast and a fit come to is the same in both. No condition. -/
import Derived.Test.YtbgndledcnfceaaCt7
namespace Go.Proofs.Ytbgndledcnfceaa
open Go.RowKit Go.IntWalk
set_option linter.unusedSimpArgs false
set_option linter.unusedVariables false

theorem join_ex : joinV2 (1, -5, []) (2, 0, [120]) = ((2, 0, [45, 53, 120]), 0) := by
  have : numL (-5) = [45, 53] := by
    unfold numL
    rw [if_pos (by omega), digs_lt (by decide)]
    rfl
  simp [joinV2, textV, this]
theorem sz_of (l : List UInt8) (h : l.length ≤ 100 := by decide) : Sz l := by unfold Sz; omega
theorem c_live04 : FnC Try.prog 11 [] (bD true) := by
  refine w11 ?_
  have least : I64 (-9223372036854775808) := by decide
  have hA := fun (op : List UInt8) (x y : Int) (hx : I64 x) (hy : I64 y) => c_vArith op (1, x, []) (1, y, []) hx hy
  have hJ := c_vJoin (1, -5, []) (2, 0, [120]) (by decide) (by decide) (sz_of _) (sz_of _)
  rw [join_ex] at hJ
  refine ⟨_, _, _, c_vNum _, _, _, _, c_vNum _, _, _, _, c_vNum _, _, _, _, _, hA [47] (-7) 2 (by decide) (by decide), _, _, _, c_vNum _, _, _, _, _, hA [47] (-9223372036854775808) (-1) (by decide) (by decide),
    _, _, _, c_vNum _, _, _, _, _, hA [37] (-9223372036854775808) (-1) (by decide) (by decide), _, _, _, c_vNum _, _, _, _, c_vNum _, _, _, _, _, hA [37] (-7) 2 (by decide) (by decide),
    _, _, _, _, c_vArith [94] nul nul (by decide) (by decide), _, _, _, c_vNum _, _, _, _, c_vStr [120], _, _, _, _, hJ, _, _, _, c_vNum _, _, _, c_vTruth (1, 2, []),
    _, _, _, fun _ => c_vNum _, _, _, _, fun _ => c_vStr [45, 53, 120], _, _, _, fun _ => c_vBool _, _, _, _, fun _ => c_vNum _, _, _, _, fun _ => c_vStr [97, 66], _, _, _, fun _ => c_vStr [65, 98],
    _, fun _ => c_vCompare (2, 0, [97, 66]) (2, 0, [65, 98]) 0 (sz_of _) (sz_of _), _, _, _, fun _ => c_vStr [97, 66], _, _, _, fun _ => c_vStr [65, 98], _, fun _ => c_vCompare (2, 0, [97, 66]) (2, 0, [65, 98]) 1 (sz_of _) (sz_of _),
    _, _, _, fun _ => c_vNum _, _, fun _ => c_vCompare nul (1, 0, []) 0 (sz_of _) (sz_of _), _, fun _ => c_vCheck (4, 0, []), _, fun _ => c_vCheck (0, 1, []), _, _, _, fun _ => c_vBytes [120], ?_⟩
  refine congrArg (fun b => DV.c (.v (.bool b))) ?_
  decide +kernel
end Go.Proofs.Ytbgndledcnfceaa
