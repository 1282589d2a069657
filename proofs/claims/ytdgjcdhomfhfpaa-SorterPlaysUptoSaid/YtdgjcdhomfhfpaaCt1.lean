/- What text.Num and the document's Num compute: the digits of a number. Condition: a number of 64 bits. -/
import Derived.Test.YtdgjcdhomfhfpaaPl
import Derived.Test.YtdgjcdhomfhfpaaAbW
namespace Go.Proofs.Ytdgjcdhomfhfpaa
open Go.RowKit Go.IntWalk
set_option linter.unusedSimpArgs false
set_option linter.unusedVariables false

def rowAt (D : List UInt8) : List UInt8 := List.replicate (20 - D.length) 0 ++ D
theorem rowAt_len (D : List UInt8) (h : D.length ≤ 20) : (rowAt D).length = 20 := by simp [rowAt]; omega
theorem rowAt_set (D : List UInt8) (b : UInt8) (h : D.length ≤ 19) : (rowAt D).set (19 - D.length) b = rowAt (b :: D) := by
  have e : 20 - D.length = (19 - D.length) + 1 := by omega
  unfold rowAt
  rw [e, List.replicate_succ', List.append_assoc, List.set_append_right _ _ (by simp)]
  simp
theorem rowAt_drop (D : List UInt8) (h : D.length ≤ 20) : (rowAt D).drop (20 - D.length) = D := by
  unfold rowAt
  rw [List.drop_append_of_le_length (by simp)]
  simp
def NumI (n : Int) (rows : List (List CV)) (r p : Int) (first : Bool) (k : Nat) : Prop :=
  ∃ (D : List UInt8), NumAt n.natAbs r.toNat first D ∧ 0 ≤ r ∧ r ≤ 9223372036854775808 ∧ p = 20 - (D.length : Int) ∧ D.length ≤ 19 ∧ rows = bc (rowAt D) ∧ k = r.toNat + (if first then 1 else 0)

end Go.Proofs.Ytdgjcdhomfhfpaa
