/- A symbolic run of Go code: functions that are handed a row of their caller's own. No condition. -/
import Derived.Test.YteljlbgjpnfdjaaAb18
namespace Go.Proofs.Yteljlbgjpnfdjaa
open Go.RowKit
set_option linter.unusedSimpArgs false
set_option linter.unusedVariables false

section
variable {P : Program} {T : Tab} {X : Nat → Prop}

/-- What a function hands back is res, in general. -/
def FinG (R : St → Option (List LV × List Need)) (res : DV) (ν : Nu) (_ : Ex) (S : St) : Prop :=
  match R S with
  | some (vs, ns) => denNs ν ns ∧ resDV ν vs = res
  | none => False

theorem RowP.mono {w : World} {X Y : Nat → Prop} (h : ∀ b, Y b → X b) {at_ : Option (Nat × Nat)} {c : List (List CV)} {e : TypeId} {sz : Nat} (hr : RowP w X at_ c e sz) : RowP w Y at_ c e sz := by
  obtain ⟨h1, h2, h3⟩ := hr
  refine ⟨h1, h2, ?_⟩
  rcases h3 with h3 | ⟨b, cap, a, fr, g1, g2, g3, g4, g5, g6⟩
  · exact .inl h3
  · refine .inr ⟨b, cap, a, fr, g1, g2, g3, g4, g5, fun i el hi f cv hf => ?_⟩
    obtain ⟨r, hr, hv⟩ := g6 i el hi f cv hf
    exact ⟨r, hr, hv.mono h⟩

end
end Go.Proofs.Yteljlbgjpnfdjaa
