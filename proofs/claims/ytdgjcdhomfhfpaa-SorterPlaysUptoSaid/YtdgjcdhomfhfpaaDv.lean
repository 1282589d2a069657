/- Closed data of the values' types, and contracts of calls that leave the world alone. No condition. -/
import Derived.Test.YtdgjcdhomfhfpaaPl
namespace Go.Proofs.Ytdgjcdhomfhfpaa
open Go.RowKit Go.IntWalk
set_option linter.unusedSimpArgs false
set_option linter.unusedVariables false

abbrev V3 := Int × Int × List UInt8
abbrev iD (n : Int) : DV := .c (.v (.int .i64 n))
abbrev bD (b : Bool) : DV := .c (.v (.bool b))
abbrev sD (l : List UInt8) : DV := .c (.v (.string (bs l)))
abbrev vD (v : V3) : DV := .agg [.v (.int .i64 v.1), .v (.int .i64 v.2.1), .v (.string (bs v.2.2))]
abbrev nul : V3 := (0, 0, [])
abbrev I64 (n : Int) : Prop := -9223372036854775808 ≤ n ∧ n ≤ 9223372036854775807

theorem cells2 {w : World} {X : Nat → Prop} {a b : Value} {vs : List Value} (h : DVRs w X [.c (.v a), .c (.v b)] vs) : vs = [a, b] := by
  match vs, h with
  | [x, y], h =>
    simp only [DVRs, DVR] at h
    obtain ⟨h1, h2, _⟩ := h
    cases h1
    cases h2
    rfl
  | [], h => simp [DVRs] at h
  | [_], h => simp [DVRs] at h
  | _ :: _ :: _ :: _, h => simp [DVRs] at h
theorem fnC_calls2 {P : Program} {f : FuncId} {fn : Func} (hf : P.funcs[f]? = some fn) (hn : (fn.name == "runtime.NumGoroutine") = false) (hb : fn.body.isNone = false) {a b v : Value} (hv : v.oneCell' = true)
    (h : ∀ w, Calls P f #[a, b] w fun e w' => e = .returned v ∧ w' = w) : FnC P f [.c (.v a), .c (.v b)] (.c (.v v)) :=
  FnC.of (canEnter_of hf hn hb) fun w X vs _ _ hvs => by
    rw [cells2 hvs]
    refine (h w).mono ?_
    rintro e w' ⟨rfl, rfl⟩
    refine ⟨v, rfl, ?_, Below.refl _ _⟩
    simp only [DVR]
    exact .v v hv
end Go.Proofs.Ytdgjcdhomfhfpaa
