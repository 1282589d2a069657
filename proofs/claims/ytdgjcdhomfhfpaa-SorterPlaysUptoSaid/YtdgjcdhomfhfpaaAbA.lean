/- Of each function: from what its tree owes to its contract. No condition. Printed by walks.py. -/
import Derived.Test.YtdgjcdhomfhfpaaAbTab
import Derived.Test.YtdgjcdhomfhfpaaAb19
import Derived.Test.YtdgjcdhomfhfpaaAbO
namespace Go.Proofs.Ytdgjcdhomfhfpaa
open Go.RowKit
set_option linter.unusedVariables false
theorem mixedAbA : Try.prog.follows .mixedOrders = true := by kernel_rfl
/-- the functions that are run in place -/
noncomputable def inlAbA : FuncId → Option Func
  | _ => none
theorem inlAbA_ok : ∀ f fn, inlAbA f = some fn → Try.prog.funcs[f]? = some fn := by
  intro f fn h
  unfold inlAbA at h
  split at h
  · simp at h
/-- types, some not looked into -/
def ttAbA : Tab := { tt with oq := [34] }
theorem tokAbA : TOK Try.prog ttAbA := tok
/- (*tome/sorter.Sorter).Add -/
set_option maxRecDepth 100000 in
theorem a10_obj(x0 : Int) (x1 : List (List CV)) (x2 : List (List CV)) (x3 : List (List CV)) {res : DV} {cs' : List DV} {c' : List (List CV)} (hc' : cs'[2]? = some (.c (.vs c')))
    (h : ((((65536 : Int) ≤ ((x2.length : Nat) : Int)) → ((.tup [(.c (.v (.int .i64 (3 : Int)))), (.tup [(.c (.v (.int .i64 x0))), (.c (cellAt x1 0 0)), (.c (.vs x2))])]) = DV.tup [res, .tup cs'])) ∧ (¬ ((65536 : Int) ≤ ((x2.length : Nat) : Int)) → (∃ x4 : List (List CV), (FnC Try.prog 25 [(.c (cellAt x3 0 0))] (.c (cellAt x4 0 0))) ∧ (∀ x5 : List (List CV), x5 = [[(cellAt x4 0 0)]] → ((0 ≤ (((x2.length : Nat) : Int) + ((x5.length : Nat) : Int)) ∧ (((x2.length : Nat) : Int) + ((x5.length : Nat) : Int)) * (24 : Nat) ≤ 140737488355328 ∧ (((x2.length : Nat) : Int) + ((x5.length : Nat) : Int)) ≤ 9223372036854775807) ∧ (∀ x6 : List (List CV), x6 = (x2 ++ x5) → ((.tup [(.c (.v (.int .i64 (0 : Int)))), (.tup [(.c (.v (.int .i64 x0))), (.c (cellAt x1 0 0)), (.c (.vs x6))])]) = DV.tup [res, .tup cs'])))))))) :
    FnO Try.prog ⟨2, 59, 34, 1⟩ 10 [(.c (.v (.int .i64 x0))), (.c (cellAt x1 0 0)), (.c (.vs x2))] [(.c (cellAt x3 0 0))] res cs' :=
  fnO_w tokAbA mixedAbA inlAbA_ok Try.func10 (by kernel_rfl) 1000 [.i x0, .l x1, .l x2, .l x3] [.i .i64 (.var 0), .o (.var 1)] [] [.o (.var 3)] 2 59 34 1 (by kernel_rfl) hc' (by kernel_rfl) rfl rfl h
end Go.Proofs.Ytdgjcdhomfhfpaa
