/- Of each function: from what its tree owes to its contract. No condition. Printed by walks.py. -/
import Derived.Test.YteljlbgjpnfdjaaAbQ
namespace Go.Proofs.Yteljlbgjpnfdjaa
open Go.RowKit Q Go.IntKind
set_option linter.unusedVariables false
theorem mixedAbY : Try.prog.follows .mixedOrders = true := by kernel_rfl
/-- the functions that are run in place -/
noncomputable def inlAbY : FuncId → Option Func
  | 6 => some Try.f6
  | 20 => some Try.f20
  | 8 => some Try.f8
  | _ => none
theorem inlAbY_ok : ∀ f fn, inlAbY f = some fn → Try.prog.funcs[f]? = some fn := by
  intro f fn h
  unfold inlAbY at h
  split at h
  · simp only [Option.some.injEq] at h; subst h; exact Try.func6
  · simp only [Option.some.injEq] at h; subst h; exact Try.func20
  · simp only [Option.some.injEq] at h; subst h; exact Try.func8
  · simp at h
/-- types, but for some: what makes values of these is not run -/
def ttAbY : Tab := ⟨
  (0, ⟨.tuple #[], 1, 0, some (.tuple #[]), false⟩) ::
  (2, ⟨.int .i64, 1, 8, some (.int .i64 0), false⟩) ::
  (3, ⟨.int .i64, 1, 8, some (.int .i64 0), false⟩) ::
  (4, ⟨.bool, 1, 1, some (.bool false), false⟩) ::
  (5, ⟨.int .u8, 1, 1, some (.int .u8 0), false⟩) ::
  (6, ⟨.int .u8, 1, 1, some (.int .u8 0), false⟩) ::
  (9, ⟨.string, 1, 16, some (.string ⟨#[]⟩), false⟩) ::
  (10, ⟨.string, 1, 16, some (.string ⟨#[]⟩), false⟩) ::
  (11, ⟨.string, 1, 16, some (.string ⟨#[]⟩), false⟩) ::
  (12, ⟨.int .u64, 1, 8, some (.int .u64 0), false⟩) ::
  (15, ⟨.pointer 100, 1, 8, some (.pointer none), false⟩) ::
  (16, ⟨.pointer 103, 1, 8, some (.pointer none), false⟩) ::
  (17, ⟨.pointer 113, 1, 8, some (.pointer none), false⟩) ::
  (18, ⟨.struct #[⟨ "typ", 17, 0, false, "", (strOf [105, 110, 116, 101, 114, 110, 97, 108, 47, 114, 117, 110, 116, 105, 109, 101, 47, 109, 97, 112, 115]), 0⟩], 1, 8, some (.agg #[.pointer none]), false⟩) ::
  (19, ⟨.struct #[⟨ "typ", 17, 0, false, "", (strOf [105, 110, 116, 101, 114, 110, 97, 108, 47, 114, 117, 110, 116, 105, 109, 101, 47, 109, 97, 112, 115]), 0⟩], 1, 8, some (.agg #[.pointer none]), false⟩) ::
  (20, ⟨.interface #[], 1, 16, some (.nilIface), false⟩) ::
  (21, ⟨.int .i32, 1, 4, some (.int .i32 0), false⟩) ::
  (22, ⟨.slice 33, 1, 24, some (.slice none 0 0), false⟩) ::
  (23, ⟨.pointer 58, 1, 8, some (.pointer none), false⟩) ::
  (24, ⟨.int .i64, 1, 8, some (.int .i64 0), false⟩) ::
  (25, ⟨.tuple #[23, 24], 1, 0, some (.tuple #[.pointer none, .int .i64 0]), false⟩) ::
  (27, ⟨.struct #[⟨ "Op", 9, 0, false, "", "", 0⟩, ⟨ "Distinct", 4, 1, false, "", "", 16⟩, ⟨ "L", 22, 2, false, "", "", 24⟩], 3, 48, some (.agg #[.string ⟨#[]⟩, .bool false, .slice none 0 0]), false⟩) ::
  (28, ⟨.struct #[⟨ "Op", 9, 0, false, "", "", 0⟩, ⟨ "Distinct", 4, 1, false, "", "", 16⟩, ⟨ "L", 22, 2, false, "", "", 24⟩], 3, 48, some (.agg #[.string ⟨#[]⟩, .bool false, .slice none 0 0]), false⟩) ::
  (29, ⟨.tuple #[28, 3], 1, 0, some (.tuple #[.agg #[.string ⟨#[]⟩, .bool false, .slice none 0 0], .int .i64 0]), false⟩) ::
  (32, ⟨.struct #[⟨ "Kind", 3, 0, false, "", "", 0⟩, ⟨ "N", 2, 1, false, "", "", 8⟩, ⟨ "S", 9, 2, false, "", "", 16⟩], 3, 32, some (.agg #[.int .i64 0, .int .i64 0, .string ⟨#[]⟩]), true⟩) ::
  (33, ⟨.struct #[⟨ "Kind", 3, 0, false, "", "", 0⟩, ⟨ "N", 2, 1, false, "", "", 8⟩, ⟨ "S", 9, 2, false, "", "", 16⟩], 3, 32, some (.agg #[.int .i64 0, .int .i64 0, .string ⟨#[]⟩]), true⟩) ::
  (34, ⟨.tuple #[33, 24], 1, 0, some (.tuple #[.agg #[.int .i64 0, .int .i64 0, .string ⟨#[]⟩], .int .i64 0]), false⟩) ::
  (36, ⟨.tuple #[33, 3], 1, 0, some (.tuple #[.agg #[.int .i64 0, .int .i64 0, .string ⟨#[]⟩], .int .i64 0]), false⟩) ::
  (44, ⟨.slice 2, 1, 24, some (.slice none 0 0), false⟩) ::
  (45, ⟨.slice 5, 1, 24, some (.slice none 0 0), false⟩) ::
  (47, ⟨.array 6 9, 6, 96, some (.agg #[.string ⟨#[]⟩, .string ⟨#[]⟩, .string ⟨#[]⟩, .string ⟨#[]⟩, .string ⟨#[]⟩, .string ⟨#[]⟩]), false⟩) ::
  (48, ⟨.array 6 33, 18, 192, some (.agg #[.int .i64 0, .int .i64 0, .string ⟨#[]⟩, .int .i64 0, .int .i64 0, .string ⟨#[]⟩, .int .i64 0, .int .i64 0, .string ⟨#[]⟩, .int .i64 0, .int .i64 0, .string ⟨#[]⟩, .int .i64 0, .int .i64 0, .string ⟨#[]⟩, .int .i64 0, .int .i64 0, .string ⟨#[]⟩]), false⟩) ::
  (50, ⟨.array 3 9, 3, 48, some (.agg #[.string ⟨#[]⟩, .string ⟨#[]⟩, .string ⟨#[]⟩]), false⟩) ::
  (51, ⟨.array 2 4, 2, 2, some (.agg #[.bool false, .bool false]), false⟩) ::
  (54, ⟨.interface #[((strOf [116, 111, 109, 101, 47, 97, 103, 103, 46, 101, 110, 100]), 40), ((strOf [116, 111, 109, 101, 47, 97, 103, 103, 46, 112, 117, 116]), 63)], 1, 16, some (.nilIface), false⟩) ::
  (55, ⟨.interface #[((strOf [116, 111, 109, 101, 47, 97, 103, 103, 46, 101, 110, 100]), 40), ((strOf [116, 111, 109, 101, 47, 97, 103, 103, 46, 112, 117, 116]), 63)], 1, 16, some (.nilIface), false⟩) ::
  (57, ⟨.struct #[⟨ "k", 55, 0, false, "", (strOf [116, 111, 109, 101, 47, 97, 103, 103]), 0⟩, ⟨ "distinct", 4, 1, false, "", (strOf [116, 111, 109, 101, 47, 97, 103, 103]), 16⟩, ⟨ "has", 22, 2, false, "", (strOf [116, 111, 109, 101, 47, 97, 103, 103]), 24⟩], 3, 48, some (.agg #[.nilIface, .bool false, .slice none 0 0]), false⟩) ::
  (58, ⟨.struct #[⟨ "k", 55, 0, false, "", (strOf [116, 111, 109, 101, 47, 97, 103, 103]), 0⟩, ⟨ "distinct", 4, 1, false, "", (strOf [116, 111, 109, 101, 47, 97, 103, 103]), 16⟩, ⟨ "has", 22, 2, false, "", (strOf [116, 111, 109, 101, 47, 97, 103, 103]), 24⟩], 3, 48, some (.agg #[.nilIface, .bool false, .slice none 0 0]), false⟩) ::
  (60, ⟨.tuple #[3, 4], 1, 0, some (.tuple #[.int .i64 0, .bool false]), false⟩) ::
  (66, ⟨.int .u64, 1, 8, some (.int .u64 0), false⟩) ::
  (67, ⟨.tuple #[2, 66], 1, 0, some (.tuple #[.int .i64 0, .int .u64 0]), false⟩) ::
  (70, ⟨.tuple #[33, 4], 1, 0, some (.tuple #[.agg #[.int .i64 0, .int .i64 0, .string ⟨#[]⟩], .bool false]), false⟩) ::
  (76, ⟨.pointer 78, 1, 8, some (.pointer none), false⟩) ::
  (77, ⟨.struct #[⟨ "n", 2, 0, false, "", (strOf [116, 111, 109, 101, 47, 97, 103, 103]), 0⟩], 1, 8, some (.agg #[.int .i64 0]), true⟩) ::
  (79, ⟨.pointer 83, 1, 8, some (.pointer none), false⟩) ::
  (80, ⟨.struct #[⟨ "hi", 2, 0, false, "", (strOf [116, 111, 109, 101, 47, 97, 103, 103]), 0⟩, ⟨ "lo", 66, 1, false, "", (strOf [116, 111, 109, 101, 47, 97, 103, 103]), 8⟩], 2, 16, some (.agg #[.int .i64 0, .int .u64 0]), true⟩) ::
  (81, ⟨.struct #[⟨ "hi", 2, 0, false, "", (strOf [116, 111, 109, 101, 47, 97, 103, 103]), 0⟩, ⟨ "lo", 66, 1, false, "", (strOf [116, 111, 109, 101, 47, 97, 103, 103]), 8⟩], 2, 16, some (.agg #[.int .i64 0, .int .u64 0]), true⟩) ::
  (82, ⟨.struct #[⟨ "total", 81, 0, true, "", (strOf [116, 111, 109, 101, 47, 97, 103, 103]), 0⟩, ⟨ "some", 4, 2, false, "", (strOf [116, 111, 109, 101, 47, 97, 103, 103]), 16⟩, ⟨ "zero", 4, 3, false, "", (strOf [116, 111, 109, 101, 47, 97, 103, 103]), 17⟩], 4, 24, some (.agg #[.int .i64 0, .int .u64 0, .bool false, .bool false]), false⟩) ::
  (84, ⟨.pointer 86, 1, 8, some (.pointer none), false⟩) ::
  (85, ⟨.struct #[⟨ "total", 81, 0, true, "", (strOf [116, 111, 109, 101, 47, 97, 103, 103]), 0⟩, ⟨ "n", 2, 2, false, "", (strOf [116, 111, 109, 101, 47, 97, 103, 103]), 16⟩], 3, 24, some (.agg #[.int .i64 0, .int .u64 0, .int .i64 0]), false⟩) ::
  (87, ⟨.pointer 89, 1, 8, some (.pointer none), false⟩) ::
  (88, ⟨.struct #[⟨ "v", 33, 0, false, "", (strOf [116, 111, 109, 101, 47, 97, 103, 103]), 0⟩, ⟨ "some", 4, 3, false, "", (strOf [116, 111, 109, 101, 47, 97, 103, 103]), 32⟩, ⟨ "most", 4, 4, false, "", (strOf [116, 111, 109, 101, 47, 97, 103, 103]), 33⟩], 5, 40, some (.agg #[.int .i64 0, .int .i64 0, .string ⟨#[]⟩, .bool false, .bool false]), false⟩) ::
  (96, ⟨.int .u64, 1, 8, some (.int .u64 0), false⟩) ::
  (101, ⟨.array 0 16, 0, 0, some (.agg #[]), false⟩) ::
  (105, ⟨.int .u32, 1, 4, some (.int .u32 0), false⟩) ::
  (106, ⟨.int .u8, 1, 1, some (.int .u8 0), false⟩) ::
  (107, ⟨.int .u8, 1, 1, some (.int .u8 0), false⟩) ::
  (109, ⟨.pointer 5, 1, 8, some (.pointer none), false⟩) ::
  (110, ⟨.int .i32, 1, 4, some (.int .i32 0), false⟩) ::
  (111, ⟨.int .i32, 1, 4, some (.int .i32 0), false⟩) ::
  (115, ⟨.tuple #[2, 4], 1, 0, some (.tuple #[.int .i64 0, .bool false]), false⟩) ::
  (117, ⟨.pointer 81, 1, 8, some (.pointer none), false⟩) ::
  (118, ⟨.tuple #[66, 66], 1, 0, some (.tuple #[.int .u64 0, .int .u64 0]), false⟩) ::
  (120, ⟨.interface #[("Error", 98)], 1, 16, some (.nilIface), false⟩) ::
  (121, ⟨.interface #[("Error", 98)], 1, 16, some (.nilIface), false⟩) ::
  (123, ⟨.pointer 126, 1, 8, some (.pointer none), false⟩) ::
  (124, ⟨.unsafePointer, 1, 8, some (.pointer none), false⟩) ::
  (125, ⟨.struct #[⟨ "s", 9, 0, false, "", "errors", 0⟩], 1, 16, some (.agg #[.string ⟨#[]⟩]), true⟩) ::
  (126, ⟨.struct #[⟨ "s", 9, 0, false, "", "errors", 0⟩], 1, 16, some (.agg #[.string ⟨#[]⟩]), true⟩) :: [], [24], false, [], [(23, [116, 111, 109, 101, 47, 97, 103, 103, 46, 105, 110, 116, 115], 22), (23, [116, 111, 109, 101, 47, 97, 103, 103, 46, 112, 108, 97, 99, 101], 23), (76, [116, 111, 109, 101, 47, 97, 103, 103, 46, 101, 110, 100], 62), (76, [116, 111, 109, 101, 47, 97, 103, 103, 46, 112, 117, 116], 63), (79, [116, 111, 109, 101, 47, 97, 103, 103, 46, 101, 110, 100], 65), (79, [116, 111, 109, 101, 47, 97, 103, 103, 46, 112, 117, 116], 66), (84, [116, 111, 109, 101, 47, 97, 103, 103, 46, 101, 110, 100], 69), (84, [116, 111, 109, 101, 47, 97, 103, 103, 46, 112, 117, 116], 70), (87, [116, 111, 109, 101, 47, 97, 103, 103, 46, 101, 110, 100], 75), (87, [116, 111, 109, 101, 47, 97, 103, 103, 46, 112, 117, 116], 76), (117, [116, 111, 109, 101, 47, 97, 103, 103, 46, 97, 100, 100], 64)], []⟩

theorem tokAbY : TOK Try.prog ttAbY := by
  unfold ttAbY
  refine ⟨?_, ⟨methOK_of (e := 58) (by kernel_rfl) (by kernel_rfl), ⟨methOK_of (e := 58) (by kernel_rfl) (by kernel_rfl), ⟨methOK_of (e := 78) (by kernel_rfl) (by kernel_rfl), ⟨methOK_of (e := 78) (by kernel_rfl) (by kernel_rfl), ⟨methOK_of (e := 83) (by kernel_rfl) (by kernel_rfl), ⟨methOK_of (e := 83) (by kernel_rfl) (by kernel_rfl), ⟨methOK_of (e := 86) (by kernel_rfl) (by kernel_rfl), ⟨methOK_of (e := 86) (by kernel_rfl) (by kernel_rfl), ⟨methOK_of (e := 89) (by kernel_rfl) (by kernel_rfl), ⟨methOK_of (e := 89) (by kernel_rfl) (by kernel_rfl), ⟨methOK_of (e := 81) (by kernel_rfl) (by kernel_rfl), trivial⟩⟩⟩⟩⟩⟩⟩⟩⟩⟩⟩⟩
  show TOKl _ _
  refine ⟨tiOK_of (by kernel_rfl) (by kernel_rfl) (fun h => by cases h), ?_⟩
  refine ⟨tiOK_of (by kernel_rfl) (by kernel_rfl) (fun h => by cases h), ?_⟩
  refine ⟨tiOK_of (by kernel_rfl) (by kernel_rfl) (fun h => by cases h), ?_⟩
  refine ⟨tiOK_of (by kernel_rfl) (by kernel_rfl) (fun h => by cases h), ?_⟩
  refine ⟨tiOK_of (by kernel_rfl) (by kernel_rfl) (fun h => by cases h), ?_⟩
  refine ⟨tiOK_of (by kernel_rfl) (by kernel_rfl) (fun h => by cases h), ?_⟩
  refine ⟨tiOK_of (by kernel_rfl) (by kernel_rfl) (fun h => by cases h), ?_⟩
  refine ⟨tiOK_of (by kernel_rfl) (by kernel_rfl) (fun h => by cases h), ?_⟩
  refine ⟨tiOK_of (by kernel_rfl) (by kernel_rfl) (fun h => by cases h), ?_⟩
  refine ⟨tiOK_of (by kernel_rfl) (by kernel_rfl) (fun h => by cases h), ?_⟩
  refine ⟨tiOK_of (by kernel_rfl) (by kernel_rfl) (fun h => by cases h), ?_⟩
  refine ⟨tiOK_of (by kernel_rfl) (by kernel_rfl) (fun h => by cases h), ?_⟩
  refine ⟨tiOK_of (by kernel_rfl) (by kernel_rfl) (fun h => by cases h), ?_⟩
  refine ⟨tiOK_of (by kernel_rfl) (by kernel_rfl) (fun h => by cases h), ?_⟩
  refine ⟨tiOK_of (by kernel_rfl) (by kernel_rfl) (fun h => by cases h), ?_⟩
  refine ⟨tiOK_of (by kernel_rfl) (by kernel_rfl) (fun h => by cases h), ?_⟩
  refine ⟨tiOK_of (by kernel_rfl) (by kernel_rfl) (fun h => by cases h), ?_⟩
  refine ⟨tiOK_of (by kernel_rfl) (by kernel_rfl) (fun h => by cases h), ?_⟩
  refine ⟨tiOK_of (by kernel_rfl) (by kernel_rfl) (fun h => by cases h), ?_⟩
  refine ⟨tiOK_of (by kernel_rfl) (by kernel_rfl) (fun h => by cases h), ?_⟩
  refine ⟨tiOK_of (by kernel_rfl) (by kernel_rfl) (fun h => by cases h), ?_⟩
  refine ⟨tiOK_of (by kernel_rfl) (by kernel_rfl) (fun h => by cases h), ?_⟩
  refine ⟨tiOK_of (by kernel_rfl) (by kernel_rfl) (fun h => by cases h), ?_⟩
  refine ⟨tiOK_of (by kernel_rfl) (by kernel_rfl) (fun h => by cases h), ?_⟩
  refine ⟨tiOK_of (by kernel_rfl) (by kernel_rfl) (fun _ => ⟨by kernel_rfl, by kernel_rfl⟩), ?_⟩
  refine ⟨tiOK_of (by kernel_rfl) (by kernel_rfl) (fun _ => ⟨by kernel_rfl, by kernel_rfl⟩), ?_⟩
  refine ⟨tiOK_of (by kernel_rfl) (by kernel_rfl) (fun h => by cases h), ?_⟩
  refine ⟨tiOK_of (by kernel_rfl) (by kernel_rfl) (fun h => by cases h), ?_⟩
  refine ⟨tiOK_of (by kernel_rfl) (by kernel_rfl) (fun h => by cases h), ?_⟩
  refine ⟨tiOK_of (by kernel_rfl) (by kernel_rfl) (fun h => by cases h), ?_⟩
  refine ⟨tiOK_of (by kernel_rfl) (by kernel_rfl) (fun h => by cases h), ?_⟩
  refine ⟨tiOK_of (by kernel_rfl) (by kernel_rfl) (fun h => by cases h), ?_⟩
  refine ⟨tiOK_of (by kernel_rfl) (by kernel_rfl) (fun h => by cases h), ?_⟩
  refine ⟨tiOK_of (by kernel_rfl) (by kernel_rfl) (fun h => by cases h), ?_⟩
  refine ⟨tiOK_of (by kernel_rfl) (by kernel_rfl) (fun h => by cases h), ?_⟩
  refine ⟨tiOK_of (by kernel_rfl) (by kernel_rfl) (fun h => by cases h), ?_⟩
  refine ⟨tiOK_of (by kernel_rfl) (by kernel_rfl) (fun h => by cases h), ?_⟩
  refine ⟨tiOK_of (by kernel_rfl) (by kernel_rfl) (fun h => by cases h), ?_⟩
  refine ⟨tiOK_of (by kernel_rfl) (by kernel_rfl) (fun h => by cases h), ?_⟩
  refine ⟨tiOK_of (by kernel_rfl) (by kernel_rfl) (fun h => by cases h), ?_⟩
  refine ⟨tiOK_of (by kernel_rfl) (by kernel_rfl) (fun h => by cases h), ?_⟩
  refine ⟨tiOK_of (by kernel_rfl) (by kernel_rfl) (fun h => by cases h), ?_⟩
  refine ⟨tiOK_of (by kernel_rfl) (by kernel_rfl) (fun h => by cases h), ?_⟩
  refine ⟨tiOK_of (by kernel_rfl) (by kernel_rfl) (fun _ => ⟨by kernel_rfl, by kernel_rfl⟩), ?_⟩
  refine ⟨tiOK_of (by kernel_rfl) (by kernel_rfl) (fun h => by cases h), ?_⟩
  refine ⟨tiOK_of (by kernel_rfl) (by kernel_rfl) (fun _ => ⟨by kernel_rfl, by kernel_rfl⟩), ?_⟩
  refine ⟨tiOK_of (by kernel_rfl) (by kernel_rfl) (fun _ => ⟨by kernel_rfl, by kernel_rfl⟩), ?_⟩
  refine ⟨tiOK_of (by kernel_rfl) (by kernel_rfl) (fun h => by cases h), ?_⟩
  refine ⟨tiOK_of (by kernel_rfl) (by kernel_rfl) (fun h => by cases h), ?_⟩
  refine ⟨tiOK_of (by kernel_rfl) (by kernel_rfl) (fun h => by cases h), ?_⟩
  refine ⟨tiOK_of (by kernel_rfl) (by kernel_rfl) (fun h => by cases h), ?_⟩
  refine ⟨tiOK_of (by kernel_rfl) (by kernel_rfl) (fun h => by cases h), ?_⟩
  refine ⟨tiOK_of (by kernel_rfl) (by kernel_rfl) (fun h => by cases h), ?_⟩
  refine ⟨tiOK_of (by kernel_rfl) (by kernel_rfl) (fun h => by cases h), ?_⟩
  refine ⟨tiOK_of (by kernel_rfl) (by kernel_rfl) (fun h => by cases h), ?_⟩
  refine ⟨tiOK_of (by kernel_rfl) (by kernel_rfl) (fun h => by cases h), ?_⟩
  refine ⟨tiOK_of (by kernel_rfl) (by kernel_rfl) (fun h => by cases h), ?_⟩
  refine ⟨tiOK_of (by kernel_rfl) (by kernel_rfl) (fun h => by cases h), ?_⟩
  refine ⟨tiOK_of (by kernel_rfl) (by kernel_rfl) (fun h => by cases h), ?_⟩
  refine ⟨tiOK_of (by kernel_rfl) (by kernel_rfl) (fun h => by cases h), ?_⟩
  refine ⟨tiOK_of (by kernel_rfl) (by kernel_rfl) (fun h => by cases h), ?_⟩
  refine ⟨tiOK_of (by kernel_rfl) (by kernel_rfl) (fun h => by cases h), ?_⟩
  refine ⟨tiOK_of (by kernel_rfl) (by kernel_rfl) (fun h => by cases h), ?_⟩
  refine ⟨tiOK_of (by kernel_rfl) (by kernel_rfl) (fun h => by cases h), ?_⟩
  refine ⟨tiOK_of (by kernel_rfl) (by kernel_rfl) (fun h => by cases h), ?_⟩
  refine ⟨tiOK_of (by kernel_rfl) (by kernel_rfl) (fun h => by cases h), ?_⟩
  refine ⟨tiOK_of (by kernel_rfl) (by kernel_rfl) (fun h => by cases h), ?_⟩
  refine ⟨tiOK_of (by kernel_rfl) (by kernel_rfl) (fun _ => ⟨by kernel_rfl, by kernel_rfl⟩), ?_⟩
  refine ⟨tiOK_of (by kernel_rfl) (by kernel_rfl) (fun _ => ⟨by kernel_rfl, by kernel_rfl⟩), ?_⟩
  trivial

/- math/bits.Div64 -/
/-- the heads of its loops -/
def hsAbY_72 : List Hd := [
  ⟨6, 0, (.junk :: .junk :: (.i .u64 (.shlv .u64 (.var 2) (.wr .u64 (.var 3)))) :: .junk :: .junk :: .junk :: .junk :: .junk :: (.i .u64 (.wr .u64 (.var 3))) :: (.i .u64 (.shr (.shlv .u64 (.var 2) (.wr .u64 (.var 3))) 32)) :: (.i .u64 (.band .u64 (.shlv .u64 (.var 2) (.wr .u64 (.var 3))) (.int (4294967295)))) :: .junk :: .junk :: .junk :: (.i .u64 (.band .u64 (.shlv .u64 (.var 1) (.wr .u64 (.var 3))) (.int (4294967295)))) :: (.i .u64 (.var 4)) :: (.i .u64 (.var 6)) :: (.i .u64 (.wr .u64 (.sub (.wr .u64 (.add (.wr .u64 (.mul (.bor .u64 (.shlv .u64 (.var 0) (.wr .u64 (.var 3))) (.shrv .u64 (.var 1) (.wr .u64 (.sub (.int (64)) (.wr .u64 (.var 3)))))) (.int (4294967296)))) (.shr (.shlv .u64 (.var 1) (.wr .u64 (.var 3))) 32))) (.wr .u64 (.mul (.var 4) (.shlv .u64 (.var 2) (.wr .u64 (.var 3)))))))) :: (.i .u64 (.var 7)) :: .junk :: .junk :: .junk :: .junk :: .junk :: .junk :: .junk :: .junk :: .junk :: .junk :: .junk :: .junk :: .junk :: .junk :: .junk :: .junk :: .junk :: .junk :: .junk :: .junk :: .junk :: .junk :: .junk :: .junk :: .junk :: .junk :: .junk :: .junk :: .junk :: .junk :: .junk :: .junk :: .junk :: .junk :: .junk :: .junk :: .junk :: .junk :: .junk :: .junk :: .junk :: .junk :: .junk :: .junk :: .junk :: .junk :: .junk :: .junk :: .junk :: .junk :: .junk :: .junk :: .junk :: .junk :: .junk :: .junk :: .junk :: .junk :: .junk :: .junk :: .junk :: .junk :: .junk :: .junk :: .junk :: .junk :: .junk :: .junk :: .junk :: .junk :: .junk :: .junk :: .junk :: .junk :: .junk :: .junk :: .junk :: .junk :: .junk :: .junk :: .junk :: .junk :: .junk :: .junk :: .junk :: .junk :: .junk :: .junk :: .junk :: .junk :: .junk :: .junk :: .junk :: .junk :: .junk :: .junk :: .junk :: .junk :: .junk :: .junk :: .junk :: .junk :: .junk :: .junk :: .junk :: .junk :: .junk :: .junk :: .junk :: .junk :: .junk :: .junk :: .junk :: .junk :: .junk :: .junk :: []), [], 8, ([])⟩,
  ⟨6, 0, (.junk :: .junk :: (.i .u64 (.shlv .u64 (.var 2) (.wr .u64 (.var 3)))) :: .junk :: .junk :: .junk :: .junk :: .junk :: (.i .u64 (.wr .u64 (.var 3))) :: (.i .u64 (.shr (.shlv .u64 (.var 2) (.wr .u64 (.var 3))) 32)) :: (.i .u64 (.band .u64 (.shlv .u64 (.var 2) (.wr .u64 (.var 3))) (.int (4294967295)))) :: .junk :: .junk :: .junk :: (.i .u64 (.band .u64 (.shlv .u64 (.var 1) (.wr .u64 (.var 3))) (.int (4294967295)))) :: (.i .u64 (.wr .u64 (.sub (.var 4) (.int (1))))) :: (.i .u64 (.var 6)) :: (.i .u64 (.wr .u64 (.sub (.wr .u64 (.add (.wr .u64 (.mul (.bor .u64 (.shlv .u64 (.var 0) (.wr .u64 (.var 3))) (.shrv .u64 (.var 1) (.wr .u64 (.sub (.int (64)) (.wr .u64 (.var 3)))))) (.int (4294967296)))) (.shr (.shlv .u64 (.var 1) (.wr .u64 (.var 3))) 32))) (.wr .u64 (.mul (.wr .u64 (.sub (.var 4) (.int (1)))) (.shlv .u64 (.var 2) (.wr .u64 (.var 3)))))))) :: (.i .u64 (.var 7)) :: .junk :: .junk :: .junk :: .junk :: .junk :: .junk :: .junk :: .junk :: .junk :: .junk :: .junk :: .junk :: .junk :: .junk :: .junk :: .junk :: .junk :: .junk :: .junk :: .junk :: .junk :: .junk :: .junk :: .junk :: .junk :: .junk :: .junk :: .junk :: .junk :: .junk :: .junk :: .junk :: .junk :: .junk :: .junk :: .junk :: .junk :: .junk :: .junk :: .junk :: .junk :: .junk :: .junk :: .junk :: .junk :: .junk :: .junk :: .junk :: .junk :: .junk :: .junk :: .junk :: .junk :: .junk :: .junk :: .junk :: .junk :: .junk :: .junk :: .junk :: .junk :: .junk :: .junk :: .junk :: .junk :: .junk :: .junk :: .junk :: .junk :: .junk :: .junk :: .junk :: .junk :: .junk :: .junk :: .junk :: .junk :: .junk :: .junk :: .junk :: .junk :: .junk :: .junk :: .junk :: .junk :: .junk :: .junk :: .junk :: .junk :: .junk :: .junk :: .junk :: .junk :: .junk :: .junk :: .junk :: .junk :: .junk :: .junk :: .junk :: .junk :: .junk :: .junk :: .junk :: .junk :: .junk :: .junk :: .junk :: .junk :: .junk :: .junk :: .junk :: .junk :: .junk :: .junk :: .junk :: []), [], 8, ([])⟩,
  ⟨4, 0, (.junk :: .junk :: (.i .u64 (.shlv .u64 (.var 2) (.wr .u64 (.var 3)))) :: .junk :: .junk :: .junk :: .junk :: .junk :: (.i .u64 (.wr .u64 (.var 3))) :: (.i .u64 (.shr (.shlv .u64 (.var 2) (.wr .u64 (.var 3))) 32)) :: (.i .u64 (.band .u64 (.shlv .u64 (.var 2) (.wr .u64 (.var 3))) (.int (4294967295)))) :: (.i .u64 (.bor .u64 (.shlv .u64 (.var 0) (.wr .u64 (.var 3))) (.shrv .u64 (.var 1) (.wr .u64 (.sub (.int (64)) (.wr .u64 (.var 3))))))) :: .junk :: (.i .u64 (.shr (.shlv .u64 (.var 1) (.wr .u64 (.var 3))) 32)) :: (.i .u64 (.band .u64 (.shlv .u64 (.var 1) (.wr .u64 (.var 3))) (.int (4294967295)))) :: (.i .u64 (.var 4)) :: (.i .u64 (.var 5)) :: .junk :: .junk :: .junk :: .junk :: .junk :: .junk :: .junk :: .junk :: .junk :: .junk :: .junk :: .junk :: .junk :: .junk :: .junk :: .junk :: .junk :: .junk :: .junk :: .junk :: .junk :: .junk :: .junk :: .junk :: .junk :: .junk :: .junk :: .junk :: .junk :: .junk :: .junk :: .junk :: .junk :: .junk :: .junk :: .junk :: .junk :: .junk :: .junk :: .junk :: .junk :: .junk :: .junk :: .junk :: .junk :: .junk :: .junk :: .junk :: .junk :: .junk :: .junk :: .junk :: .junk :: .junk :: .junk :: .junk :: .junk :: .junk :: .junk :: .junk :: .junk :: .junk :: .junk :: .junk :: .junk :: .junk :: .junk :: .junk :: .junk :: .junk :: .junk :: .junk :: .junk :: .junk :: .junk :: .junk :: .junk :: .junk :: .junk :: .junk :: .junk :: .junk :: .junk :: .junk :: .junk :: .junk :: .junk :: .junk :: .junk :: .junk :: .junk :: .junk :: .junk :: .junk :: .junk :: .junk :: .junk :: .junk :: .junk :: .junk :: .junk :: .junk :: .junk :: .junk :: .junk :: .junk :: .junk :: .junk :: .junk :: .junk :: .junk :: .junk :: .junk :: .junk :: .junk :: .junk :: .junk :: .junk :: []), [], 6, ([])⟩]
def ttAbY_72 : Tab := { ttAbY with hs := hsAbY_72 }
set_option maxRecDepth 100000 in
theorem w72(x0 : Int) (x1 : Int) (x2 : Int) {res : DV}
    (h : (br (x2 = 0) False (br (x2 ≤ x0) False (br (x0 = 0) ((x2 ≠ 0) ∧ ((x2 ≠ 0) ∧ (rt (.tup [.c (.v (.int .u64 ((wrap .u64 (Int.tdiv x1 x2))))), .c (.v (.int .u64 ((Int.tmod x1 x2))))]) res))) (∃ (x3 : Int), ca 73 [.c (.v (.int .u64 x2))] x3 ∧ ((0 ≤ (wrap .u64 x3)) ∧ ((0 ≤ (wrap .u64 x3)) ∧ ((0 ≤ (wrap .u64 (64 - (wrap .u64 x3)))) ∧ ((0 ≤ (wrap .u64 x3)) ∧ (((Int.fdiv (IntKind.wrap .u64 (x2 * 2 ^ min ((wrap .u64 x3)).toNat (IntKind.bits .u64))) (2 ^ 32)) ≠ 0) ∧ (∃ I0 : Int → Int → Nat → Prop, (∃ k, I0 (wrap .u64 (Int.tdiv (IntKind.wrap .u64 (((BitVec.ofInt (IntKind.bits .u64) (IntKind.wrap .u64 (x0 * 2 ^ min ((wrap .u64 x3)).toNat (IntKind.bits .u64))) ||| BitVec.ofInt (IntKind.bits .u64) (Int.fdiv x1 (2 ^ min ((wrap .u64 (64 - (wrap .u64 x3)))).toNat (IntKind.bits .u64)))).toNat : Nat) : Int)) (Int.fdiv (IntKind.wrap .u64 (x2 * 2 ^ min ((wrap .u64 x3)).toNat (IntKind.bits .u64))) (2 ^ 32)))) (wrap .u64 ((IntKind.wrap .u64 (((BitVec.ofInt (IntKind.bits .u64) (IntKind.wrap .u64 (x0 * 2 ^ min ((wrap .u64 x3)).toNat (IntKind.bits .u64))) ||| BitVec.ofInt (IntKind.bits .u64) (Int.fdiv x1 (2 ^ min ((wrap .u64 (64 - (wrap .u64 x3)))).toNat (IntKind.bits .u64)))).toNat : Nat) : Int)) - (wrap .u64 ((wrap .u64 (Int.tdiv (IntKind.wrap .u64 (((BitVec.ofInt (IntKind.bits .u64) (IntKind.wrap .u64 (x0 * 2 ^ min ((wrap .u64 x3)).toNat (IntKind.bits .u64))) ||| BitVec.ofInt (IntKind.bits .u64) (Int.fdiv x1 (2 ^ min ((wrap .u64 (64 - (wrap .u64 x3)))).toNat (IntKind.bits .u64)))).toNat : Nat) : Int)) (Int.fdiv (IntKind.wrap .u64 (x2 * 2 ^ min ((wrap .u64 x3)).toNat (IntKind.bits .u64))) (2 ^ 32)))) * (Int.fdiv (IntKind.wrap .u64 (x2 * 2 ^ min ((wrap .u64 x3)).toNat (IntKind.bits .u64))) (2 ^ 32)))))) k) ∧ ∀ k0 x4 x5, I0 x4 x5 k0 → (br ((4294967296 ≤ x4) ∨ ((wrap .u64 ((wrap .u64 (4294967296 * x5)) + (Int.fdiv (IntKind.wrap .u64 (x1 * 2 ^ min ((wrap .u64 x3)).toNat (IntKind.bits .u64))) (2 ^ 32)))) < (wrap .u64 (x4 * (IntKind.wrap .u64 (((BitVec.ofInt (IntKind.bits .u64) (IntKind.wrap .u64 (x2 * 2 ^ min ((wrap .u64 x3)).toNat (IntKind.bits .u64))) &&& BitVec.ofInt (IntKind.bits .u64) (4294967295 : Int)).toNat : Nat) : Int)))))) (br (4294967296 ≤ (wrap .u64 (x5 + (Int.fdiv (IntKind.wrap .u64 (x2 * 2 ^ min ((wrap .u64 x3)).toNat (IntKind.bits .u64))) (2 ^ 32))))) (((Int.fdiv (IntKind.wrap .u64 (x2 * 2 ^ min ((wrap .u64 x3)).toNat (IntKind.bits .u64))) (2 ^ 32)) ≠ 0) ∧ (∃ I0 : Int → Int → Nat → Prop, (∃ k, I0 (wrap .u64 ((wrap .u64 ((wrap .u64 ((wrap .u64 ((IntKind.wrap .u64 (((BitVec.ofInt (IntKind.bits .u64) (IntKind.wrap .u64 (x0 * 2 ^ min ((wrap .u64 x3)).toNat (IntKind.bits .u64))) ||| BitVec.ofInt (IntKind.bits .u64) (Int.fdiv x1 (2 ^ min ((wrap .u64 (64 - (wrap .u64 x3)))).toNat (IntKind.bits .u64)))).toNat : Nat) : Int)) * 4294967296)) + (Int.fdiv (IntKind.wrap .u64 (x1 * 2 ^ min ((wrap .u64 x3)).toNat (IntKind.bits .u64))) (2 ^ 32)))) - (wrap .u64 ((wrap .u64 (x4 - 1)) * (IntKind.wrap .u64 (x2 * 2 ^ min ((wrap .u64 x3)).toNat (IntKind.bits .u64))))))) - (wrap .u64 ((wrap .u64 (Int.tdiv (wrap .u64 ((wrap .u64 ((wrap .u64 ((IntKind.wrap .u64 (((BitVec.ofInt (IntKind.bits .u64) (IntKind.wrap .u64 (x0 * 2 ^ min ((wrap .u64 x3)).toNat (IntKind.bits .u64))) ||| BitVec.ofInt (IntKind.bits .u64) (Int.fdiv x1 (2 ^ min ((wrap .u64 (64 - (wrap .u64 x3)))).toNat (IntKind.bits .u64)))).toNat : Nat) : Int)) * 4294967296)) + (Int.fdiv (IntKind.wrap .u64 (x1 * 2 ^ min ((wrap .u64 x3)).toNat (IntKind.bits .u64))) (2 ^ 32)))) - (wrap .u64 ((wrap .u64 (x4 - 1)) * (IntKind.wrap .u64 (x2 * 2 ^ min ((wrap .u64 x3)).toNat (IntKind.bits .u64))))))) (Int.fdiv (IntKind.wrap .u64 (x2 * 2 ^ min ((wrap .u64 x3)).toNat (IntKind.bits .u64))) (2 ^ 32)))) * (Int.fdiv (IntKind.wrap .u64 (x2 * 2 ^ min ((wrap .u64 x3)).toNat (IntKind.bits .u64))) (2 ^ 32)))))) (wrap .u64 (Int.tdiv (wrap .u64 ((wrap .u64 ((wrap .u64 ((IntKind.wrap .u64 (((BitVec.ofInt (IntKind.bits .u64) (IntKind.wrap .u64 (x0 * 2 ^ min ((wrap .u64 x3)).toNat (IntKind.bits .u64))) ||| BitVec.ofInt (IntKind.bits .u64) (Int.fdiv x1 (2 ^ min ((wrap .u64 (64 - (wrap .u64 x3)))).toNat (IntKind.bits .u64)))).toNat : Nat) : Int)) * 4294967296)) + (Int.fdiv (IntKind.wrap .u64 (x1 * 2 ^ min ((wrap .u64 x3)).toNat (IntKind.bits .u64))) (2 ^ 32)))) - (wrap .u64 ((wrap .u64 (x4 - 1)) * (IntKind.wrap .u64 (x2 * 2 ^ min ((wrap .u64 x3)).toNat (IntKind.bits .u64))))))) (Int.fdiv (IntKind.wrap .u64 (x2 * 2 ^ min ((wrap .u64 x3)).toNat (IntKind.bits .u64))) (2 ^ 32)))) k) ∧ ∀ k0 x6 x7, I0 x6 x7 k0 → (br ((4294967296 ≤ x7) ∨ ((wrap .u64 ((wrap .u64 (4294967296 * x6)) + (IntKind.wrap .u64 (((BitVec.ofInt (IntKind.bits .u64) (IntKind.wrap .u64 (x1 * 2 ^ min ((wrap .u64 x3)).toNat (IntKind.bits .u64))) &&& BitVec.ofInt (IntKind.bits .u64) (4294967295 : Int)).toNat : Nat) : Int)))) < (wrap .u64 (x7 * (IntKind.wrap .u64 (((BitVec.ofInt (IntKind.bits .u64) (IntKind.wrap .u64 (x2 * 2 ^ min ((wrap .u64 x3)).toNat (IntKind.bits .u64))) &&& BitVec.ofInt (IntKind.bits .u64) (4294967295 : Int)).toNat : Nat) : Int)))))) (br (4294967296 ≤ (wrap .u64 (x6 + (Int.fdiv (IntKind.wrap .u64 (x2 * 2 ^ min ((wrap .u64 x3)).toNat (IntKind.bits .u64))) (2 ^ 32))))) ((0 ≤ (wrap .u64 x3)) ∧ (rt (.tup [.c (.v (.int .u64 ((wrap .u64 ((wrap .u64 ((wrap .u64 (x4 - 1)) * 4294967296)) + (wrap .u64 (x7 - 1))))))), .c (.v (.int .u64 ((Int.fdiv (wrap .u64 ((wrap .u64 ((wrap .u64 ((wrap .u64 ((wrap .u64 ((wrap .u64 ((IntKind.wrap .u64 (((BitVec.ofInt (IntKind.bits .u64) (IntKind.wrap .u64 (x0 * 2 ^ min ((wrap .u64 x3)).toNat (IntKind.bits .u64))) ||| BitVec.ofInt (IntKind.bits .u64) (Int.fdiv x1 (2 ^ min ((wrap .u64 (64 - (wrap .u64 x3)))).toNat (IntKind.bits .u64)))).toNat : Nat) : Int)) * 4294967296)) + (Int.fdiv (IntKind.wrap .u64 (x1 * 2 ^ min ((wrap .u64 x3)).toNat (IntKind.bits .u64))) (2 ^ 32)))) - (wrap .u64 ((wrap .u64 (x4 - 1)) * (IntKind.wrap .u64 (x2 * 2 ^ min ((wrap .u64 x3)).toNat (IntKind.bits .u64))))))) * 4294967296)) + (IntKind.wrap .u64 (((BitVec.ofInt (IntKind.bits .u64) (IntKind.wrap .u64 (x1 * 2 ^ min ((wrap .u64 x3)).toNat (IntKind.bits .u64))) &&& BitVec.ofInt (IntKind.bits .u64) (4294967295 : Int)).toNat : Nat) : Int)))) - (wrap .u64 ((wrap .u64 (x7 - 1)) * (IntKind.wrap .u64 (x2 * 2 ^ min ((wrap .u64 x3)).toNat (IntKind.bits .u64))))))) (2 ^ min ((wrap .u64 x3)).toNat (IntKind.bits .u64))))))]) res)) (ag k0 (I0 (wrap .u64 (x6 + (Int.fdiv (IntKind.wrap .u64 (x2 * 2 ^ min ((wrap .u64 x3)).toNat (IntKind.bits .u64))) (2 ^ 32)))) (wrap .u64 (x7 - 1))))) ((0 ≤ (wrap .u64 x3)) ∧ (rt (.tup [.c (.v (.int .u64 ((wrap .u64 ((wrap .u64 ((wrap .u64 (x4 - 1)) * 4294967296)) + x7))))), .c (.v (.int .u64 ((Int.fdiv (wrap .u64 ((wrap .u64 ((wrap .u64 ((wrap .u64 ((wrap .u64 ((wrap .u64 ((IntKind.wrap .u64 (((BitVec.ofInt (IntKind.bits .u64) (IntKind.wrap .u64 (x0 * 2 ^ min ((wrap .u64 x3)).toNat (IntKind.bits .u64))) ||| BitVec.ofInt (IntKind.bits .u64) (Int.fdiv x1 (2 ^ min ((wrap .u64 (64 - (wrap .u64 x3)))).toNat (IntKind.bits .u64)))).toNat : Nat) : Int)) * 4294967296)) + (Int.fdiv (IntKind.wrap .u64 (x1 * 2 ^ min ((wrap .u64 x3)).toNat (IntKind.bits .u64))) (2 ^ 32)))) - (wrap .u64 ((wrap .u64 (x4 - 1)) * (IntKind.wrap .u64 (x2 * 2 ^ min ((wrap .u64 x3)).toNat (IntKind.bits .u64))))))) * 4294967296)) + (IntKind.wrap .u64 (((BitVec.ofInt (IntKind.bits .u64) (IntKind.wrap .u64 (x1 * 2 ^ min ((wrap .u64 x3)).toNat (IntKind.bits .u64))) &&& BitVec.ofInt (IntKind.bits .u64) (4294967295 : Int)).toNat : Nat) : Int)))) - (wrap .u64 (x7 * (IntKind.wrap .u64 (x2 * 2 ^ min ((wrap .u64 x3)).toNat (IntKind.bits .u64))))))) (2 ^ min ((wrap .u64 x3)).toNat (IntKind.bits .u64))))))]) res))))) (ag k0 (I0 (wrap .u64 (x4 - 1)) (wrap .u64 (x5 + (Int.fdiv (IntKind.wrap .u64 (x2 * 2 ^ min ((wrap .u64 x3)).toNat (IntKind.bits .u64))) (2 ^ 32))))))) (((Int.fdiv (IntKind.wrap .u64 (x2 * 2 ^ min ((wrap .u64 x3)).toNat (IntKind.bits .u64))) (2 ^ 32)) ≠ 0) ∧ (∃ I0 : Int → Int → Nat → Prop, (∃ k, I0 (wrap .u64 ((wrap .u64 ((wrap .u64 ((wrap .u64 ((IntKind.wrap .u64 (((BitVec.ofInt (IntKind.bits .u64) (IntKind.wrap .u64 (x0 * 2 ^ min ((wrap .u64 x3)).toNat (IntKind.bits .u64))) ||| BitVec.ofInt (IntKind.bits .u64) (Int.fdiv x1 (2 ^ min ((wrap .u64 (64 - (wrap .u64 x3)))).toNat (IntKind.bits .u64)))).toNat : Nat) : Int)) * 4294967296)) + (Int.fdiv (IntKind.wrap .u64 (x1 * 2 ^ min ((wrap .u64 x3)).toNat (IntKind.bits .u64))) (2 ^ 32)))) - (wrap .u64 (x4 * (IntKind.wrap .u64 (x2 * 2 ^ min ((wrap .u64 x3)).toNat (IntKind.bits .u64))))))) - (wrap .u64 ((wrap .u64 (Int.tdiv (wrap .u64 ((wrap .u64 ((wrap .u64 ((IntKind.wrap .u64 (((BitVec.ofInt (IntKind.bits .u64) (IntKind.wrap .u64 (x0 * 2 ^ min ((wrap .u64 x3)).toNat (IntKind.bits .u64))) ||| BitVec.ofInt (IntKind.bits .u64) (Int.fdiv x1 (2 ^ min ((wrap .u64 (64 - (wrap .u64 x3)))).toNat (IntKind.bits .u64)))).toNat : Nat) : Int)) * 4294967296)) + (Int.fdiv (IntKind.wrap .u64 (x1 * 2 ^ min ((wrap .u64 x3)).toNat (IntKind.bits .u64))) (2 ^ 32)))) - (wrap .u64 (x4 * (IntKind.wrap .u64 (x2 * 2 ^ min ((wrap .u64 x3)).toNat (IntKind.bits .u64))))))) (Int.fdiv (IntKind.wrap .u64 (x2 * 2 ^ min ((wrap .u64 x3)).toNat (IntKind.bits .u64))) (2 ^ 32)))) * (Int.fdiv (IntKind.wrap .u64 (x2 * 2 ^ min ((wrap .u64 x3)).toNat (IntKind.bits .u64))) (2 ^ 32)))))) (wrap .u64 (Int.tdiv (wrap .u64 ((wrap .u64 ((wrap .u64 ((IntKind.wrap .u64 (((BitVec.ofInt (IntKind.bits .u64) (IntKind.wrap .u64 (x0 * 2 ^ min ((wrap .u64 x3)).toNat (IntKind.bits .u64))) ||| BitVec.ofInt (IntKind.bits .u64) (Int.fdiv x1 (2 ^ min ((wrap .u64 (64 - (wrap .u64 x3)))).toNat (IntKind.bits .u64)))).toNat : Nat) : Int)) * 4294967296)) + (Int.fdiv (IntKind.wrap .u64 (x1 * 2 ^ min ((wrap .u64 x3)).toNat (IntKind.bits .u64))) (2 ^ 32)))) - (wrap .u64 (x4 * (IntKind.wrap .u64 (x2 * 2 ^ min ((wrap .u64 x3)).toNat (IntKind.bits .u64))))))) (Int.fdiv (IntKind.wrap .u64 (x2 * 2 ^ min ((wrap .u64 x3)).toNat (IntKind.bits .u64))) (2 ^ 32)))) k) ∧ ∀ k0 x6 x7, I0 x6 x7 k0 → (br ((4294967296 ≤ x7) ∨ ((wrap .u64 ((wrap .u64 (4294967296 * x6)) + (IntKind.wrap .u64 (((BitVec.ofInt (IntKind.bits .u64) (IntKind.wrap .u64 (x1 * 2 ^ min ((wrap .u64 x3)).toNat (IntKind.bits .u64))) &&& BitVec.ofInt (IntKind.bits .u64) (4294967295 : Int)).toNat : Nat) : Int)))) < (wrap .u64 (x7 * (IntKind.wrap .u64 (((BitVec.ofInt (IntKind.bits .u64) (IntKind.wrap .u64 (x2 * 2 ^ min ((wrap .u64 x3)).toNat (IntKind.bits .u64))) &&& BitVec.ofInt (IntKind.bits .u64) (4294967295 : Int)).toNat : Nat) : Int)))))) (br (4294967296 ≤ (wrap .u64 (x6 + (Int.fdiv (IntKind.wrap .u64 (x2 * 2 ^ min ((wrap .u64 x3)).toNat (IntKind.bits .u64))) (2 ^ 32))))) ((0 ≤ (wrap .u64 x3)) ∧ (rt (.tup [.c (.v (.int .u64 ((wrap .u64 ((wrap .u64 (x4 * 4294967296)) + (wrap .u64 (x7 - 1))))))), .c (.v (.int .u64 ((Int.fdiv (wrap .u64 ((wrap .u64 ((wrap .u64 ((wrap .u64 ((wrap .u64 ((wrap .u64 ((IntKind.wrap .u64 (((BitVec.ofInt (IntKind.bits .u64) (IntKind.wrap .u64 (x0 * 2 ^ min ((wrap .u64 x3)).toNat (IntKind.bits .u64))) ||| BitVec.ofInt (IntKind.bits .u64) (Int.fdiv x1 (2 ^ min ((wrap .u64 (64 - (wrap .u64 x3)))).toNat (IntKind.bits .u64)))).toNat : Nat) : Int)) * 4294967296)) + (Int.fdiv (IntKind.wrap .u64 (x1 * 2 ^ min ((wrap .u64 x3)).toNat (IntKind.bits .u64))) (2 ^ 32)))) - (wrap .u64 (x4 * (IntKind.wrap .u64 (x2 * 2 ^ min ((wrap .u64 x3)).toNat (IntKind.bits .u64))))))) * 4294967296)) + (IntKind.wrap .u64 (((BitVec.ofInt (IntKind.bits .u64) (IntKind.wrap .u64 (x1 * 2 ^ min ((wrap .u64 x3)).toNat (IntKind.bits .u64))) &&& BitVec.ofInt (IntKind.bits .u64) (4294967295 : Int)).toNat : Nat) : Int)))) - (wrap .u64 ((wrap .u64 (x7 - 1)) * (IntKind.wrap .u64 (x2 * 2 ^ min ((wrap .u64 x3)).toNat (IntKind.bits .u64))))))) (2 ^ min ((wrap .u64 x3)).toNat (IntKind.bits .u64))))))]) res)) (ag k0 (I0 (wrap .u64 (x6 + (Int.fdiv (IntKind.wrap .u64 (x2 * 2 ^ min ((wrap .u64 x3)).toNat (IntKind.bits .u64))) (2 ^ 32)))) (wrap .u64 (x7 - 1))))) ((0 ≤ (wrap .u64 x3)) ∧ (rt (.tup [.c (.v (.int .u64 ((wrap .u64 ((wrap .u64 (x4 * 4294967296)) + x7))))), .c (.v (.int .u64 ((Int.fdiv (wrap .u64 ((wrap .u64 ((wrap .u64 ((wrap .u64 ((wrap .u64 ((wrap .u64 ((IntKind.wrap .u64 (((BitVec.ofInt (IntKind.bits .u64) (IntKind.wrap .u64 (x0 * 2 ^ min ((wrap .u64 x3)).toNat (IntKind.bits .u64))) ||| BitVec.ofInt (IntKind.bits .u64) (Int.fdiv x1 (2 ^ min ((wrap .u64 (64 - (wrap .u64 x3)))).toNat (IntKind.bits .u64)))).toNat : Nat) : Int)) * 4294967296)) + (Int.fdiv (IntKind.wrap .u64 (x1 * 2 ^ min ((wrap .u64 x3)).toNat (IntKind.bits .u64))) (2 ^ 32)))) - (wrap .u64 (x4 * (IntKind.wrap .u64 (x2 * 2 ^ min ((wrap .u64 x3)).toNat (IntKind.bits .u64))))))) * 4294967296)) + (IntKind.wrap .u64 (((BitVec.ofInt (IntKind.bits .u64) (IntKind.wrap .u64 (x1 * 2 ^ min ((wrap .u64 x3)).toNat (IntKind.bits .u64))) &&& BitVec.ofInt (IntKind.bits .u64) (4294967295 : Int)).toNat : Nat) : Int)))) - (wrap .u64 (x7 * (IntKind.wrap .u64 (x2 * 2 ^ min ((wrap .u64 x3)).toNat (IntKind.bits .u64))))))) (2 ^ min ((wrap .u64 x3)).toNat (IntKind.bits .u64))))))]) res))))))))))))))))) :
    FnC Try.prog 72 [.c (.v (.int .u64 x0)), .c (.v (.int .u64 x1)), .c (.v (.int .u64 x2))] res :=
  fnC_w (T := ttAbY_72) (show TOK Try.prog ttAbY_72 from tokAbY) mixedAbY inlAbY_ok Try.func72 (by kernel_rfl) 1000 [.i x0, .i x1, .i x2] [.i .u64 (.var 0), .i .u64 (.var 1), .i .u64 (.var 2)] (by kernel_rfl) (by kernel_rfl) rfl h
/- tome/tomelaw32.AggPlays -/
end Go.Proofs.Yteljlbgjpnfdjaa
