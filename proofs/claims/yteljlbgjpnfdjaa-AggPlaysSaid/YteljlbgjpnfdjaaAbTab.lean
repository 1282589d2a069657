/- The types of the program, for the symbolic run, and that they are the program's. No condition. Printed by tab.py. -/
import Derived.Test.YteljlbgjpnfdjaaProg
import Derived.Test.YteljlbgjpnfdjaaAb4
namespace Go.Proofs.Yteljlbgjpnfdjaa
def tt : Tab := ⟨
  (0, ⟨.tuple #[], 1, 0, some (.tuple #[]), false⟩) ::
  (2, ⟨.int .i64, 1, 8, some (.int .i64 0), false⟩) ::
  (3, ⟨.int .i64, 1, 8, some (.int .i64 0), false⟩) ::
  (4, ⟨.bool, 1, 1, some (.bool false), false⟩) ::
  (5, ⟨.int .u8, 1, 1, some (.int .u8 0), false⟩) ::
  (6, ⟨.int .u8, 1, 1, some (.int .u8 0), false⟩) ::
  (9, ⟨.string, 1, 16, some (.string ⟨#[]⟩), false⟩) ::
  (10, ⟨.string, 1, 16, some (.string ⟨#[]⟩), false⟩) ::
  (11, ⟨.string, 1, 16, some (.string ⟨#[]⟩), false⟩) ::
  (12, ⟨.int .u64, 1, 8, some (.int .u64 0), false⟩) ::
  (15, ⟨.pointer 100, 1, 8, some (.pointer none), false⟩) ::
  (16, ⟨.pointer 103, 1, 8, some (.pointer none), false⟩) ::
  (17, ⟨.pointer 113, 1, 8, some (.pointer none), false⟩) ::
  (18, ⟨.struct #[⟨ "typ", 17, 0, false, "", (strOf [105, 110, 116, 101, 114, 110, 97, 108, 47, 114, 117, 110, 116, 105, 109, 101, 47, 109, 97, 112, 115]), 0⟩], 1, 8, some (.agg #[.pointer none]), false⟩) ::
  (19, ⟨.struct #[⟨ "typ", 17, 0, false, "", (strOf [105, 110, 116, 101, 114, 110, 97, 108, 47, 114, 117, 110, 116, 105, 109, 101, 47, 109, 97, 112, 115]), 0⟩], 1, 8, some (.agg #[.pointer none]), false⟩) ::
  (20, ⟨.interface #[], 1, 16, some (.nilIface), false⟩) ::
  (21, ⟨.int .i32, 1, 4, some (.int .i32 0), false⟩) ::
  (22, ⟨.slice 33, 1, 24, some (.slice none 0 0), false⟩) ::
  (23, ⟨.pointer 58, 1, 8, some (.pointer none), false⟩) ::
  (24, ⟨.int .i64, 1, 8, some (.int .i64 0), false⟩) ::
  (25, ⟨.tuple #[23, 24], 1, 0, some (.tuple #[.pointer none, .int .i64 0]), false⟩) ::
  (27, ⟨.struct #[⟨ "Op", 9, 0, false, "", "", 0⟩, ⟨ "Distinct", 4, 1, false, "", "", 16⟩, ⟨ "L", 22, 2, false, "", "", 24⟩], 3, 48, some (.agg #[.string ⟨#[]⟩, .bool false, .slice none 0 0]), false⟩) ::
  (28, ⟨.struct #[⟨ "Op", 9, 0, false, "", "", 0⟩, ⟨ "Distinct", 4, 1, false, "", "", 16⟩, ⟨ "L", 22, 2, false, "", "", 24⟩], 3, 48, some (.agg #[.string ⟨#[]⟩, .bool false, .slice none 0 0]), false⟩) ::
  (29, ⟨.tuple #[28, 3], 1, 0, some (.tuple #[.agg #[.string ⟨#[]⟩, .bool false, .slice none 0 0], .int .i64 0]), false⟩) ::
  (32, ⟨.struct #[⟨ "Kind", 3, 0, false, "", "", 0⟩, ⟨ "N", 2, 1, false, "", "", 8⟩, ⟨ "S", 9, 2, false, "", "", 16⟩], 3, 32, some (.agg #[.int .i64 0, .int .i64 0, .string ⟨#[]⟩]), true⟩) ::
  (33, ⟨.struct #[⟨ "Kind", 3, 0, false, "", "", 0⟩, ⟨ "N", 2, 1, false, "", "", 8⟩, ⟨ "S", 9, 2, false, "", "", 16⟩], 3, 32, some (.agg #[.int .i64 0, .int .i64 0, .string ⟨#[]⟩]), true⟩) ::
  (34, ⟨.tuple #[33, 24], 1, 0, some (.tuple #[.agg #[.int .i64 0, .int .i64 0, .string ⟨#[]⟩], .int .i64 0]), false⟩) ::
  (36, ⟨.tuple #[33, 3], 1, 0, some (.tuple #[.agg #[.int .i64 0, .int .i64 0, .string ⟨#[]⟩], .int .i64 0]), false⟩) ::
  (44, ⟨.slice 2, 1, 24, some (.slice none 0 0), false⟩) ::
  (45, ⟨.slice 5, 1, 24, some (.slice none 0 0), false⟩) ::
  (47, ⟨.array 6 9, 6, 96, some (.agg #[.string ⟨#[]⟩, .string ⟨#[]⟩, .string ⟨#[]⟩, .string ⟨#[]⟩, .string ⟨#[]⟩, .string ⟨#[]⟩]), false⟩) ::
  (48, ⟨.array 6 33, 18, 192, some (.agg #[.int .i64 0, .int .i64 0, .string ⟨#[]⟩, .int .i64 0, .int .i64 0, .string ⟨#[]⟩, .int .i64 0, .int .i64 0, .string ⟨#[]⟩, .int .i64 0, .int .i64 0, .string ⟨#[]⟩, .int .i64 0, .int .i64 0, .string ⟨#[]⟩, .int .i64 0, .int .i64 0, .string ⟨#[]⟩]), false⟩) ::
  (50, ⟨.array 3 9, 3, 48, some (.agg #[.string ⟨#[]⟩, .string ⟨#[]⟩, .string ⟨#[]⟩]), false⟩) ::
  (51, ⟨.array 2 4, 2, 2, some (.agg #[.bool false, .bool false]), false⟩) ::
  (54, ⟨.interface #[((strOf [116, 111, 109, 101, 47, 97, 103, 103, 46, 101, 110, 100]), 40), ((strOf [116, 111, 109, 101, 47, 97, 103, 103, 46, 112, 117, 116]), 63)], 1, 16, some (.nilIface), false⟩) ::
  (55, ⟨.interface #[((strOf [116, 111, 109, 101, 47, 97, 103, 103, 46, 101, 110, 100]), 40), ((strOf [116, 111, 109, 101, 47, 97, 103, 103, 46, 112, 117, 116]), 63)], 1, 16, some (.nilIface), false⟩) ::
  (57, ⟨.struct #[⟨ "k", 55, 0, false, "", (strOf [116, 111, 109, 101, 47, 97, 103, 103]), 0⟩, ⟨ "distinct", 4, 1, false, "", (strOf [116, 111, 109, 101, 47, 97, 103, 103]), 16⟩, ⟨ "has", 22, 2, false, "", (strOf [116, 111, 109, 101, 47, 97, 103, 103]), 24⟩], 3, 48, some (.agg #[.nilIface, .bool false, .slice none 0 0]), false⟩) ::
  (58, ⟨.struct #[⟨ "k", 55, 0, false, "", (strOf [116, 111, 109, 101, 47, 97, 103, 103]), 0⟩, ⟨ "distinct", 4, 1, false, "", (strOf [116, 111, 109, 101, 47, 97, 103, 103]), 16⟩, ⟨ "has", 22, 2, false, "", (strOf [116, 111, 109, 101, 47, 97, 103, 103]), 24⟩], 3, 48, some (.agg #[.nilIface, .bool false, .slice none 0 0]), false⟩) ::
  (60, ⟨.tuple #[3, 4], 1, 0, some (.tuple #[.int .i64 0, .bool false]), false⟩) ::
  (66, ⟨.int .u64, 1, 8, some (.int .u64 0), false⟩) ::
  (67, ⟨.tuple #[2, 66], 1, 0, some (.tuple #[.int .i64 0, .int .u64 0]), false⟩) ::
  (70, ⟨.tuple #[33, 4], 1, 0, some (.tuple #[.agg #[.int .i64 0, .int .i64 0, .string ⟨#[]⟩], .bool false]), false⟩) ::
  (76, ⟨.pointer 78, 1, 8, some (.pointer none), false⟩) ::
  (77, ⟨.struct #[⟨ "n", 2, 0, false, "", (strOf [116, 111, 109, 101, 47, 97, 103, 103]), 0⟩], 1, 8, some (.agg #[.int .i64 0]), true⟩) ::
  (78, ⟨.struct #[⟨ "n", 2, 0, false, "", (strOf [116, 111, 109, 101, 47, 97, 103, 103]), 0⟩], 1, 8, some (.agg #[.int .i64 0]), true⟩) ::
  (79, ⟨.pointer 83, 1, 8, some (.pointer none), false⟩) ::
  (80, ⟨.struct #[⟨ "hi", 2, 0, false, "", (strOf [116, 111, 109, 101, 47, 97, 103, 103]), 0⟩, ⟨ "lo", 66, 1, false, "", (strOf [116, 111, 109, 101, 47, 97, 103, 103]), 8⟩], 2, 16, some (.agg #[.int .i64 0, .int .u64 0]), true⟩) ::
  (81, ⟨.struct #[⟨ "hi", 2, 0, false, "", (strOf [116, 111, 109, 101, 47, 97, 103, 103]), 0⟩, ⟨ "lo", 66, 1, false, "", (strOf [116, 111, 109, 101, 47, 97, 103, 103]), 8⟩], 2, 16, some (.agg #[.int .i64 0, .int .u64 0]), true⟩) ::
  (82, ⟨.struct #[⟨ "total", 81, 0, true, "", (strOf [116, 111, 109, 101, 47, 97, 103, 103]), 0⟩, ⟨ "some", 4, 2, false, "", (strOf [116, 111, 109, 101, 47, 97, 103, 103]), 16⟩, ⟨ "zero", 4, 3, false, "", (strOf [116, 111, 109, 101, 47, 97, 103, 103]), 17⟩], 4, 24, some (.agg #[.int .i64 0, .int .u64 0, .bool false, .bool false]), false⟩) ::
  (83, ⟨.struct #[⟨ "total", 81, 0, true, "", (strOf [116, 111, 109, 101, 47, 97, 103, 103]), 0⟩, ⟨ "some", 4, 2, false, "", (strOf [116, 111, 109, 101, 47, 97, 103, 103]), 16⟩, ⟨ "zero", 4, 3, false, "", (strOf [116, 111, 109, 101, 47, 97, 103, 103]), 17⟩], 4, 24, some (.agg #[.int .i64 0, .int .u64 0, .bool false, .bool false]), false⟩) ::
  (84, ⟨.pointer 86, 1, 8, some (.pointer none), false⟩) ::
  (85, ⟨.struct #[⟨ "total", 81, 0, true, "", (strOf [116, 111, 109, 101, 47, 97, 103, 103]), 0⟩, ⟨ "n", 2, 2, false, "", (strOf [116, 111, 109, 101, 47, 97, 103, 103]), 16⟩], 3, 24, some (.agg #[.int .i64 0, .int .u64 0, .int .i64 0]), false⟩) ::
  (86, ⟨.struct #[⟨ "total", 81, 0, true, "", (strOf [116, 111, 109, 101, 47, 97, 103, 103]), 0⟩, ⟨ "n", 2, 2, false, "", (strOf [116, 111, 109, 101, 47, 97, 103, 103]), 16⟩], 3, 24, some (.agg #[.int .i64 0, .int .u64 0, .int .i64 0]), false⟩) ::
  (87, ⟨.pointer 89, 1, 8, some (.pointer none), false⟩) ::
  (88, ⟨.struct #[⟨ "v", 33, 0, false, "", (strOf [116, 111, 109, 101, 47, 97, 103, 103]), 0⟩, ⟨ "some", 4, 3, false, "", (strOf [116, 111, 109, 101, 47, 97, 103, 103]), 32⟩, ⟨ "most", 4, 4, false, "", (strOf [116, 111, 109, 101, 47, 97, 103, 103]), 33⟩], 5, 40, some (.agg #[.int .i64 0, .int .i64 0, .string ⟨#[]⟩, .bool false, .bool false]), false⟩) ::
  (89, ⟨.struct #[⟨ "v", 33, 0, false, "", (strOf [116, 111, 109, 101, 47, 97, 103, 103]), 0⟩, ⟨ "some", 4, 3, false, "", (strOf [116, 111, 109, 101, 47, 97, 103, 103]), 32⟩, ⟨ "most", 4, 4, false, "", (strOf [116, 111, 109, 101, 47, 97, 103, 103]), 33⟩], 5, 40, some (.agg #[.int .i64 0, .int .i64 0, .string ⟨#[]⟩, .bool false, .bool false]), false⟩) ::
  (96, ⟨.int .u64, 1, 8, some (.int .u64 0), false⟩) ::
  (101, ⟨.array 0 16, 0, 0, some (.agg #[]), false⟩) ::
  (105, ⟨.int .u32, 1, 4, some (.int .u32 0), false⟩) ::
  (106, ⟨.int .u8, 1, 1, some (.int .u8 0), false⟩) ::
  (107, ⟨.int .u8, 1, 1, some (.int .u8 0), false⟩) ::
  (109, ⟨.pointer 5, 1, 8, some (.pointer none), false⟩) ::
  (110, ⟨.int .i32, 1, 4, some (.int .i32 0), false⟩) ::
  (111, ⟨.int .i32, 1, 4, some (.int .i32 0), false⟩) ::
  (115, ⟨.tuple #[2, 4], 1, 0, some (.tuple #[.int .i64 0, .bool false]), false⟩) ::
  (117, ⟨.pointer 81, 1, 8, some (.pointer none), false⟩) ::
  (118, ⟨.tuple #[66, 66], 1, 0, some (.tuple #[.int .u64 0, .int .u64 0]), false⟩) ::
  (120, ⟨.interface #[("Error", 98)], 1, 16, some (.nilIface), false⟩) ::
  (121, ⟨.interface #[("Error", 98)], 1, 16, some (.nilIface), false⟩) ::
  (123, ⟨.pointer 126, 1, 8, some (.pointer none), false⟩) ::
  (124, ⟨.unsafePointer, 1, 8, some (.pointer none), false⟩) ::
  (125, ⟨.struct #[⟨ "s", 9, 0, false, "", "errors", 0⟩], 1, 16, some (.agg #[.string ⟨#[]⟩]), true⟩) ::
  (126, ⟨.struct #[⟨ "s", 9, 0, false, "", "errors", 0⟩], 1, 16, some (.agg #[.string ⟨#[]⟩]), true⟩) :: [], [24], false, [], [(23, [116, 111, 109, 101, 47, 97, 103, 103, 46, 105, 110, 116, 115], 22), (23, [116, 111, 109, 101, 47, 97, 103, 103, 46, 112, 108, 97, 99, 101], 23), (76, [116, 111, 109, 101, 47, 97, 103, 103, 46, 101, 110, 100], 62), (76, [116, 111, 109, 101, 47, 97, 103, 103, 46, 112, 117, 116], 63), (79, [116, 111, 109, 101, 47, 97, 103, 103, 46, 101, 110, 100], 65), (79, [116, 111, 109, 101, 47, 97, 103, 103, 46, 112, 117, 116], 66), (84, [116, 111, 109, 101, 47, 97, 103, 103, 46, 101, 110, 100], 69), (84, [116, 111, 109, 101, 47, 97, 103, 103, 46, 112, 117, 116], 70), (87, [116, 111, 109, 101, 47, 97, 103, 103, 46, 101, 110, 100], 75), (87, [116, 111, 109, 101, 47, 97, 103, 103, 46, 112, 117, 116], 76), (117, [116, 111, 109, 101, 47, 97, 103, 103, 46, 97, 100, 100], 64)], []⟩
theorem tok : TOK Try.prog tt := by
  unfold tt
  refine ⟨?_, ⟨methOK_of (e := 58) (by kernel_rfl) (by kernel_rfl), ⟨methOK_of (e := 58) (by kernel_rfl) (by kernel_rfl), ⟨methOK_of (e := 78) (by kernel_rfl) (by kernel_rfl), ⟨methOK_of (e := 78) (by kernel_rfl) (by kernel_rfl), ⟨methOK_of (e := 83) (by kernel_rfl) (by kernel_rfl), ⟨methOK_of (e := 83) (by kernel_rfl) (by kernel_rfl), ⟨methOK_of (e := 86) (by kernel_rfl) (by kernel_rfl), ⟨methOK_of (e := 86) (by kernel_rfl) (by kernel_rfl), ⟨methOK_of (e := 89) (by kernel_rfl) (by kernel_rfl), ⟨methOK_of (e := 89) (by kernel_rfl) (by kernel_rfl), ⟨methOK_of (e := 81) (by kernel_rfl) (by kernel_rfl), trivial⟩⟩⟩⟩⟩⟩⟩⟩⟩⟩⟩⟩
  show TOKl _ _
  refine ⟨tiOK_of (by kernel_rfl) (by kernel_rfl) (fun h => by cases h), ?_⟩
  refine ⟨tiOK_of (by kernel_rfl) (by kernel_rfl) (fun h => by cases h), ?_⟩
  refine ⟨tiOK_of (by kernel_rfl) (by kernel_rfl) (fun h => by cases h), ?_⟩
  refine ⟨tiOK_of (by kernel_rfl) (by kernel_rfl) (fun h => by cases h), ?_⟩
  refine ⟨tiOK_of (by kernel_rfl) (by kernel_rfl) (fun h => by cases h), ?_⟩
  refine ⟨tiOK_of (by kernel_rfl) (by kernel_rfl) (fun h => by cases h), ?_⟩
  refine ⟨tiOK_of (by kernel_rfl) (by kernel_rfl) (fun h => by cases h), ?_⟩
  refine ⟨tiOK_of (by kernel_rfl) (by kernel_rfl) (fun h => by cases h), ?_⟩
  refine ⟨tiOK_of (by kernel_rfl) (by kernel_rfl) (fun h => by cases h), ?_⟩
  refine ⟨tiOK_of (by kernel_rfl) (by kernel_rfl) (fun h => by cases h), ?_⟩
  refine ⟨tiOK_of (by kernel_rfl) (by kernel_rfl) (fun h => by cases h), ?_⟩
  refine ⟨tiOK_of (by kernel_rfl) (by kernel_rfl) (fun h => by cases h), ?_⟩
  refine ⟨tiOK_of (by kernel_rfl) (by kernel_rfl) (fun h => by cases h), ?_⟩
  refine ⟨tiOK_of (by kernel_rfl) (by kernel_rfl) (fun h => by cases h), ?_⟩
  refine ⟨tiOK_of (by kernel_rfl) (by kernel_rfl) (fun h => by cases h), ?_⟩
  refine ⟨tiOK_of (by kernel_rfl) (by kernel_rfl) (fun h => by cases h), ?_⟩
  refine ⟨tiOK_of (by kernel_rfl) (by kernel_rfl) (fun h => by cases h), ?_⟩
  refine ⟨tiOK_of (by kernel_rfl) (by kernel_rfl) (fun h => by cases h), ?_⟩
  refine ⟨tiOK_of (by kernel_rfl) (by kernel_rfl) (fun h => by cases h), ?_⟩
  refine ⟨tiOK_of (by kernel_rfl) (by kernel_rfl) (fun h => by cases h), ?_⟩
  refine ⟨tiOK_of (by kernel_rfl) (by kernel_rfl) (fun h => by cases h), ?_⟩
  refine ⟨tiOK_of (by kernel_rfl) (by kernel_rfl) (fun h => by cases h), ?_⟩
  refine ⟨tiOK_of (by kernel_rfl) (by kernel_rfl) (fun h => by cases h), ?_⟩
  refine ⟨tiOK_of (by kernel_rfl) (by kernel_rfl) (fun h => by cases h), ?_⟩
  refine ⟨tiOK_of (by kernel_rfl) (by kernel_rfl) (fun _ => ⟨by kernel_rfl, by kernel_rfl⟩), ?_⟩
  refine ⟨tiOK_of (by kernel_rfl) (by kernel_rfl) (fun _ => ⟨by kernel_rfl, by kernel_rfl⟩), ?_⟩
  refine ⟨tiOK_of (by kernel_rfl) (by kernel_rfl) (fun h => by cases h), ?_⟩
  refine ⟨tiOK_of (by kernel_rfl) (by kernel_rfl) (fun h => by cases h), ?_⟩
  refine ⟨tiOK_of (by kernel_rfl) (by kernel_rfl) (fun h => by cases h), ?_⟩
  refine ⟨tiOK_of (by kernel_rfl) (by kernel_rfl) (fun h => by cases h), ?_⟩
  refine ⟨tiOK_of (by kernel_rfl) (by kernel_rfl) (fun h => by cases h), ?_⟩
  refine ⟨tiOK_of (by kernel_rfl) (by kernel_rfl) (fun h => by cases h), ?_⟩
  refine ⟨tiOK_of (by kernel_rfl) (by kernel_rfl) (fun h => by cases h), ?_⟩
  refine ⟨tiOK_of (by kernel_rfl) (by kernel_rfl) (fun h => by cases h), ?_⟩
  refine ⟨tiOK_of (by kernel_rfl) (by kernel_rfl) (fun h => by cases h), ?_⟩
  refine ⟨tiOK_of (by kernel_rfl) (by kernel_rfl) (fun h => by cases h), ?_⟩
  refine ⟨tiOK_of (by kernel_rfl) (by kernel_rfl) (fun h => by cases h), ?_⟩
  refine ⟨tiOK_of (by kernel_rfl) (by kernel_rfl) (fun h => by cases h), ?_⟩
  refine ⟨tiOK_of (by kernel_rfl) (by kernel_rfl) (fun h => by cases h), ?_⟩
  refine ⟨tiOK_of (by kernel_rfl) (by kernel_rfl) (fun h => by cases h), ?_⟩
  refine ⟨tiOK_of (by kernel_rfl) (by kernel_rfl) (fun h => by cases h), ?_⟩
  refine ⟨tiOK_of (by kernel_rfl) (by kernel_rfl) (fun h => by cases h), ?_⟩
  refine ⟨tiOK_of (by kernel_rfl) (by kernel_rfl) (fun h => by cases h), ?_⟩
  refine ⟨tiOK_of (by kernel_rfl) (by kernel_rfl) (fun _ => ⟨by kernel_rfl, by kernel_rfl⟩), ?_⟩
  refine ⟨tiOK_of (by kernel_rfl) (by kernel_rfl) (fun _ => ⟨by kernel_rfl, by kernel_rfl⟩), ?_⟩
  refine ⟨tiOK_of (by kernel_rfl) (by kernel_rfl) (fun h => by cases h), ?_⟩
  refine ⟨tiOK_of (by kernel_rfl) (by kernel_rfl) (fun _ => ⟨by kernel_rfl, by kernel_rfl⟩), ?_⟩
  refine ⟨tiOK_of (by kernel_rfl) (by kernel_rfl) (fun _ => ⟨by kernel_rfl, by kernel_rfl⟩), ?_⟩
  refine ⟨tiOK_of (by kernel_rfl) (by kernel_rfl) (fun h => by cases h), ?_⟩
  refine ⟨tiOK_of (by kernel_rfl) (by kernel_rfl) (fun h => by cases h), ?_⟩
  refine ⟨tiOK_of (by kernel_rfl) (by kernel_rfl) (fun h => by cases h), ?_⟩
  refine ⟨tiOK_of (by kernel_rfl) (by kernel_rfl) (fun h => by cases h), ?_⟩
  refine ⟨tiOK_of (by kernel_rfl) (by kernel_rfl) (fun h => by cases h), ?_⟩
  refine ⟨tiOK_of (by kernel_rfl) (by kernel_rfl) (fun h => by cases h), ?_⟩
  refine ⟨tiOK_of (by kernel_rfl) (by kernel_rfl) (fun h => by cases h), ?_⟩
  refine ⟨tiOK_of (by kernel_rfl) (by kernel_rfl) (fun h => by cases h), ?_⟩
  refine ⟨tiOK_of (by kernel_rfl) (by kernel_rfl) (fun h => by cases h), ?_⟩
  refine ⟨tiOK_of (by kernel_rfl) (by kernel_rfl) (fun h => by cases h), ?_⟩
  refine ⟨tiOK_of (by kernel_rfl) (by kernel_rfl) (fun h => by cases h), ?_⟩
  refine ⟨tiOK_of (by kernel_rfl) (by kernel_rfl) (fun h => by cases h), ?_⟩
  refine ⟨tiOK_of (by kernel_rfl) (by kernel_rfl) (fun h => by cases h), ?_⟩
  refine ⟨tiOK_of (by kernel_rfl) (by kernel_rfl) (fun h => by cases h), ?_⟩
  refine ⟨tiOK_of (by kernel_rfl) (by kernel_rfl) (fun h => by cases h), ?_⟩
  refine ⟨tiOK_of (by kernel_rfl) (by kernel_rfl) (fun h => by cases h), ?_⟩
  refine ⟨tiOK_of (by kernel_rfl) (by kernel_rfl) (fun h => by cases h), ?_⟩
  refine ⟨tiOK_of (by kernel_rfl) (by kernel_rfl) (fun h => by cases h), ?_⟩
  refine ⟨tiOK_of (by kernel_rfl) (by kernel_rfl) (fun h => by cases h), ?_⟩
  refine ⟨tiOK_of (by kernel_rfl) (by kernel_rfl) (fun h => by cases h), ?_⟩
  refine ⟨tiOK_of (by kernel_rfl) (by kernel_rfl) (fun h => by cases h), ?_⟩
  refine ⟨tiOK_of (by kernel_rfl) (by kernel_rfl) (fun h => by cases h), ?_⟩
  refine ⟨tiOK_of (by kernel_rfl) (by kernel_rfl) (fun h => by cases h), ?_⟩
  refine ⟨tiOK_of (by kernel_rfl) (by kernel_rfl) (fun _ => ⟨by kernel_rfl, by kernel_rfl⟩), ?_⟩
  refine ⟨tiOK_of (by kernel_rfl) (by kernel_rfl) (fun _ => ⟨by kernel_rfl, by kernel_rfl⟩), ?_⟩
  trivial
end Go.Proofs.Yteljlbgjpnfdjaa
