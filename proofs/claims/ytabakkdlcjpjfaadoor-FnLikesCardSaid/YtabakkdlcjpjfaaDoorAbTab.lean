/- The types of the program, for the symbolic run, and that they are the program's. No condition. Printed by tab.py. -/
import Derived.Test.YtabakkdlcjpjfaaDoorProg
import Derived.Test.YtabakkdlcjpjfaaDoorAb4
namespace Go.Proofs.YtabakkdlcjpjfaaDoor
def tt : Tab := [
  (0, ⟨.tuple #[], 1, 0, some (.tuple #[]), false⟩),
  (2, ⟨.int .i64, 1, 8, some (.int .i64 0), false⟩),
  (3, ⟨.int .i64, 1, 8, some (.int .i64 0), false⟩),
  (4, ⟨.bool, 1, 1, some (.bool false), false⟩),
  (5, ⟨.int .u8, 1, 1, some (.int .u8 0), false⟩),
  (6, ⟨.int .u8, 1, 1, some (.int .u8 0), false⟩),
  (9, ⟨.string, 1, 16, some (.string ⟨#[]⟩), false⟩),
  (10, ⟨.string, 1, 16, some (.string ⟨#[]⟩), false⟩),
  (11, ⟨.string, 1, 16, some (.string ⟨#[]⟩), false⟩),
  (12, ⟨.int .u64, 1, 8, some (.int .u64 0), false⟩),
  (15, ⟨.pointer 104, 1, 8, some (.pointer none), false⟩),
  (16, ⟨.pointer 107, 1, 8, some (.pointer none), false⟩),
  (17, ⟨.pointer 115, 1, 8, some (.pointer none), false⟩),
  (21, ⟨.int .i32, 1, 4, some (.int .i32 0), false⟩),
  (22, ⟨.slice 26, 1, 24, some (.slice none 0 0), false⟩),
  (25, ⟨.struct #[⟨ "Kind", 3, 0, false, "", "", 0⟩, ⟨ "N", 2, 1, false, "", "", 8⟩, ⟨ "S", 9, 2, false, "", "", 16⟩], 3, 32, some (.agg #[.int .i64 0, .int .i64 0, .string ⟨#[]⟩]), true⟩),
  (26, ⟨.struct #[⟨ "Kind", 3, 0, false, "", "", 0⟩, ⟨ "N", 2, 1, false, "", "", 8⟩, ⟨ "S", 9, 2, false, "", "", 16⟩], 3, 32, some (.agg #[.int .i64 0, .int .i64 0, .string ⟨#[]⟩]), true⟩),
  (27, ⟨.int .i64, 1, 8, some (.int .i64 0), false⟩),
  (28, ⟨.tuple #[26, 27], 1, 0, some (.tuple #[.agg #[.int .i64 0, .int .i64 0, .string ⟨#[]⟩], .int .i64 0]), false⟩),
  (30, ⟨.tuple #[26, 3], 1, 0, some (.tuple #[.agg #[.int .i64 0, .int .i64 0, .string ⟨#[]⟩], .int .i64 0]), false⟩),
  (37, ⟨.int .u64, 1, 8, some (.int .u64 0), false⟩),
  (42, ⟨.tuple #[26, 27, 4], 1, 0, some (.tuple #[.agg #[.int .i64 0, .int .i64 0, .string ⟨#[]⟩], .int .i64 0, .bool false]), false⟩),
  (46, ⟨.slice 9, 1, 24, some (.slice none 0 0), false⟩),
  (51, ⟨.tuple #[3, 3], 1, 0, some (.tuple #[.int .i64 0, .int .i64 0]), false⟩),
  (53, ⟨.slice 4, 1, 24, some (.slice none 0 0), false⟩),
  (54, ⟨.tuple #[26, 4], 1, 0, some (.tuple #[.agg #[.int .i64 0, .int .i64 0, .string ⟨#[]⟩], .bool false]), false⟩),
  (56, ⟨.slice 5, 1, 24, some (.slice none 0 0), false⟩),
  (74, ⟨.int .u64, 1, 8, some (.int .u64 0), false⟩),
  (75, ⟨.array 20 5, 20, 20, some (.agg #[.int .u8 0, .int .u8 0, .int .u8 0, .int .u8 0, .int .u8 0, .int .u8 0, .int .u8 0, .int .u8 0, .int .u8 0, .int .u8 0, .int .u8 0, .int .u8 0, .int .u8 0, .int .u8 0, .int .u8 0, .int .u8 0, .int .u8 0, .int .u8 0, .int .u8 0, .int .u8 0]), false⟩),
  (79, ⟨.pointer 81, 1, 8, some (.pointer none), false⟩),
  (80, ⟨.struct #[⟨ "addr", 79, 0, false, "", "strings", 0⟩, ⟨ "buf", 56, 1, false, "", "strings", 8⟩], 2, 32, some (.agg #[.pointer none, .slice none 0 0]), false⟩),
  (81, ⟨.struct #[⟨ "addr", 79, 0, false, "", "strings", 0⟩, ⟨ "buf", 56, 1, false, "", "strings", 8⟩], 2, 32, some (.agg #[.pointer none, .slice none 0 0]), false⟩),
  (85, ⟨.tuple #[3, 84], 1, 0, some (.tuple #[.int .i64 0, .nilIface]), false⟩),
  (87, ⟨.tuple #[21, 3], 1, 0, some (.tuple #[.int .i32 0, .int .i64 0]), false⟩),
  (91, ⟨.pointer 5, 1, 8, some (.pointer none), false⟩),
  (92, ⟨.unsafePointer, 1, 8, some (.pointer none), false⟩),
  (96, ⟨.array 256 5, 256, 256, some (.agg #[.int .u8 0, .int .u8 0, .int .u8 0, .int .u8 0, .int .u8 0, .int .u8 0, .int .u8 0, .int .u8 0, .int .u8 0, .int .u8 0, .int .u8 0, .int .u8 0, .int .u8 0, .int .u8 0, .int .u8 0, .int .u8 0, .int .u8 0, .int .u8 0, .int .u8 0, .int .u8 0, .int .u8 0, .int .u8 0, .int .u8 0, .int .u8 0, .int .u8 0, .int .u8 0, .int .u8 0, .int .u8 0, .int .u8 0, .int .u8 0, .int .u8 0, .int .u8 0, .int .u8 0, .int .u8 0, .int .u8 0, .int .u8 0, .int .u8 0, .int .u8 0, .int .u8 0, .int .u8 0, .int .u8 0, .int .u8 0, .int .u8 0, .int .u8 0, .int .u8 0, .int .u8 0, .int .u8 0, .int .u8 0, .int .u8 0, .int .u8 0, .int .u8 0, .int .u8 0, .int .u8 0, .int .u8 0, .int .u8 0, .int .u8 0, .int .u8 0, .int .u8 0, .int .u8 0, .int .u8 0, .int .u8 0, .int .u8 0, .int .u8 0, .int .u8 0, .int .u8 0, .int .u8 0, .int .u8 0, .int .u8 0, .int .u8 0, .int .u8 0, .int .u8 0, .int .u8 0, .int .u8 0, .int .u8 0, .int .u8 0, .int .u8 0, .int .u8 0, .int .u8 0, .int .u8 0, .int .u8 0, .int .u8 0, .int .u8 0, .int .u8 0, .int .u8 0, .int .u8 0, .int .u8 0, .int .u8 0, .int .u8 0, .int .u8 0, .int .u8 0, .int .u8 0, .int .u8 0, .int .u8 0, .int .u8 0, .int .u8 0, .int .u8 0, .int .u8 0, .int .u8 0, .int .u8 0, .int .u8 0, .int .u8 0, .int .u8 0, .int .u8 0, .int .u8 0, .int .u8 0, .int .u8 0, .int .u8 0, .int .u8 0, .int .u8 0, .int .u8 0, .int .u8 0, .int .u8 0, .int .u8 0, .int .u8 0, .int .u8 0, .int .u8 0, .int .u8 0, .int .u8 0, .int .u8 0, .int .u8 0, .int .u8 0, .int .u8 0, .int .u8 0, .int .u8 0, .int .u8 0, .int .u8 0, .int .u8 0, .int .u8 0, .int .u8 0, .int .u8 0, .int .u8 0, .int .u8 0, .int .u8 0, .int .u8 0, .int .u8 0, .int .u8 0, .int .u8 0, .int .u8 0, .int .u8 0, .int .u8 0, .int .u8 0, .int .u8 0, .int .u8 0, .int .u8 0, .int .u8 0, .int .u8 0, .int .u8 0, .int .u8 0, .int .u8 0, .int .u8 0, .int .u8 0, .int .u8 0, .int .u8 0, .int .u8 0, .int .u8 0, .int .u8 0, .int .u8 0, .int .u8 0, .int .u8 0, .int .u8 0, .int .u8 0, .int .u8 0, .int .u8 0, .int .u8 0, .int .u8 0, .int .u8 0, .int .u8 0, .int .u8 0, .int .u8 0, .int .u8 0, .int .u8 0, .int .u8 0, .int .u8 0, .int .u8 0, .int .u8 0, .int .u8 0, .int .u8 0, .int .u8 0, .int .u8 0, .int .u8 0, .int .u8 0, .int .u8 0, .int .u8 0, .int .u8 0, .int .u8 0, .int .u8 0, .int .u8 0, .int .u8 0, .int .u8 0, .int .u8 0, .int .u8 0, .int .u8 0, .int .u8 0, .int .u8 0, .int .u8 0, .int .u8 0, .int .u8 0, .int .u8 0, .int .u8 0, .int .u8 0, .int .u8 0, .int .u8 0, .int .u8 0, .int .u8 0, .int .u8 0, .int .u8 0, .int .u8 0, .int .u8 0, .int .u8 0, .int .u8 0, .int .u8 0, .int .u8 0, .int .u8 0, .int .u8 0, .int .u8 0, .int .u8 0, .int .u8 0, .int .u8 0, .int .u8 0, .int .u8 0, .int .u8 0, .int .u8 0, .int .u8 0, .int .u8 0, .int .u8 0, .int .u8 0, .int .u8 0, .int .u8 0, .int .u8 0, .int .u8 0, .int .u8 0, .int .u8 0, .int .u8 0, .int .u8 0, .int .u8 0, .int .u8 0, .int .u8 0, .int .u8 0, .int .u8 0, .int .u8 0, .int .u8 0, .int .u8 0, .int .u8 0, .int .u8 0, .int .u8 0, .int .u8 0, .int .u8 0, .int .u8 0, .int .u8 0, .int .u8 0, .int .u8 0, .int .u8 0, .int .u8 0, .int .u8 0, .int .u8 0, .int .u8 0]), false⟩),
  (99, ⟨.array 16 98, 32, 32, some (.agg #[.int .u8 0, .int .u8 0, .int .u8 0, .int .u8 0, .int .u8 0, .int .u8 0, .int .u8 0, .int .u8 0, .int .u8 0, .int .u8 0, .int .u8 0, .int .u8 0, .int .u8 0, .int .u8 0, .int .u8 0, .int .u8 0, .int .u8 0, .int .u8 0, .int .u8 0, .int .u8 0, .int .u8 0, .int .u8 0, .int .u8 0, .int .u8 0, .int .u8 0, .int .u8 0, .int .u8 0, .int .u8 0, .int .u8 0, .int .u8 0, .int .u8 0, .int .u8 0]), false⟩),
  (100, ⟨.int .u32, 1, 4, some (.int .u32 0), false⟩),
  (101, ⟨.tuple #[100, 100], 1, 0, some (.tuple #[.int .u32 0, .int .u32 0]), false⟩),
  (105, ⟨.array 0 16, 0, 0, some (.agg #[]), false⟩),
  (109, ⟨.int .u8, 1, 1, some (.int .u8 0), false⟩),
  (110, ⟨.int .u8, 1, 1, some (.int .u8 0), false⟩),
  (112, ⟨.int .i32, 1, 4, some (.int .i32 0), false⟩),
  (113, ⟨.int .i32, 1, 4, some (.int .i32 0), false⟩),
  (114, ⟨.struct #[⟨ "Size_", 12, 0, false, "", "", 0⟩, ⟨ "PtrBytes", 12, 1, false, "", "", 8⟩, ⟨ "Hash", 100, 2, false, "", "", 16⟩, ⟨ "TFlag", 109, 3, false, "", "", 20⟩, ⟨ "Align_", 5, 4, false, "", "", 21⟩, ⟨ "FieldAlign_", 5, 5, false, "", "", 22⟩, ⟨ "Kind_", 110, 6, false, "", "", 23⟩, ⟨ "Equal", 111, 7, false, "", "", 24⟩, ⟨ "GCData", 91, 8, false, "", "", 32⟩, ⟨ "Str", 112, 9, false, "", "", 40⟩, ⟨ "PtrToThis", 113, 10, false, "", "", 44⟩], 11, 48, some (.agg #[.int .u64 0, .int .u64 0, .int .u32 0, .int .u8 0, .int .u8 0, .int .u8 0, .int .u8 0, .nilFunc, .pointer none, .int .i32 0, .int .i32 0]), false⟩),
  (115, ⟨.struct #[⟨ "Size_", 12, 0, false, "", "", 0⟩, ⟨ "PtrBytes", 12, 1, false, "", "", 8⟩, ⟨ "Hash", 100, 2, false, "", "", 16⟩, ⟨ "TFlag", 109, 3, false, "", "", 20⟩, ⟨ "Align_", 5, 4, false, "", "", 21⟩, ⟨ "FieldAlign_", 5, 5, false, "", "", 22⟩, ⟨ "Kind_", 110, 6, false, "", "", 23⟩, ⟨ "Equal", 111, 7, false, "", "", 24⟩, ⟨ "GCData", 91, 8, false, "", "", 32⟩, ⟨ "Str", 112, 9, false, "", "", 40⟩, ⟨ "PtrToThis", 113, 10, false, "", "", 44⟩], 11, 48, some (.agg #[.int .u64 0, .int .u64 0, .int .u32 0, .int .u8 0, .int .u8 0, .int .u8 0, .int .u8 0, .nilFunc, .pointer none, .int .i32 0, .int .i32 0]), false⟩)]
theorem tok : TOK Tryd.prog tt := by
  unfold tt
  refine ⟨tiOK_of (by kernel_rfl) (by kernel_rfl) (fun h => by cases h), ?_⟩
  refine ⟨tiOK_of (by kernel_rfl) (by kernel_rfl) (fun h => by cases h), ?_⟩
  refine ⟨tiOK_of (by kernel_rfl) (by kernel_rfl) (fun h => by cases h), ?_⟩
  refine ⟨tiOK_of (by kernel_rfl) (by kernel_rfl) (fun h => by cases h), ?_⟩
  refine ⟨tiOK_of (by kernel_rfl) (by kernel_rfl) (fun h => by cases h), ?_⟩
  refine ⟨tiOK_of (by kernel_rfl) (by kernel_rfl) (fun h => by cases h), ?_⟩
  refine ⟨tiOK_of (by kernel_rfl) (by kernel_rfl) (fun h => by cases h), ?_⟩
  refine ⟨tiOK_of (by kernel_rfl) (by kernel_rfl) (fun h => by cases h), ?_⟩
  refine ⟨tiOK_of (by kernel_rfl) (by kernel_rfl) (fun h => by cases h), ?_⟩
  refine ⟨tiOK_of (by kernel_rfl) (by kernel_rfl) (fun h => by cases h), ?_⟩
  refine ⟨tiOK_of (by kernel_rfl) (by kernel_rfl) (fun h => by cases h), ?_⟩
  refine ⟨tiOK_of (by kernel_rfl) (by kernel_rfl) (fun h => by cases h), ?_⟩
  refine ⟨tiOK_of (by kernel_rfl) (by kernel_rfl) (fun h => by cases h), ?_⟩
  refine ⟨tiOK_of (by kernel_rfl) (by kernel_rfl) (fun h => by cases h), ?_⟩
  refine ⟨tiOK_of (by kernel_rfl) (by kernel_rfl) (fun h => by cases h), ?_⟩
  refine ⟨tiOK_of (by kernel_rfl) (by kernel_rfl) (fun _ => ⟨by kernel_rfl, by kernel_rfl⟩), ?_⟩
  refine ⟨tiOK_of (by kernel_rfl) (by kernel_rfl) (fun _ => ⟨by kernel_rfl, by kernel_rfl⟩), ?_⟩
  refine ⟨tiOK_of (by kernel_rfl) (by kernel_rfl) (fun h => by cases h), ?_⟩
  refine ⟨tiOK_of (by kernel_rfl) (by kernel_rfl) (fun h => by cases h), ?_⟩
  refine ⟨tiOK_of (by kernel_rfl) (by kernel_rfl) (fun h => by cases h), ?_⟩
  refine ⟨tiOK_of (by kernel_rfl) (by kernel_rfl) (fun h => by cases h), ?_⟩
  refine ⟨tiOK_of (by kernel_rfl) (by kernel_rfl) (fun h => by cases h), ?_⟩
  refine ⟨tiOK_of (by kernel_rfl) (by kernel_rfl) (fun h => by cases h), ?_⟩
  refine ⟨tiOK_of (by kernel_rfl) (by kernel_rfl) (fun h => by cases h), ?_⟩
  refine ⟨tiOK_of (by kernel_rfl) (by kernel_rfl) (fun h => by cases h), ?_⟩
  refine ⟨tiOK_of (by kernel_rfl) (by kernel_rfl) (fun h => by cases h), ?_⟩
  refine ⟨tiOK_of (by kernel_rfl) (by kernel_rfl) (fun h => by cases h), ?_⟩
  refine ⟨tiOK_of (by kernel_rfl) (by kernel_rfl) (fun h => by cases h), ?_⟩
  refine ⟨tiOK_of (by kernel_rfl) (by kernel_rfl) (fun h => by cases h), ?_⟩
  refine ⟨tiOK_of (by kernel_rfl) (by kernel_rfl) (fun h => by cases h), ?_⟩
  refine ⟨tiOK_of (by kernel_rfl) (by kernel_rfl) (fun h => by cases h), ?_⟩
  refine ⟨tiOK_of (by kernel_rfl) (by kernel_rfl) (fun h => by cases h), ?_⟩
  refine ⟨tiOK_of (by kernel_rfl) (by kernel_rfl) (fun h => by cases h), ?_⟩
  refine ⟨tiOK_of (by kernel_rfl) (by kernel_rfl) (fun h => by cases h), ?_⟩
  refine ⟨tiOK_of (by kernel_rfl) (by kernel_rfl) (fun h => by cases h), ?_⟩
  refine ⟨tiOK_of (by kernel_rfl) (by kernel_rfl) (fun h => by cases h), ?_⟩
  refine ⟨tiOK_of (by kernel_rfl) (by kernel_rfl) (fun h => by cases h), ?_⟩
  refine ⟨tiOK_of (by kernel_rfl) (by kernel_rfl) (fun h => by cases h), ?_⟩
  refine ⟨tiOK_of (by kernel_rfl) (by kernel_rfl) (fun h => by cases h), ?_⟩
  refine ⟨tiOK_of (by kernel_rfl) (by kernel_rfl) (fun h => by cases h), ?_⟩
  refine ⟨tiOK_of (by kernel_rfl) (by kernel_rfl) (fun h => by cases h), ?_⟩
  refine ⟨tiOK_of (by kernel_rfl) (by kernel_rfl) (fun h => by cases h), ?_⟩
  refine ⟨tiOK_of (by kernel_rfl) (by kernel_rfl) (fun h => by cases h), ?_⟩
  refine ⟨tiOK_of (by kernel_rfl) (by kernel_rfl) (fun h => by cases h), ?_⟩
  refine ⟨tiOK_of (by kernel_rfl) (by kernel_rfl) (fun h => by cases h), ?_⟩
  refine ⟨tiOK_of (by kernel_rfl) (by kernel_rfl) (fun h => by cases h), ?_⟩
  refine ⟨tiOK_of (by kernel_rfl) (by kernel_rfl) (fun h => by cases h), ?_⟩
  trivial
end Go.Proofs.YtabakkdlcjpjfaaDoor
