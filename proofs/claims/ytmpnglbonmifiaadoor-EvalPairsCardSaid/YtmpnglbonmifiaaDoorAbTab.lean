/- The types of the program, for the symbolic run, and that they are the program's. No condition. Printed by tab.py. -/
import Derived.Test.YtmpnglbonmifiaaDoorProg
import Derived.Test.YtmpnglbonmifiaaDoorAb4
namespace Go.Proofs.YtmpnglbonmifiaaDoor
def tt : Tab := [
  (0, ⟨.tuple #[], 1, 0, some (.tuple #[]), false⟩),
  (2, ⟨.int .i64, 1, 8, some (.int .i64 0), false⟩),
  (3, ⟨.int .i64, 1, 8, some (.int .i64 0), false⟩),
  (4, ⟨.bool, 1, 1, some (.bool false), false⟩),
  (5, ⟨.int .u8, 1, 1, some (.int .u8 0), false⟩),
  (6, ⟨.int .u8, 1, 1, some (.int .u8 0), false⟩),
  (9, ⟨.string, 1, 16, some (.string ⟨#[]⟩), false⟩),
  (10, ⟨.string, 1, 16, some (.string ⟨#[]⟩), false⟩),
  (11, ⟨.string, 1, 16, some (.string ⟨#[]⟩), false⟩),
  (12, ⟨.int .u64, 1, 8, some (.int .u64 0), false⟩),
  (15, ⟨.pointer 125, 1, 8, some (.pointer none), false⟩),
  (16, ⟨.pointer 128, 1, 8, some (.pointer none), false⟩),
  (17, ⟨.pointer 136, 1, 8, some (.pointer none), false⟩),
  (21, ⟨.int .i32, 1, 4, some (.int .i32 0), false⟩),
  (22, ⟨.struct #[⟨ "Kind", 3, 0, false, "", "", 0⟩, ⟨ "N", 2, 1, false, "", "", 8⟩, ⟨ "S", 9, 2, false, "", "", 16⟩], 3, 32, some (.agg #[.int .i64 0, .int .i64 0, .string ⟨#[]⟩]), true⟩),
  (23, ⟨.struct #[⟨ "Kind", 3, 0, false, "", "", 0⟩, ⟨ "N", 2, 1, false, "", "", 8⟩, ⟨ "S", 9, 2, false, "", "", 16⟩], 3, 32, some (.agg #[.int .i64 0, .int .i64 0, .string ⟨#[]⟩]), true⟩),
  (26, ⟨.int .i64, 1, 8, some (.int .i64 0), false⟩),
  (27, ⟨.tuple #[23, 26], 1, 0, some (.tuple #[.agg #[.int .i64 0, .int .i64 0, .string ⟨#[]⟩], .int .i64 0]), false⟩),
  (32, ⟨.slice 34, 1, 24, some (.slice none 0 0), false⟩),
  (33, ⟨.struct #[⟨ "Kind", 3, 0, false, "", "", 0⟩, ⟨ "Op", 9, 1, false, "", "", 8⟩, ⟨ "Val", 23, 2, false, "", "", 24⟩, ⟨ "Table", 9, 5, false, "", "", 56⟩, ⟨ "Name", 9, 6, false, "", "", 72⟩, ⟨ "Slot", 3, 7, false, "", "", 88⟩, ⟨ "Not", 4, 8, false, "", "", 96⟩, ⟨ "Distinct", 4, 9, false, "", "", 97⟩, ⟨ "Args", 32, 10, false, "", "", 104⟩], 11, 128, some (.agg #[.int .i64 0, .string ⟨#[]⟩, .int .i64 0, .int .i64 0, .string ⟨#[]⟩, .string ⟨#[]⟩, .string ⟨#[]⟩, .int .i64 0, .bool false, .bool false, .slice none 0 0]), false⟩),
  (34, ⟨.struct #[⟨ "Kind", 3, 0, false, "", "", 0⟩, ⟨ "Op", 9, 1, false, "", "", 8⟩, ⟨ "Val", 23, 2, false, "", "", 24⟩, ⟨ "Table", 9, 5, false, "", "", 56⟩, ⟨ "Name", 9, 6, false, "", "", 72⟩, ⟨ "Slot", 3, 7, false, "", "", 88⟩, ⟨ "Not", 4, 8, false, "", "", 96⟩, ⟨ "Distinct", 4, 9, false, "", "", 97⟩, ⟨ "Args", 32, 10, false, "", "", 104⟩], 11, 128, some (.agg #[.int .i64 0, .string ⟨#[]⟩, .int .i64 0, .int .i64 0, .string ⟨#[]⟩, .string ⟨#[]⟩, .string ⟨#[]⟩, .int .i64 0, .bool false, .bool false, .slice none 0 0]), false⟩),
  (39, ⟨.tuple #[4, 26], 1, 0, some (.tuple #[.bool false, .int .i64 0]), false⟩),
  (44, ⟨.tuple #[4, 4, 26], 1, 0, some (.tuple #[.bool false, .bool false, .int .i64 0]), false⟩),
  (47, ⟨.slice 23, 1, 24, some (.slice none 0 0), false⟩),
  (50, ⟨.tuple #[9, 4], 1, 0, some (.tuple #[.string ⟨#[]⟩, .bool false]), false⟩),
  (55, ⟨.tuple #[2, 4], 1, 0, some (.tuple #[.int .i64 0, .bool false]), false⟩),
  (59, ⟨.array 2 23, 6, 64, some (.agg #[.int .i64 0, .int .i64 0, .string ⟨#[]⟩, .int .i64 0, .int .i64 0, .string ⟨#[]⟩]), false⟩),
  (61, ⟨.tuple #[4, 4], 1, 0, some (.tuple #[.bool false, .bool false]), false⟩),
  (74, ⟨.tuple #[23, 26, 4], 1, 0, some (.tuple #[.agg #[.int .i64 0, .int .i64 0, .string ⟨#[]⟩], .int .i64 0, .bool false]), false⟩),
  (78, ⟨.int .u64, 1, 8, some (.int .u64 0), false⟩),
  (79, ⟨.array 20 5, 20, 20, some (.agg #[.int .u8 0, .int .u8 0, .int .u8 0, .int .u8 0, .int .u8 0, .int .u8 0, .int .u8 0, .int .u8 0, .int .u8 0, .int .u8 0, .int .u8 0, .int .u8 0, .int .u8 0, .int .u8 0, .int .u8 0, .int .u8 0, .int .u8 0, .int .u8 0, .int .u8 0, .int .u8 0]), false⟩),
  (80, ⟨.slice 5, 1, 24, some (.slice none 0 0), false⟩),
  (83, ⟨.tuple #[23, 4], 1, 0, some (.tuple #[.agg #[.int .i64 0, .int .i64 0, .string ⟨#[]⟩], .bool false]), false⟩),
  (93, ⟨.int .u64, 1, 8, some (.int .u64 0), false⟩),
  (96, ⟨.tuple #[2, 26], 1, 0, some (.tuple #[.int .i64 0, .int .i64 0]), false⟩),
  (98, ⟨.int .u32, 1, 4, some (.int .u32 0), false⟩),
  (99, ⟨.tuple #[98, 98], 1, 0, some (.tuple #[.int .u32 0, .int .u32 0]), false⟩),
  (104, ⟨.pointer 106, 1, 8, some (.pointer none), false⟩),
  (105, ⟨.struct #[⟨ "addr", 104, 0, false, "", "strings", 0⟩, ⟨ "buf", 80, 1, false, "", "strings", 8⟩], 2, 32, some (.agg #[.pointer none, .slice none 0 0]), false⟩),
  (106, ⟨.struct #[⟨ "addr", 104, 0, false, "", "strings", 0⟩, ⟨ "buf", 80, 1, false, "", "strings", 8⟩], 2, 32, some (.agg #[.pointer none, .slice none 0 0]), false⟩),
  (110, ⟨.tuple #[3, 109], 1, 0, some (.tuple #[.int .i64 0, .nilIface]), false⟩),
  (112, ⟨.tuple #[21, 3], 1, 0, some (.tuple #[.int .i32 0, .int .i64 0]), false⟩),
  (116, ⟨.pointer 5, 1, 8, some (.pointer none), false⟩),
  (117, ⟨.unsafePointer, 1, 8, some (.pointer none), false⟩),
  (120, ⟨.array 256 5, 256, 256, some (.agg #[.int .u8 0, .int .u8 0, .int .u8 0, .int .u8 0, .int .u8 0, .int .u8 0, .int .u8 0, .int .u8 0, .int .u8 0, .int .u8 0, .int .u8 0, .int .u8 0, .int .u8 0, .int .u8 0, .int .u8 0, .int .u8 0, .int .u8 0, .int .u8 0, .int .u8 0, .int .u8 0, .int .u8 0, .int .u8 0, .int .u8 0, .int .u8 0, .int .u8 0, .int .u8 0, .int .u8 0, .int .u8 0, .int .u8 0, .int .u8 0, .int .u8 0, .int .u8 0, .int .u8 0, .int .u8 0, .int .u8 0, .int .u8 0, .int .u8 0, .int .u8 0, .int .u8 0, .int .u8 0, .int .u8 0, .int .u8 0, .int .u8 0, .int .u8 0, .int .u8 0, .int .u8 0, .int .u8 0, .int .u8 0, .int .u8 0, .int .u8 0, .int .u8 0, .int .u8 0, .int .u8 0, .int .u8 0, .int .u8 0, .int .u8 0, .int .u8 0, .int .u8 0, .int .u8 0, .int .u8 0, .int .u8 0, .int .u8 0, .int .u8 0, .int .u8 0, .int .u8 0, .int .u8 0, .int .u8 0, .int .u8 0, .int .u8 0, .int .u8 0, .int .u8 0, .int .u8 0, .int .u8 0, .int .u8 0, .int .u8 0, .int .u8 0, .int .u8 0, .int .u8 0, .int .u8 0, .int .u8 0, .int .u8 0, .int .u8 0, .int .u8 0, .int .u8 0, .int .u8 0, .int .u8 0, .int .u8 0, .int .u8 0, .int .u8 0, .int .u8 0, .int .u8 0, .int .u8 0, .int .u8 0, .int .u8 0, .int .u8 0, .int .u8 0, .int .u8 0, .int .u8 0, .int .u8 0, .int .u8 0, .int .u8 0, .int .u8 0, .int .u8 0, .int .u8 0, .int .u8 0, .int .u8 0, .int .u8 0, .int .u8 0, .int .u8 0, .int .u8 0, .int .u8 0, .int .u8 0, .int .u8 0, .int .u8 0, .int .u8 0, .int .u8 0, .int .u8 0, .int .u8 0, .int .u8 0, .int .u8 0, .int .u8 0, .int .u8 0, .int .u8 0, .int .u8 0, .int .u8 0, .int .u8 0, .int .u8 0, .int .u8 0, .int .u8 0, .int .u8 0, .int .u8 0, .int .u8 0, .int .u8 0, .int .u8 0, .int .u8 0, .int .u8 0, .int .u8 0, .int .u8 0, .int .u8 0, .int .u8 0, .int .u8 0, .int .u8 0, .int .u8 0, .int .u8 0, .int .u8 0, .int .u8 0, .int .u8 0, .int .u8 0, .int .u8 0, .int .u8 0, .int .u8 0, .int .u8 0, .int .u8 0, .int .u8 0, .int .u8 0, .int .u8 0, .int .u8 0, .int .u8 0, .int .u8 0, .int .u8 0, .int .u8 0, .int .u8 0, .int .u8 0, .int .u8 0, .int .u8 0, .int .u8 0, .int .u8 0, .int .u8 0, .int .u8 0, .int .u8 0, .int .u8 0, .int .u8 0, .int .u8 0, .int .u8 0, .int .u8 0, .int .u8 0, .int .u8 0, .int .u8 0, .int .u8 0, .int .u8 0, .int .u8 0, .int .u8 0, .int .u8 0, .int .u8 0, .int .u8 0, .int .u8 0, .int .u8 0, .int .u8 0, .int .u8 0, .int .u8 0, .int .u8 0, .int .u8 0, .int .u8 0, .int .u8 0, .int .u8 0, .int .u8 0, .int .u8 0, .int .u8 0, .int .u8 0, .int .u8 0, .int .u8 0, .int .u8 0, .int .u8 0, .int .u8 0, .int .u8 0, .int .u8 0, .int .u8 0, .int .u8 0, .int .u8 0, .int .u8 0, .int .u8 0, .int .u8 0, .int .u8 0, .int .u8 0, .int .u8 0, .int .u8 0, .int .u8 0, .int .u8 0, .int .u8 0, .int .u8 0, .int .u8 0, .int .u8 0, .int .u8 0, .int .u8 0, .int .u8 0, .int .u8 0, .int .u8 0, .int .u8 0, .int .u8 0, .int .u8 0, .int .u8 0, .int .u8 0, .int .u8 0, .int .u8 0, .int .u8 0, .int .u8 0, .int .u8 0, .int .u8 0, .int .u8 0, .int .u8 0, .int .u8 0, .int .u8 0, .int .u8 0, .int .u8 0, .int .u8 0, .int .u8 0, .int .u8 0, .int .u8 0, .int .u8 0, .int .u8 0, .int .u8 0, .int .u8 0, .int .u8 0, .int .u8 0, .int .u8 0, .int .u8 0]), false⟩),
  (123, ⟨.array 16 122, 32, 32, some (.agg #[.int .u8 0, .int .u8 0, .int .u8 0, .int .u8 0, .int .u8 0, .int .u8 0, .int .u8 0, .int .u8 0, .int .u8 0, .int .u8 0, .int .u8 0, .int .u8 0, .int .u8 0, .int .u8 0, .int .u8 0, .int .u8 0, .int .u8 0, .int .u8 0, .int .u8 0, .int .u8 0, .int .u8 0, .int .u8 0, .int .u8 0, .int .u8 0, .int .u8 0, .int .u8 0, .int .u8 0, .int .u8 0, .int .u8 0, .int .u8 0, .int .u8 0, .int .u8 0]), false⟩),
  (126, ⟨.array 0 16, 0, 0, some (.agg #[]), false⟩),
  (130, ⟨.int .u8, 1, 1, some (.int .u8 0), false⟩),
  (131, ⟨.int .u8, 1, 1, some (.int .u8 0), false⟩),
  (133, ⟨.int .i32, 1, 4, some (.int .i32 0), false⟩),
  (134, ⟨.int .i32, 1, 4, some (.int .i32 0), false⟩),
  (135, ⟨.struct #[⟨ "Size_", 12, 0, false, "", "", 0⟩, ⟨ "PtrBytes", 12, 1, false, "", "", 8⟩, ⟨ "Hash", 98, 2, false, "", "", 16⟩, ⟨ "TFlag", 130, 3, false, "", "", 20⟩, ⟨ "Align_", 5, 4, false, "", "", 21⟩, ⟨ "FieldAlign_", 5, 5, false, "", "", 22⟩, ⟨ "Kind_", 131, 6, false, "", "", 23⟩, ⟨ "Equal", 132, 7, false, "", "", 24⟩, ⟨ "GCData", 116, 8, false, "", "", 32⟩, ⟨ "Str", 133, 9, false, "", "", 40⟩, ⟨ "PtrToThis", 134, 10, false, "", "", 44⟩], 11, 48, some (.agg #[.int .u64 0, .int .u64 0, .int .u32 0, .int .u8 0, .int .u8 0, .int .u8 0, .int .u8 0, .nilFunc, .pointer none, .int .i32 0, .int .i32 0]), false⟩),
  (136, ⟨.struct #[⟨ "Size_", 12, 0, false, "", "", 0⟩, ⟨ "PtrBytes", 12, 1, false, "", "", 8⟩, ⟨ "Hash", 98, 2, false, "", "", 16⟩, ⟨ "TFlag", 130, 3, false, "", "", 20⟩, ⟨ "Align_", 5, 4, false, "", "", 21⟩, ⟨ "FieldAlign_", 5, 5, false, "", "", 22⟩, ⟨ "Kind_", 131, 6, false, "", "", 23⟩, ⟨ "Equal", 132, 7, false, "", "", 24⟩, ⟨ "GCData", 116, 8, false, "", "", 32⟩, ⟨ "Str", 133, 9, false, "", "", 40⟩, ⟨ "PtrToThis", 134, 10, false, "", "", 44⟩], 11, 48, some (.agg #[.int .u64 0, .int .u64 0, .int .u32 0, .int .u8 0, .int .u8 0, .int .u8 0, .int .u8 0, .nilFunc, .pointer none, .int .i32 0, .int .i32 0]), false⟩)]
theorem tok : TOK Tryd.prog tt := by
  unfold tt
  refine ⟨tiOK_of (by kernel_rfl) (by kernel_rfl) (fun h => by cases h), ?_⟩
  refine ⟨tiOK_of (by kernel_rfl) (by kernel_rfl) (fun h => by cases h), ?_⟩
  refine ⟨tiOK_of (by kernel_rfl) (by kernel_rfl) (fun h => by cases h), ?_⟩
  refine ⟨tiOK_of (by kernel_rfl) (by kernel_rfl) (fun h => by cases h), ?_⟩
  refine ⟨tiOK_of (by kernel_rfl) (by kernel_rfl) (fun h => by cases h), ?_⟩
  refine ⟨tiOK_of (by kernel_rfl) (by kernel_rfl) (fun h => by cases h), ?_⟩
  refine ⟨tiOK_of (by kernel_rfl) (by kernel_rfl) (fun h => by cases h), ?_⟩
  refine ⟨tiOK_of (by kernel_rfl) (by kernel_rfl) (fun h => by cases h), ?_⟩
  refine ⟨tiOK_of (by kernel_rfl) (by kernel_rfl) (fun h => by cases h), ?_⟩
  refine ⟨tiOK_of (by kernel_rfl) (by kernel_rfl) (fun h => by cases h), ?_⟩
  refine ⟨tiOK_of (by kernel_rfl) (by kernel_rfl) (fun h => by cases h), ?_⟩
  refine ⟨tiOK_of (by kernel_rfl) (by kernel_rfl) (fun h => by cases h), ?_⟩
  refine ⟨tiOK_of (by kernel_rfl) (by kernel_rfl) (fun h => by cases h), ?_⟩
  refine ⟨tiOK_of (by kernel_rfl) (by kernel_rfl) (fun h => by cases h), ?_⟩
  refine ⟨tiOK_of (by kernel_rfl) (by kernel_rfl) (fun _ => ⟨by kernel_rfl, by kernel_rfl⟩), ?_⟩
  refine ⟨tiOK_of (by kernel_rfl) (by kernel_rfl) (fun _ => ⟨by kernel_rfl, by kernel_rfl⟩), ?_⟩
  refine ⟨tiOK_of (by kernel_rfl) (by kernel_rfl) (fun h => by cases h), ?_⟩
  refine ⟨tiOK_of (by kernel_rfl) (by kernel_rfl) (fun h => by cases h), ?_⟩
  refine ⟨tiOK_of (by kernel_rfl) (by kernel_rfl) (fun h => by cases h), ?_⟩
  refine ⟨tiOK_of (by kernel_rfl) (by kernel_rfl) (fun h => by cases h), ?_⟩
  refine ⟨tiOK_of (by kernel_rfl) (by kernel_rfl) (fun h => by cases h), ?_⟩
  refine ⟨tiOK_of (by kernel_rfl) (by kernel_rfl) (fun h => by cases h), ?_⟩
  refine ⟨tiOK_of (by kernel_rfl) (by kernel_rfl) (fun h => by cases h), ?_⟩
  refine ⟨tiOK_of (by kernel_rfl) (by kernel_rfl) (fun h => by cases h), ?_⟩
  refine ⟨tiOK_of (by kernel_rfl) (by kernel_rfl) (fun h => by cases h), ?_⟩
  refine ⟨tiOK_of (by kernel_rfl) (by kernel_rfl) (fun h => by cases h), ?_⟩
  refine ⟨tiOK_of (by kernel_rfl) (by kernel_rfl) (fun h => by cases h), ?_⟩
  refine ⟨tiOK_of (by kernel_rfl) (by kernel_rfl) (fun h => by cases h), ?_⟩
  refine ⟨tiOK_of (by kernel_rfl) (by kernel_rfl) (fun h => by cases h), ?_⟩
  refine ⟨tiOK_of (by kernel_rfl) (by kernel_rfl) (fun h => by cases h), ?_⟩
  refine ⟨tiOK_of (by kernel_rfl) (by kernel_rfl) (fun h => by cases h), ?_⟩
  refine ⟨tiOK_of (by kernel_rfl) (by kernel_rfl) (fun h => by cases h), ?_⟩
  refine ⟨tiOK_of (by kernel_rfl) (by kernel_rfl) (fun h => by cases h), ?_⟩
  refine ⟨tiOK_of (by kernel_rfl) (by kernel_rfl) (fun h => by cases h), ?_⟩
  refine ⟨tiOK_of (by kernel_rfl) (by kernel_rfl) (fun h => by cases h), ?_⟩
  refine ⟨tiOK_of (by kernel_rfl) (by kernel_rfl) (fun h => by cases h), ?_⟩
  refine ⟨tiOK_of (by kernel_rfl) (by kernel_rfl) (fun h => by cases h), ?_⟩
  refine ⟨tiOK_of (by kernel_rfl) (by kernel_rfl) (fun h => by cases h), ?_⟩
  refine ⟨tiOK_of (by kernel_rfl) (by kernel_rfl) (fun h => by cases h), ?_⟩
  refine ⟨tiOK_of (by kernel_rfl) (by kernel_rfl) (fun h => by cases h), ?_⟩
  refine ⟨tiOK_of (by kernel_rfl) (by kernel_rfl) (fun h => by cases h), ?_⟩
  refine ⟨tiOK_of (by kernel_rfl) (by kernel_rfl) (fun h => by cases h), ?_⟩
  refine ⟨tiOK_of (by kernel_rfl) (by kernel_rfl) (fun h => by cases h), ?_⟩
  refine ⟨tiOK_of (by kernel_rfl) (by kernel_rfl) (fun h => by cases h), ?_⟩
  refine ⟨tiOK_of (by kernel_rfl) (by kernel_rfl) (fun h => by cases h), ?_⟩
  refine ⟨tiOK_of (by kernel_rfl) (by kernel_rfl) (fun h => by cases h), ?_⟩
  refine ⟨tiOK_of (by kernel_rfl) (by kernel_rfl) (fun h => by cases h), ?_⟩
  refine ⟨tiOK_of (by kernel_rfl) (by kernel_rfl) (fun h => by cases h), ?_⟩
  refine ⟨tiOK_of (by kernel_rfl) (by kernel_rfl) (fun h => by cases h), ?_⟩
  refine ⟨tiOK_of (by kernel_rfl) (by kernel_rfl) (fun h => by cases h), ?_⟩
  refine ⟨tiOK_of (by kernel_rfl) (by kernel_rfl) (fun h => by cases h), ?_⟩
  refine ⟨tiOK_of (by kernel_rfl) (by kernel_rfl) (fun h => by cases h), ?_⟩
  refine ⟨tiOK_of (by kernel_rfl) (by kernel_rfl) (fun h => by cases h), ?_⟩
  trivial
end Go.Proofs.YtmpnglbonmifiaaDoor
