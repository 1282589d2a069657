/- The types of the program, for the symbolic run, and that they are the program's. No condition. Printed by tab.py. -/
import Derived.Test.YtknonjphjedmnaaDoorProg
import Derived.Test.YtknonjphjedmnaaDoorAb4
namespace Go.Proofs.YtknonjphjedmnaaDoor
def tt : Tab := [
  (0, ⟨.tuple #[], 1, 0, some (.tuple #[]), false⟩),
  (2, ⟨.int .i64, 1, 8, some (.int .i64 0), false⟩),
  (3, ⟨.int .i64, 1, 8, some (.int .i64 0), false⟩),
  (4, ⟨.bool, 1, 1, some (.bool false), false⟩),
  (5, ⟨.int .u8, 1, 1, some (.int .u8 0), false⟩),
  (6, ⟨.int .u8, 1, 1, some (.int .u8 0), false⟩),
  (9, ⟨.string, 1, 16, some (.string ⟨#[]⟩), false⟩),
  (10, ⟨.string, 1, 16, some (.string ⟨#[]⟩), false⟩),
  (11, ⟨.string, 1, 16, some (.string ⟨#[]⟩), false⟩),
  (12, ⟨.int .u64, 1, 8, some (.int .u64 0), false⟩),
  (15, ⟨.pointer 86, 1, 8, some (.pointer none), false⟩),
  (16, ⟨.pointer 89, 1, 8, some (.pointer none), false⟩),
  (17, ⟨.pointer 97, 1, 8, some (.pointer none), false⟩),
  (21, ⟨.int .i32, 1, 4, some (.int .i32 0), false⟩),
  (23, ⟨.int .i64, 1, 8, some (.int .i64 0), false⟩),
  (24, ⟨.tuple #[2, 23], 1, 0, some (.tuple #[.int .i64 0, .int .i64 0]), false⟩),
  (28, ⟨.tuple #[2, 3], 1, 0, some (.tuple #[.int .i64 0, .int .i64 0]), false⟩),
  (32, ⟨.struct #[⟨ "Kind", 3, 0, false, "", "", 0⟩, ⟨ "N", 2, 1, false, "", "", 8⟩, ⟨ "S", 9, 2, false, "", "", 16⟩], 3, 32, some (.agg #[.int .i64 0, .int .i64 0, .string ⟨#[]⟩]), true⟩),
  (33, ⟨.struct #[⟨ "Kind", 3, 0, false, "", "", 0⟩, ⟨ "N", 2, 1, false, "", "", 8⟩, ⟨ "S", 9, 2, false, "", "", 16⟩], 3, 32, some (.agg #[.int .i64 0, .int .i64 0, .string ⟨#[]⟩]), true⟩),
  (36, ⟨.tuple #[33, 23], 1, 0, some (.tuple #[.agg #[.int .i64 0, .int .i64 0, .string ⟨#[]⟩], .int .i64 0]), false⟩),
  (38, ⟨.tuple #[33, 3], 1, 0, some (.tuple #[.agg #[.int .i64 0, .int .i64 0, .string ⟨#[]⟩], .int .i64 0]), false⟩),
  (40, ⟨.slice 9, 1, 24, some (.slice none 0 0), false⟩),
  (43, ⟨.int .u64, 1, 8, some (.int .u64 0), false⟩),
  (44, ⟨.array 20 5, 20, 20, some (.agg #[.int .u8 0, .int .u8 0, .int .u8 0, .int .u8 0, .int .u8 0, .int .u8 0, .int .u8 0, .int .u8 0, .int .u8 0, .int .u8 0, .int .u8 0, .int .u8 0, .int .u8 0, .int .u8 0, .int .u8 0, .int .u8 0, .int .u8 0, .int .u8 0, .int .u8 0, .int .u8 0]), false⟩),
  (45, ⟨.slice 5, 1, 24, some (.slice none 0 0), false⟩),
  (46, ⟨.tuple #[9, 4], 1, 0, some (.tuple #[.string ⟨#[]⟩, .bool false]), false⟩),
  (50, ⟨.int .u64, 1, 8, some (.int .u64 0), false⟩),
  (55, ⟨.tuple #[5, 4], 1, 0, some (.tuple #[.int .u8 0, .bool false]), false⟩),
  (60, ⟨.pointer 62, 1, 8, some (.pointer none), false⟩),
  (61, ⟨.struct #[⟨ "addr", 60, 0, false, "", "strings", 0⟩, ⟨ "buf", 45, 1, false, "", "strings", 8⟩], 2, 32, some (.agg #[.pointer none, .slice none 0 0]), false⟩),
  (62, ⟨.struct #[⟨ "addr", 60, 0, false, "", "strings", 0⟩, ⟨ "buf", 45, 1, false, "", "strings", 8⟩], 2, 32, some (.agg #[.pointer none, .slice none 0 0]), false⟩),
  (66, ⟨.tuple #[3, 65], 1, 0, some (.tuple #[.int .i64 0, .nilIface]), false⟩),
  (68, ⟨.tuple #[21, 3], 1, 0, some (.tuple #[.int .i32 0, .int .i64 0]), false⟩),
  (73, ⟨.pointer 5, 1, 8, some (.pointer none), false⟩),
  (74, ⟨.unsafePointer, 1, 8, some (.pointer none), false⟩),
  (78, ⟨.array 256 5, 256, 256, some (.agg #[.int .u8 0, .int .u8 0, .int .u8 0, .int .u8 0, .int .u8 0, .int .u8 0, .int .u8 0, .int .u8 0, .int .u8 0, .int .u8 0, .int .u8 0, .int .u8 0, .int .u8 0, .int .u8 0, .int .u8 0, .int .u8 0, .int .u8 0, .int .u8 0, .int .u8 0, .int .u8 0, .int .u8 0, .int .u8 0, .int .u8 0, .int .u8 0, .int .u8 0, .int .u8 0, .int .u8 0, .int .u8 0, .int .u8 0, .int .u8 0, .int .u8 0, .int .u8 0, .int .u8 0, .int .u8 0, .int .u8 0, .int .u8 0, .int .u8 0, .int .u8 0, .int .u8 0, .int .u8 0, .int .u8 0, .int .u8 0, .int .u8 0, .int .u8 0, .int .u8 0, .int .u8 0, .int .u8 0, .int .u8 0, .int .u8 0, .int .u8 0, .int .u8 0, .int .u8 0, .int .u8 0, .int .u8 0, .int .u8 0, .int .u8 0, .int .u8 0, .int .u8 0, .int .u8 0, .int .u8 0, .int .u8 0, .int .u8 0, .int .u8 0, .int .u8 0, .int .u8 0, .int .u8 0, .int .u8 0, .int .u8 0, .int .u8 0, .int .u8 0, .int .u8 0, .int .u8 0, .int .u8 0, .int .u8 0, .int .u8 0, .int .u8 0, .int .u8 0, .int .u8 0, .int .u8 0, .int .u8 0, .int .u8 0, .int .u8 0, .int .u8 0, .int .u8 0, .int .u8 0, .int .u8 0, .int .u8 0, .int .u8 0, .int .u8 0, .int .u8 0, .int .u8 0, .int .u8 0, .int .u8 0, .int .u8 0, .int .u8 0, .int .u8 0, .int .u8 0, .int .u8 0, .int .u8 0, .int .u8 0, .int .u8 0, .int .u8 0, .int .u8 0, .int .u8 0, .int .u8 0, .int .u8 0, .int .u8 0, .int .u8 0, .int .u8 0, .int .u8 0, .int .u8 0, .int .u8 0, .int .u8 0, .int .u8 0, .int .u8 0, .int .u8 0, .int .u8 0, .int .u8 0, .int .u8 0, .int .u8 0, .int .u8 0, .int .u8 0, .int .u8 0, .int .u8 0, .int .u8 0, .int .u8 0, .int .u8 0, .int .u8 0, .int .u8 0, .int .u8 0, .int .u8 0, .int .u8 0, .int .u8 0, .int .u8 0, .int .u8 0, .int .u8 0, .int .u8 0, .int .u8 0, .int .u8 0, .int .u8 0, .int .u8 0, .int .u8 0, .int .u8 0, .int .u8 0, .int .u8 0, .int .u8 0, .int .u8 0, .int .u8 0, .int .u8 0, .int .u8 0, .int .u8 0, .int .u8 0, .int .u8 0, .int .u8 0, .int .u8 0, .int .u8 0, .int .u8 0, .int .u8 0, .int .u8 0, .int .u8 0, .int .u8 0, .int .u8 0, .int .u8 0, .int .u8 0, .int .u8 0, .int .u8 0, .int .u8 0, .int .u8 0, .int .u8 0, .int .u8 0, .int .u8 0, .int .u8 0, .int .u8 0, .int .u8 0, .int .u8 0, .int .u8 0, .int .u8 0, .int .u8 0, .int .u8 0, .int .u8 0, .int .u8 0, .int .u8 0, .int .u8 0, .int .u8 0, .int .u8 0, .int .u8 0, .int .u8 0, .int .u8 0, .int .u8 0, .int .u8 0, .int .u8 0, .int .u8 0, .int .u8 0, .int .u8 0, .int .u8 0, .int .u8 0, .int .u8 0, .int .u8 0, .int .u8 0, .int .u8 0, .int .u8 0, .int .u8 0, .int .u8 0, .int .u8 0, .int .u8 0, .int .u8 0, .int .u8 0, .int .u8 0, .int .u8 0, .int .u8 0, .int .u8 0, .int .u8 0, .int .u8 0, .int .u8 0, .int .u8 0, .int .u8 0, .int .u8 0, .int .u8 0, .int .u8 0, .int .u8 0, .int .u8 0, .int .u8 0, .int .u8 0, .int .u8 0, .int .u8 0, .int .u8 0, .int .u8 0, .int .u8 0, .int .u8 0, .int .u8 0, .int .u8 0, .int .u8 0, .int .u8 0, .int .u8 0, .int .u8 0, .int .u8 0, .int .u8 0, .int .u8 0, .int .u8 0, .int .u8 0, .int .u8 0, .int .u8 0, .int .u8 0, .int .u8 0, .int .u8 0, .int .u8 0, .int .u8 0, .int .u8 0, .int .u8 0, .int .u8 0, .int .u8 0, .int .u8 0, .int .u8 0, .int .u8 0, .int .u8 0, .int .u8 0]), false⟩),
  (81, ⟨.array 16 80, 32, 32, some (.agg #[.int .u8 0, .int .u8 0, .int .u8 0, .int .u8 0, .int .u8 0, .int .u8 0, .int .u8 0, .int .u8 0, .int .u8 0, .int .u8 0, .int .u8 0, .int .u8 0, .int .u8 0, .int .u8 0, .int .u8 0, .int .u8 0, .int .u8 0, .int .u8 0, .int .u8 0, .int .u8 0, .int .u8 0, .int .u8 0, .int .u8 0, .int .u8 0, .int .u8 0, .int .u8 0, .int .u8 0, .int .u8 0, .int .u8 0, .int .u8 0, .int .u8 0, .int .u8 0]), false⟩),
  (82, ⟨.int .u32, 1, 4, some (.int .u32 0), false⟩),
  (83, ⟨.tuple #[82, 82], 1, 0, some (.tuple #[.int .u32 0, .int .u32 0]), false⟩),
  (87, ⟨.array 0 16, 0, 0, some (.agg #[]), false⟩),
  (91, ⟨.int .u8, 1, 1, some (.int .u8 0), false⟩),
  (92, ⟨.int .u8, 1, 1, some (.int .u8 0), false⟩),
  (94, ⟨.int .i32, 1, 4, some (.int .i32 0), false⟩),
  (95, ⟨.int .i32, 1, 4, some (.int .i32 0), false⟩),
  (96, ⟨.struct #[⟨ "Size_", 12, 0, false, "", "", 0⟩, ⟨ "PtrBytes", 12, 1, false, "", "", 8⟩, ⟨ "Hash", 82, 2, false, "", "", 16⟩, ⟨ "TFlag", 91, 3, false, "", "", 20⟩, ⟨ "Align_", 5, 4, false, "", "", 21⟩, ⟨ "FieldAlign_", 5, 5, false, "", "", 22⟩, ⟨ "Kind_", 92, 6, false, "", "", 23⟩, ⟨ "Equal", 93, 7, false, "", "", 24⟩, ⟨ "GCData", 73, 8, false, "", "", 32⟩, ⟨ "Str", 94, 9, false, "", "", 40⟩, ⟨ "PtrToThis", 95, 10, false, "", "", 44⟩], 11, 48, some (.agg #[.int .u64 0, .int .u64 0, .int .u32 0, .int .u8 0, .int .u8 0, .int .u8 0, .int .u8 0, .nilFunc, .pointer none, .int .i32 0, .int .i32 0]), false⟩),
  (97, ⟨.struct #[⟨ "Size_", 12, 0, false, "", "", 0⟩, ⟨ "PtrBytes", 12, 1, false, "", "", 8⟩, ⟨ "Hash", 82, 2, false, "", "", 16⟩, ⟨ "TFlag", 91, 3, false, "", "", 20⟩, ⟨ "Align_", 5, 4, false, "", "", 21⟩, ⟨ "FieldAlign_", 5, 5, false, "", "", 22⟩, ⟨ "Kind_", 92, 6, false, "", "", 23⟩, ⟨ "Equal", 93, 7, false, "", "", 24⟩, ⟨ "GCData", 73, 8, false, "", "", 32⟩, ⟨ "Str", 94, 9, false, "", "", 40⟩, ⟨ "PtrToThis", 95, 10, false, "", "", 44⟩], 11, 48, some (.agg #[.int .u64 0, .int .u64 0, .int .u32 0, .int .u8 0, .int .u8 0, .int .u8 0, .int .u8 0, .nilFunc, .pointer none, .int .i32 0, .int .i32 0]), false⟩)]
theorem tok : TOK Tryd.prog tt := by
  unfold tt
  refine ⟨tiOK_of (by kernel_rfl) (by kernel_rfl) (fun h => by cases h), ?_⟩
  refine ⟨tiOK_of (by kernel_rfl) (by kernel_rfl) (fun h => by cases h), ?_⟩
  refine ⟨tiOK_of (by kernel_rfl) (by kernel_rfl) (fun h => by cases h), ?_⟩
  refine ⟨tiOK_of (by kernel_rfl) (by kernel_rfl) (fun h => by cases h), ?_⟩
  refine ⟨tiOK_of (by kernel_rfl) (by kernel_rfl) (fun h => by cases h), ?_⟩
  refine ⟨tiOK_of (by kernel_rfl) (by kernel_rfl) (fun h => by cases h), ?_⟩
  refine ⟨tiOK_of (by kernel_rfl) (by kernel_rfl) (fun h => by cases h), ?_⟩
  refine ⟨tiOK_of (by kernel_rfl) (by kernel_rfl) (fun h => by cases h), ?_⟩
  refine ⟨tiOK_of (by kernel_rfl) (by kernel_rfl) (fun h => by cases h), ?_⟩
  refine ⟨tiOK_of (by kernel_rfl) (by kernel_rfl) (fun h => by cases h), ?_⟩
  refine ⟨tiOK_of (by kernel_rfl) (by kernel_rfl) (fun h => by cases h), ?_⟩
  refine ⟨tiOK_of (by kernel_rfl) (by kernel_rfl) (fun h => by cases h), ?_⟩
  refine ⟨tiOK_of (by kernel_rfl) (by kernel_rfl) (fun h => by cases h), ?_⟩
  refine ⟨tiOK_of (by kernel_rfl) (by kernel_rfl) (fun h => by cases h), ?_⟩
  refine ⟨tiOK_of (by kernel_rfl) (by kernel_rfl) (fun h => by cases h), ?_⟩
  refine ⟨tiOK_of (by kernel_rfl) (by kernel_rfl) (fun h => by cases h), ?_⟩
  refine ⟨tiOK_of (by kernel_rfl) (by kernel_rfl) (fun h => by cases h), ?_⟩
  refine ⟨tiOK_of (by kernel_rfl) (by kernel_rfl) (fun _ => ⟨by kernel_rfl, by kernel_rfl⟩), ?_⟩
  refine ⟨tiOK_of (by kernel_rfl) (by kernel_rfl) (fun _ => ⟨by kernel_rfl, by kernel_rfl⟩), ?_⟩
  refine ⟨tiOK_of (by kernel_rfl) (by kernel_rfl) (fun h => by cases h), ?_⟩
  refine ⟨tiOK_of (by kernel_rfl) (by kernel_rfl) (fun h => by cases h), ?_⟩
  refine ⟨tiOK_of (by kernel_rfl) (by kernel_rfl) (fun h => by cases h), ?_⟩
  refine ⟨tiOK_of (by kernel_rfl) (by kernel_rfl) (fun h => by cases h), ?_⟩
  refine ⟨tiOK_of (by kernel_rfl) (by kernel_rfl) (fun h => by cases h), ?_⟩
  refine ⟨tiOK_of (by kernel_rfl) (by kernel_rfl) (fun h => by cases h), ?_⟩
  refine ⟨tiOK_of (by kernel_rfl) (by kernel_rfl) (fun h => by cases h), ?_⟩
  refine ⟨tiOK_of (by kernel_rfl) (by kernel_rfl) (fun h => by cases h), ?_⟩
  refine ⟨tiOK_of (by kernel_rfl) (by kernel_rfl) (fun h => by cases h), ?_⟩
  refine ⟨tiOK_of (by kernel_rfl) (by kernel_rfl) (fun h => by cases h), ?_⟩
  refine ⟨tiOK_of (by kernel_rfl) (by kernel_rfl) (fun h => by cases h), ?_⟩
  refine ⟨tiOK_of (by kernel_rfl) (by kernel_rfl) (fun h => by cases h), ?_⟩
  refine ⟨tiOK_of (by kernel_rfl) (by kernel_rfl) (fun h => by cases h), ?_⟩
  refine ⟨tiOK_of (by kernel_rfl) (by kernel_rfl) (fun h => by cases h), ?_⟩
  refine ⟨tiOK_of (by kernel_rfl) (by kernel_rfl) (fun h => by cases h), ?_⟩
  refine ⟨tiOK_of (by kernel_rfl) (by kernel_rfl) (fun h => by cases h), ?_⟩
  refine ⟨tiOK_of (by kernel_rfl) (by kernel_rfl) (fun h => by cases h), ?_⟩
  refine ⟨tiOK_of (by kernel_rfl) (by kernel_rfl) (fun h => by cases h), ?_⟩
  refine ⟨tiOK_of (by kernel_rfl) (by kernel_rfl) (fun h => by cases h), ?_⟩
  refine ⟨tiOK_of (by kernel_rfl) (by kernel_rfl) (fun h => by cases h), ?_⟩
  refine ⟨tiOK_of (by kernel_rfl) (by kernel_rfl) (fun h => by cases h), ?_⟩
  refine ⟨tiOK_of (by kernel_rfl) (by kernel_rfl) (fun h => by cases h), ?_⟩
  refine ⟨tiOK_of (by kernel_rfl) (by kernel_rfl) (fun h => by cases h), ?_⟩
  refine ⟨tiOK_of (by kernel_rfl) (by kernel_rfl) (fun h => by cases h), ?_⟩
  refine ⟨tiOK_of (by kernel_rfl) (by kernel_rfl) (fun h => by cases h), ?_⟩
  refine ⟨tiOK_of (by kernel_rfl) (by kernel_rfl) (fun h => by cases h), ?_⟩
  refine ⟨tiOK_of (by kernel_rfl) (by kernel_rfl) (fun h => by cases h), ?_⟩
  trivial
end Go.Proofs.YtknonjphjedmnaaDoor
