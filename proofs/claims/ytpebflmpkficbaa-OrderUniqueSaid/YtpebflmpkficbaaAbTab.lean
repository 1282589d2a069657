/- The types of the program, for the symbolic run, and that they are the program's. No condition. Printed by tab.py. -/
import Derived.Test.YtpebflmpkficbaaProg
import Derived.Test.YtpebflmpkficbaaAb4
namespace Go.Proofs.Ytpebflmpkficbaa
def tt : Tab := ⟨[
  (0, ⟨.tuple #[], 1, 0, some (.tuple #[]), false⟩),
  (2, ⟨.int .i64, 1, 8, some (.int .i64 0), false⟩),
  (3, ⟨.int .i64, 1, 8, some (.int .i64 0), false⟩),
  (4, ⟨.bool, 1, 1, some (.bool false), false⟩),
  (5, ⟨.int .u8, 1, 1, some (.int .u8 0), false⟩),
  (6, ⟨.int .u8, 1, 1, some (.int .u8 0), false⟩),
  (9, ⟨.string, 1, 16, some (.string ⟨#[]⟩), false⟩),
  (10, ⟨.string, 1, 16, some (.string ⟨#[]⟩), false⟩),
  (11, ⟨.string, 1, 16, some (.string ⟨#[]⟩), false⟩),
  (12, ⟨.int .u64, 1, 8, some (.int .u64 0), false⟩),
  (15, ⟨.pointer 76, 1, 8, some (.pointer none), false⟩),
  (16, ⟨.pointer 79, 1, 8, some (.pointer none), false⟩),
  (17, ⟨.pointer 89, 1, 8, some (.pointer none), false⟩),
  (21, ⟨.int .i32, 1, 4, some (.int .i32 0), false⟩),
  (22, ⟨.slice 43, 1, 24, some (.slice none 0 0), false⟩),
  (23, ⟨.slice 47, 1, 24, some (.slice none 0 0), false⟩),
  (25, ⟨.slice 22, 1, 24, some (.slice none 0 0), false⟩),
  (28, ⟨.int .i64, 1, 8, some (.int .i64 0), false⟩),
  (37, ⟨.tuple #[3, 4], 1, 0, some (.tuple #[.int .i64 0, .bool false]), false⟩),
  (42, ⟨.struct #[⟨ "Kind", 3, 0, false, "", "", 0⟩, ⟨ "N", 2, 1, false, "", "", 8⟩, ⟨ "S", 9, 2, false, "", "", 16⟩], 3, 32, some (.agg #[.int .i64 0, .int .i64 0, .string ⟨#[]⟩]), true⟩),
  (43, ⟨.struct #[⟨ "Kind", 3, 0, false, "", "", 0⟩, ⟨ "N", 2, 1, false, "", "", 8⟩, ⟨ "S", 9, 2, false, "", "", 16⟩], 3, 32, some (.agg #[.int .i64 0, .int .i64 0, .string ⟨#[]⟩]), true⟩),
  (46, ⟨.struct #[⟨ "Col", 3, 0, false, "", "", 0⟩, ⟨ "Coll", 3, 1, false, "", "", 8⟩, ⟨ "Desc", 4, 2, false, "", "", 16⟩], 3, 24, some (.agg #[.int .i64 0, .int .i64 0, .bool false]), true⟩),
  (47, ⟨.struct #[⟨ "Col", 3, 0, false, "", "", 0⟩, ⟨ "Coll", 3, 1, false, "", "", 8⟩, ⟨ "Desc", 4, 2, false, "", "", 16⟩], 3, 24, some (.agg #[.int .i64 0, .int .i64 0, .bool false]), true⟩),
  (56, ⟨.map 9 3, 1, 8, some (.map none), false⟩),
  (66, ⟨.slice 5, 1, 24, some (.slice none 0 0), false⟩),
  (68, ⟨.int .u64, 1, 8, some (.int .u64 0), false⟩),
  (73, ⟨.int .u64, 1, 8, some (.int .u64 0), false⟩),
  (77, ⟨.array 0 16, 0, 0, some (.agg #[]), false⟩),
  (81, ⟨.int .u32, 1, 4, some (.int .u32 0), false⟩),
  (82, ⟨.int .u8, 1, 1, some (.int .u8 0), false⟩),
  (83, ⟨.int .u8, 1, 1, some (.int .u8 0), false⟩),
  (85, ⟨.pointer 5, 1, 8, some (.pointer none), false⟩),
  (86, ⟨.int .i32, 1, 4, some (.int .i32 0), false⟩),
  (87, ⟨.int .i32, 1, 4, some (.int .i32 0), false⟩),
  (88, ⟨.struct #[⟨ "Size_", 12, 0, false, "", "", 0⟩, ⟨ "PtrBytes", 12, 1, false, "", "", 8⟩, ⟨ "Hash", 81, 2, false, "", "", 16⟩, ⟨ "TFlag", 82, 3, false, "", "", 20⟩, ⟨ "Align_", 5, 4, false, "", "", 21⟩, ⟨ "FieldAlign_", 5, 5, false, "", "", 22⟩, ⟨ "Kind_", 83, 6, false, "", "", 23⟩, ⟨ "Equal", 84, 7, false, "", "", 24⟩, ⟨ "GCData", 85, 8, false, "", "", 32⟩, ⟨ "Str", 86, 9, false, "", "", 40⟩, ⟨ "PtrToThis", 87, 10, false, "", "", 44⟩], 11, 48, some (.agg #[.int .u64 0, .int .u64 0, .int .u32 0, .int .u8 0, .int .u8 0, .int .u8 0, .int .u8 0, .nilFunc, .pointer none, .int .i32 0, .int .i32 0]), false⟩),
  (89, ⟨.struct #[⟨ "Size_", 12, 0, false, "", "", 0⟩, ⟨ "PtrBytes", 12, 1, false, "", "", 8⟩, ⟨ "Hash", 81, 2, false, "", "", 16⟩, ⟨ "TFlag", 82, 3, false, "", "", 20⟩, ⟨ "Align_", 5, 4, false, "", "", 21⟩, ⟨ "FieldAlign_", 5, 5, false, "", "", 22⟩, ⟨ "Kind_", 83, 6, false, "", "", 23⟩, ⟨ "Equal", 84, 7, false, "", "", 24⟩, ⟨ "GCData", 85, 8, false, "", "", 32⟩, ⟨ "Str", 86, 9, false, "", "", 40⟩, ⟨ "PtrToThis", 87, 10, false, "", "", 44⟩], 11, 48, some (.agg #[.int .u64 0, .int .u64 0, .int .u32 0, .int .u8 0, .int .u8 0, .int .u8 0, .int .u8 0, .nilFunc, .pointer none, .int .i32 0, .int .i32 0]), false⟩),
  (90, ⟨.unsafePointer, 1, 8, some (.pointer none), false⟩)], [50], false⟩
theorem tok : TOK Try.prog tt := by
  unfold tt
  show TOKl _ _
  refine ⟨tiOK_of (by kernel_rfl) (by kernel_rfl) (fun h => by cases h), ?_⟩
  refine ⟨tiOK_of (by kernel_rfl) (by kernel_rfl) (fun h => by cases h), ?_⟩
  refine ⟨tiOK_of (by kernel_rfl) (by kernel_rfl) (fun h => by cases h), ?_⟩
  refine ⟨tiOK_of (by kernel_rfl) (by kernel_rfl) (fun h => by cases h), ?_⟩
  refine ⟨tiOK_of (by kernel_rfl) (by kernel_rfl) (fun h => by cases h), ?_⟩
  refine ⟨tiOK_of (by kernel_rfl) (by kernel_rfl) (fun h => by cases h), ?_⟩
  refine ⟨tiOK_of (by kernel_rfl) (by kernel_rfl) (fun h => by cases h), ?_⟩
  refine ⟨tiOK_of (by kernel_rfl) (by kernel_rfl) (fun h => by cases h), ?_⟩
  refine ⟨tiOK_of (by kernel_rfl) (by kernel_rfl) (fun h => by cases h), ?_⟩
  refine ⟨tiOK_of (by kernel_rfl) (by kernel_rfl) (fun h => by cases h), ?_⟩
  refine ⟨tiOK_of (by kernel_rfl) (by kernel_rfl) (fun h => by cases h), ?_⟩
  refine ⟨tiOK_of (by kernel_rfl) (by kernel_rfl) (fun h => by cases h), ?_⟩
  refine ⟨tiOK_of (by kernel_rfl) (by kernel_rfl) (fun h => by cases h), ?_⟩
  refine ⟨tiOK_of (by kernel_rfl) (by kernel_rfl) (fun h => by cases h), ?_⟩
  refine ⟨tiOK_of (by kernel_rfl) (by kernel_rfl) (fun h => by cases h), ?_⟩
  refine ⟨tiOK_of (by kernel_rfl) (by kernel_rfl) (fun h => by cases h), ?_⟩
  refine ⟨tiOK_of (by kernel_rfl) (by kernel_rfl) (fun h => by cases h), ?_⟩
  refine ⟨tiOK_of (by kernel_rfl) (by kernel_rfl) (fun h => by cases h), ?_⟩
  refine ⟨tiOK_of (by kernel_rfl) (by kernel_rfl) (fun h => by cases h), ?_⟩
  refine ⟨tiOK_of (by kernel_rfl) (by kernel_rfl) (fun _ => ⟨by kernel_rfl, by kernel_rfl⟩), ?_⟩
  refine ⟨tiOK_of (by kernel_rfl) (by kernel_rfl) (fun _ => ⟨by kernel_rfl, by kernel_rfl⟩), ?_⟩
  refine ⟨tiOK_of (by kernel_rfl) (by kernel_rfl) (fun _ => ⟨by kernel_rfl, by kernel_rfl⟩), ?_⟩
  refine ⟨tiOK_of (by kernel_rfl) (by kernel_rfl) (fun _ => ⟨by kernel_rfl, by kernel_rfl⟩), ?_⟩
  refine ⟨tiOK_of (by kernel_rfl) (by kernel_rfl) (fun h => by cases h), ?_⟩
  refine ⟨tiOK_of (by kernel_rfl) (by kernel_rfl) (fun h => by cases h), ?_⟩
  refine ⟨tiOK_of (by kernel_rfl) (by kernel_rfl) (fun h => by cases h), ?_⟩
  refine ⟨tiOK_of (by kernel_rfl) (by kernel_rfl) (fun h => by cases h), ?_⟩
  refine ⟨tiOK_of (by kernel_rfl) (by kernel_rfl) (fun h => by cases h), ?_⟩
  refine ⟨tiOK_of (by kernel_rfl) (by kernel_rfl) (fun h => by cases h), ?_⟩
  refine ⟨tiOK_of (by kernel_rfl) (by kernel_rfl) (fun h => by cases h), ?_⟩
  refine ⟨tiOK_of (by kernel_rfl) (by kernel_rfl) (fun h => by cases h), ?_⟩
  refine ⟨tiOK_of (by kernel_rfl) (by kernel_rfl) (fun h => by cases h), ?_⟩
  refine ⟨tiOK_of (by kernel_rfl) (by kernel_rfl) (fun h => by cases h), ?_⟩
  refine ⟨tiOK_of (by kernel_rfl) (by kernel_rfl) (fun h => by cases h), ?_⟩
  refine ⟨tiOK_of (by kernel_rfl) (by kernel_rfl) (fun h => by cases h), ?_⟩
  refine ⟨tiOK_of (by kernel_rfl) (by kernel_rfl) (fun h => by cases h), ?_⟩
  refine ⟨tiOK_of (by kernel_rfl) (by kernel_rfl) (fun h => by cases h), ?_⟩
  trivial
end Go.Proofs.Ytpebflmpkficbaa
