/- The types of the program, for the symbolic run, and that they are the program's. No condition. Printed by tab.py. -/
import Derived.Test.YtdgjcdhomfhfpaaProg
import Derived.Test.YtdgjcdhomfhfpaaAb4
namespace Go.Proofs.Ytdgjcdhomfhfpaa
def tt : Tab := ⟨
  (0, ⟨.tuple #[], 1, 0, some (.tuple #[]), false⟩) ::
  (1, ⟨.func #[] #[] false, 1, 8, some (.nilFunc), false⟩) ::
  (2, ⟨.int .i64, 1, 8, some (.int .i64 0), false⟩) ::
  (3, ⟨.int .i64, 1, 8, some (.int .i64 0), false⟩) ::
  (4, ⟨.bool, 1, 1, some (.bool false), false⟩) ::
  (5, ⟨.int .u8, 1, 1, some (.int .u8 0), false⟩) ::
  (6, ⟨.int .u8, 1, 1, some (.int .u8 0), false⟩) ::
  (9, ⟨.string, 1, 16, some (.string ⟨#[]⟩), false⟩) ::
  (10, ⟨.string, 1, 16, some (.string ⟨#[]⟩), false⟩) ::
  (11, ⟨.string, 1, 16, some (.string ⟨#[]⟩), false⟩) ::
  (12, ⟨.int .u64, 1, 8, some (.int .u64 0), false⟩) ::
  (15, ⟨.pointer 102, 1, 8, some (.pointer none), false⟩) ::
  (16, ⟨.pointer 105, 1, 8, some (.pointer none), false⟩) ::
  (17, ⟨.pointer 114, 1, 8, some (.pointer none), false⟩) ::
  (18, ⟨.struct #[⟨ "typ", 17, 0, false, "", (strOf [105, 110, 116, 101, 114, 110, 97, 108, 47, 114, 117, 110, 116, 105, 109, 101, 47, 109, 97, 112, 115]), 0⟩], 1, 8, some (.agg #[.pointer none]), false⟩) ::
  (19, ⟨.struct #[⟨ "typ", 17, 0, false, "", (strOf [105, 110, 116, 101, 114, 110, 97, 108, 47, 114, 117, 110, 116, 105, 109, 101, 47, 109, 97, 112, 115]), 0⟩], 1, 8, some (.agg #[.pointer none]), false⟩) ::
  (20, ⟨.interface #[], 1, 16, some (.nilIface), false⟩) ::
  (21, ⟨.int .i32, 1, 4, some (.int .i32 0), false⟩) ::
  (22, ⟨.slice 55, 1, 24, some (.slice none 0 0), false⟩) ::
  (23, ⟨.slice 34, 1, 24, some (.slice none 0 0), false⟩) ::
  (24, ⟨.pointer 59, 1, 8, some (.pointer none), false⟩) ::
  (25, ⟨.int .i64, 1, 8, some (.int .i64 0), false⟩) ::
  (26, ⟨.tuple #[24, 25], 1, 0, some (.tuple #[.pointer none, .int .i64 0]), false⟩) ::
  (27, ⟨.func #[3, 22] #[24, 25] true, 1, 8, some (.nilFunc), false⟩) ::
  (28, ⟨.struct #[⟨ "Most", 3, 0, false, "", "", 0⟩, ⟨ "Keys", 22, 1, false, "", "", 8⟩, ⟨ "L", 23, 2, false, "", "", 32⟩], 3, 56, some (.agg #[.int .i64 0, .slice none 0 0, .slice none 0 0]), false⟩) ::
  (29, ⟨.struct #[⟨ "Most", 3, 0, false, "", "", 0⟩, ⟨ "Keys", 22, 1, false, "", "", 8⟩, ⟨ "L", 23, 2, false, "", "", 32⟩], 3, 56, some (.agg #[.int .i64 0, .slice none 0 0, .slice none 0 0]), false⟩) ::
  (30, ⟨.tuple #[29, 3], 1, 0, some (.tuple #[.agg #[.int .i64 0, .slice none 0 0, .slice none 0 0], .int .i64 0]), false⟩) ::
  (31, ⟨.func #[3, 22] #[29, 3] false, 1, 8, some (.nilFunc), false⟩) ::
  (32, ⟨.func #[23] #[4] false, 1, 8, some (.nilFunc), false⟩) ::
  (33, ⟨.func #[] #[4] false, 1, 8, some (.nilFunc), false⟩) ::
  (34, ⟨.slice 38, 1, 24, some (.slice none 0 0), false⟩) ::
  (35, ⟨.func #[34] #[25] false, 1, 8, some (.nilFunc), false⟩) ::
  (36, ⟨.func #[34] #[29, 3] false, 1, 8, some (.nilFunc), false⟩) ::
  (37, ⟨.struct #[⟨ "Kind", 3, 0, false, "", "", 0⟩, ⟨ "N", 2, 1, false, "", "", 8⟩, ⟨ "S", 9, 2, false, "", "", 16⟩], 3, 32, some (.agg #[.int .i64 0, .int .i64 0, .string ⟨#[]⟩]), true⟩) ::
  (38, ⟨.struct #[⟨ "Kind", 3, 0, false, "", "", 0⟩, ⟨ "N", 2, 1, false, "", "", 8⟩, ⟨ "S", 9, 2, false, "", "", 16⟩], 3, 32, some (.agg #[.int .i64 0, .int .i64 0, .string ⟨#[]⟩]), true⟩) ::
  (39, ⟨.func #[] #[3] false, 1, 8, some (.nilFunc), false⟩) ::
  (40, ⟨.tuple #[23, 4], 1, 0, some (.tuple #[.slice none 0 0, .bool false]), false⟩) ::
  (41, ⟨.func #[24] #[23, 4] false, 1, 8, some (.nilFunc), false⟩) ::
  (42, ⟨.func #[23, 23] #[4] false, 1, 8, some (.nilFunc), false⟩) ::
  (43, ⟨.func #[] #[23] false, 1, 8, some (.nilFunc), false⟩) ::
  (44, ⟨.func #[3, 22, 23] #[4] false, 1, 8, some (.nilFunc), false⟩) ::
  (45, ⟨.array 3 5, 3, 3, some (.agg #[.int .u8 0, .int .u8 0, .int .u8 0]), false⟩) ::
  (46, ⟨.func #[22] #[25] true, 1, 8, some (.nilFunc), false⟩) ::
  (47, ⟨.func #[23, 22] #[23] true, 1, 8, some (.nilFunc), false⟩) ::
  (48, ⟨.func #[34, 34, 22] #[3] true, 1, 8, some (.nilFunc), false⟩) ::
  (49, ⟨.func #[72] #[] false, 1, 8, some (.nilFunc), false⟩) ::
  (50, ⟨.func #[72] #[] false, 1, 8, some (.nilFunc), false⟩) ::
  (51, ⟨.func #[] #[50] false, 1, 8, some (.nilFunc), false⟩) ::
  (52, ⟨.func #[45, 22, 23] #[4] false, 1, 8, some (.nilFunc), false⟩) ::
  (53, ⟨.int .u16, 1, 2, some (.int .u16 0), false⟩) ::
  (54, ⟨.struct #[⟨ "Col", 3, 0, false, "", "", 0⟩, ⟨ "Coll", 3, 1, false, "", "", 8⟩, ⟨ "Desc", 4, 2, false, "", "", 16⟩], 3, 24, some (.agg #[.int .i64 0, .int .i64 0, .bool false]), true⟩) ::
  (55, ⟨.struct #[⟨ "Col", 3, 0, false, "", "", 0⟩, ⟨ "Coll", 3, 1, false, "", "", 8⟩, ⟨ "Desc", 4, 2, false, "", "", 16⟩], 3, 24, some (.agg #[.int .i64 0, .int .i64 0, .bool false]), true⟩) ::
  (56, ⟨.func #[53] #[4] false, 1, 8, some (.nilFunc), false⟩) ::
  (57, ⟨.func #[22] #[22] false, 1, 8, some (.nilFunc), false⟩) ::
  (58, ⟨.struct #[⟨ "most", 3, 0, false, "", (strOf [116, 111, 109, 101, 47, 115, 111, 114, 116, 101, 114]), 0⟩, ⟨ "keys", 22, 1, false, "", (strOf [116, 111, 109, 101, 47, 115, 111, 114, 116, 101, 114]), 8⟩, ⟨ "rows", 23, 2, false, "", (strOf [116, 111, 109, 101, 47, 115, 111, 114, 116, 101, 114]), 32⟩], 3, 56, some (.agg #[.int .i64 0, .slice none 0 0, .slice none 0 0]), false⟩) ::
  (59, ⟨.struct #[⟨ "most", 3, 0, false, "", (strOf [116, 111, 109, 101, 47, 115, 111, 114, 116, 101, 114]), 0⟩, ⟨ "keys", 22, 1, false, "", (strOf [116, 111, 109, 101, 47, 115, 111, 114, 116, 101, 114]), 8⟩, ⟨ "rows", 23, 2, false, "", (strOf [116, 111, 109, 101, 47, 115, 111, 114, 116, 101, 114]), 32⟩], 3, 56, some (.agg #[.int .i64 0, .slice none 0 0, .slice none 0 0]), false⟩) ::
  (60, ⟨.func #[22] #[3] false, 1, 8, some (.nilFunc), false⟩) ::
  (61, ⟨.func #[2] #[38] false, 1, 8, some (.nilFunc), false⟩) ::
  (62, ⟨.func #[34] #[34] false, 1, 8, some (.nilFunc), false⟩) ::
  (63, ⟨.func #[34, 34] #[4] false, 1, 8, some (.nilFunc), false⟩) ::
  (64, ⟨.func #[23, 22] #[23] false, 1, 8, some (.nilFunc), false⟩) ::
  (65, ⟨.func #[22, 66] #[4] false, 1, 8, some (.nilFunc), false⟩) ::
  (66, ⟨.func #[55] #[4] false, 1, 8, some (.nilFunc), false⟩) ::
  (67, ⟨.func #[23] #[23] false, 1, 8, some (.nilFunc), false⟩) ::
  (68, ⟨.func #[23, 69] #[] false, 1, 8, some (.nilFunc), false⟩) ::
  (69, ⟨.func #[34, 34] #[3] false, 1, 8, some (.nilFunc), false⟩) ::
  (70, ⟨.func #[38, 38, 3] #[3] false, 1, 8, some (.nilFunc), false⟩) ::
  (71, ⟨.func #[34, 3] #[38] false, 1, 8, some (.nilFunc), false⟩) ::
  (72, ⟨.func #[34] #[4] false, 1, 8, some (.nilFunc), false⟩) ::
  (73, ⟨.pointer 78, 1, 8, some (.pointer none), false⟩) ::
  (74, ⟨.func #[23] #[73] false, 1, 8, some (.nilFunc), false⟩) ::
  (75, ⟨.slice 80, 1, 24, some (.slice none 0 0), false⟩) ::
  (76, ⟨.func #[80, 80] #[4] false, 1, 8, some (.nilFunc), false⟩) ::
  (77, ⟨.struct #[⟨ "l", 75, 0, false, "", (strOf [116, 111, 109, 101, 47, 115, 111, 114, 116, 101, 114]), 0⟩, ⟨ "less", 76, 1, false, "", (strOf [116, 111, 109, 101, 47, 115, 111, 114, 116, 101, 114]), 24⟩], 2, 32, some (.agg #[.slice none 0 0, .nilFunc]), false⟩) ::
  (78, ⟨.struct #[⟨ "l", 75, 0, false, "", (strOf [116, 111, 109, 101, 47, 115, 111, 114, 116, 101, 114]), 0⟩, ⟨ "less", 76, 1, false, "", (strOf [116, 111, 109, 101, 47, 115, 111, 114, 116, 101, 114]), 24⟩], 2, 32, some (.agg #[.slice none 0 0, .nilFunc]), false⟩) ::
  (79, ⟨.struct #[⟨ "no", 3, 0, false, "", (strOf [116, 111, 109, 101, 47, 115, 111, 114, 116, 101, 114]), 0⟩, ⟨ "rows", 23, 1, false, "", (strOf [116, 111, 109, 101, 47, 115, 111, 114, 116, 101, 114]), 8⟩], 2, 32, some (.agg #[.int .i64 0, .slice none 0 0]), false⟩) ::
  (80, ⟨.struct #[⟨ "no", 3, 0, false, "", (strOf [116, 111, 109, 101, 47, 115, 111, 114, 116, 101, 114]), 0⟩, ⟨ "rows", 23, 1, false, "", (strOf [116, 111, 109, 101, 47, 115, 111, 114, 116, 101, 114]), 8⟩], 2, 32, some (.agg #[.int .i64 0, .slice none 0 0]), false⟩) ::
  (81, ⟨.func #[] #[80] false, 1, 8, some (.nilFunc), false⟩) ::
  (82, ⟨.func #[80] #[] false, 1, 8, some (.nilFunc), false⟩) ::
  (83, ⟨.func #[34, 34, 22] #[3] false, 1, 8, some (.nilFunc), false⟩) ::
  (84, ⟨.func #[22, 66] #[3] false, 1, 8, some (.nilFunc), false⟩) ::
  (85, ⟨.func #[23, 3, 69] #[] false, 1, 8, some (.nilFunc), false⟩) ::
  (86, ⟨.func #[3, 3] #[3] false, 1, 8, some (.nilFunc), false⟩) ::
  (87, ⟨.func #[2, 2] #[3] false, 1, 8, some (.nilFunc), false⟩) ::
  (88, ⟨.func #[9, 9] #[3] false, 1, 8, some (.nilFunc), false⟩) ::
  (89, ⟨.func #[9] #[9] false, 1, 8, some (.nilFunc), false⟩) ::
  (90, ⟨.func #[32] #[] false, 1, 8, some (.nilFunc), false⟩) ::
  (91, ⟨.func #[32] #[] false, 1, 8, some (.nilFunc), false⟩) ::
  (92, ⟨.func #[23, 3] #[91] false, 1, 8, some (.nilFunc), false⟩) ::
  (93, ⟨.slice 3, 1, 24, some (.slice none 0 0), false⟩) ::
  (94, ⟨.func #[23, 3, 3, 69] #[] false, 1, 8, some (.nilFunc), false⟩) ::
  (95, ⟨.func #[23, 3, 3, 3, 69] #[] false, 1, 8, some (.nilFunc), false⟩) ::
  (96, ⟨.func #[3] #[4] false, 1, 8, some (.nilFunc), false⟩) ::
  (97, ⟨.func #[2] #[4] false, 1, 8, some (.nilFunc), false⟩) ::
  (98, ⟨.slice 5, 1, 24, some (.slice none 0 0), false⟩) ::
  (99, ⟨.int .u64, 1, 8, some (.int .u64 0), false⟩) ::
  (100, ⟨.func #[] #[9] false, 1, 8, some (.nilFunc), false⟩) ::
  (103, ⟨.array 0 16, 0, 0, some (.agg #[]), false⟩) ::
  (106, ⟨.int .u32, 1, 4, some (.int .u32 0), false⟩) ::
  (107, ⟨.int .u8, 1, 1, some (.int .u8 0), false⟩) ::
  (108, ⟨.int .u8, 1, 1, some (.int .u8 0), false⟩) ::
  (109, ⟨.func #[115, 115] #[4] false, 1, 8, some (.nilFunc), false⟩) ::
  (110, ⟨.pointer 5, 1, 8, some (.pointer none), false⟩) ::
  (111, ⟨.int .i32, 1, 4, some (.int .i32 0), false⟩) ::
  (112, ⟨.int .i32, 1, 4, some (.int .i32 0), false⟩) ::
  (115, ⟨.unsafePointer, 1, 8, some (.pointer none), false⟩) :: [], [], false, [], [], [], []⟩
theorem tok : TOK Try.prog tt := by
  unfold tt
  refine ⟨?_, trivial⟩
  show TOKl _ _
  refine ⟨tiOK_of (by kernel_rfl) (by kernel_rfl) (fun h => by cases h), ?_⟩
  refine ⟨tiOK_of (by kernel_rfl) (by kernel_rfl) (fun h => by cases h), ?_⟩
  refine ⟨tiOK_of (by kernel_rfl) (by kernel_rfl) (fun h => by cases h), ?_⟩
  refine ⟨tiOK_of (by kernel_rfl) (by kernel_rfl) (fun h => by cases h), ?_⟩
  refine ⟨tiOK_of (by kernel_rfl) (by kernel_rfl) (fun h => by cases h), ?_⟩
  refine ⟨tiOK_of (by kernel_rfl) (by kernel_rfl) (fun h => by cases h), ?_⟩
  refine ⟨tiOK_of (by kernel_rfl) (by kernel_rfl) (fun h => by cases h), ?_⟩
  refine ⟨tiOK_of (by kernel_rfl) (by kernel_rfl) (fun h => by cases h), ?_⟩
  refine ⟨tiOK_of (by kernel_rfl) (by kernel_rfl) (fun h => by cases h), ?_⟩
  refine ⟨tiOK_of (by kernel_rfl) (by kernel_rfl) (fun h => by cases h), ?_⟩
  refine ⟨tiOK_of (by kernel_rfl) (by kernel_rfl) (fun h => by cases h), ?_⟩
  refine ⟨tiOK_of (by kernel_rfl) (by kernel_rfl) (fun h => by cases h), ?_⟩
  refine ⟨tiOK_of (by kernel_rfl) (by kernel_rfl) (fun h => by cases h), ?_⟩
  refine ⟨tiOK_of (by kernel_rfl) (by kernel_rfl) (fun h => by cases h), ?_⟩
  refine ⟨tiOK_of (by kernel_rfl) (by kernel_rfl) (fun h => by cases h), ?_⟩
  refine ⟨tiOK_of (by kernel_rfl) (by kernel_rfl) (fun h => by cases h), ?_⟩
  refine ⟨tiOK_of (by kernel_rfl) (by kernel_rfl) (fun h => by cases h), ?_⟩
  refine ⟨tiOK_of (by kernel_rfl) (by kernel_rfl) (fun h => by cases h), ?_⟩
  refine ⟨tiOK_of (by kernel_rfl) (by kernel_rfl) (fun h => by cases h), ?_⟩
  refine ⟨tiOK_of (by kernel_rfl) (by kernel_rfl) (fun h => by cases h), ?_⟩
  refine ⟨tiOK_of (by kernel_rfl) (by kernel_rfl) (fun h => by cases h), ?_⟩
  refine ⟨tiOK_of (by kernel_rfl) (by kernel_rfl) (fun h => by cases h), ?_⟩
  refine ⟨tiOK_of (by kernel_rfl) (by kernel_rfl) (fun h => by cases h), ?_⟩
  refine ⟨tiOK_of (by kernel_rfl) (by kernel_rfl) (fun h => by cases h), ?_⟩
  refine ⟨tiOK_of (by kernel_rfl) (by kernel_rfl) (fun h => by cases h), ?_⟩
  refine ⟨tiOK_of (by kernel_rfl) (by kernel_rfl) (fun h => by cases h), ?_⟩
  refine ⟨tiOK_of (by kernel_rfl) (by kernel_rfl) (fun h => by cases h), ?_⟩
  refine ⟨tiOK_of (by kernel_rfl) (by kernel_rfl) (fun h => by cases h), ?_⟩
  refine ⟨tiOK_of (by kernel_rfl) (by kernel_rfl) (fun h => by cases h), ?_⟩
  refine ⟨tiOK_of (by kernel_rfl) (by kernel_rfl) (fun h => by cases h), ?_⟩
  refine ⟨tiOK_of (by kernel_rfl) (by kernel_rfl) (fun h => by cases h), ?_⟩
  refine ⟨tiOK_of (by kernel_rfl) (by kernel_rfl) (fun h => by cases h), ?_⟩
  refine ⟨tiOK_of (by kernel_rfl) (by kernel_rfl) (fun h => by cases h), ?_⟩
  refine ⟨tiOK_of (by kernel_rfl) (by kernel_rfl) (fun _ => ⟨by kernel_rfl, by kernel_rfl⟩), ?_⟩
  refine ⟨tiOK_of (by kernel_rfl) (by kernel_rfl) (fun _ => ⟨by kernel_rfl, by kernel_rfl⟩), ?_⟩
  refine ⟨tiOK_of (by kernel_rfl) (by kernel_rfl) (fun h => by cases h), ?_⟩
  refine ⟨tiOK_of (by kernel_rfl) (by kernel_rfl) (fun h => by cases h), ?_⟩
  refine ⟨tiOK_of (by kernel_rfl) (by kernel_rfl) (fun h => by cases h), ?_⟩
  refine ⟨tiOK_of (by kernel_rfl) (by kernel_rfl) (fun h => by cases h), ?_⟩
  refine ⟨tiOK_of (by kernel_rfl) (by kernel_rfl) (fun h => by cases h), ?_⟩
  refine ⟨tiOK_of (by kernel_rfl) (by kernel_rfl) (fun h => by cases h), ?_⟩
  refine ⟨tiOK_of (by kernel_rfl) (by kernel_rfl) (fun h => by cases h), ?_⟩
  refine ⟨tiOK_of (by kernel_rfl) (by kernel_rfl) (fun h => by cases h), ?_⟩
  refine ⟨tiOK_of (by kernel_rfl) (by kernel_rfl) (fun h => by cases h), ?_⟩
  refine ⟨tiOK_of (by kernel_rfl) (by kernel_rfl) (fun h => by cases h), ?_⟩
  refine ⟨tiOK_of (by kernel_rfl) (by kernel_rfl) (fun h => by cases h), ?_⟩
  refine ⟨tiOK_of (by kernel_rfl) (by kernel_rfl) (fun h => by cases h), ?_⟩
  refine ⟨tiOK_of (by kernel_rfl) (by kernel_rfl) (fun h => by cases h), ?_⟩
  refine ⟨tiOK_of (by kernel_rfl) (by kernel_rfl) (fun h => by cases h), ?_⟩
  refine ⟨tiOK_of (by kernel_rfl) (by kernel_rfl) (fun h => by cases h), ?_⟩
  refine ⟨tiOK_of (by kernel_rfl) (by kernel_rfl) (fun _ => ⟨by kernel_rfl, by kernel_rfl⟩), ?_⟩
  refine ⟨tiOK_of (by kernel_rfl) (by kernel_rfl) (fun _ => ⟨by kernel_rfl, by kernel_rfl⟩), ?_⟩
  refine ⟨tiOK_of (by kernel_rfl) (by kernel_rfl) (fun h => by cases h), ?_⟩
  refine ⟨tiOK_of (by kernel_rfl) (by kernel_rfl) (fun h => by cases h), ?_⟩
  refine ⟨tiOK_of (by kernel_rfl) (by kernel_rfl) (fun h => by cases h), ?_⟩
  refine ⟨tiOK_of (by kernel_rfl) (by kernel_rfl) (fun h => by cases h), ?_⟩
  refine ⟨tiOK_of (by kernel_rfl) (by kernel_rfl) (fun h => by cases h), ?_⟩
  refine ⟨tiOK_of (by kernel_rfl) (by kernel_rfl) (fun h => by cases h), ?_⟩
  refine ⟨tiOK_of (by kernel_rfl) (by kernel_rfl) (fun h => by cases h), ?_⟩
  refine ⟨tiOK_of (by kernel_rfl) (by kernel_rfl) (fun h => by cases h), ?_⟩
  refine ⟨tiOK_of (by kernel_rfl) (by kernel_rfl) (fun h => by cases h), ?_⟩
  refine ⟨tiOK_of (by kernel_rfl) (by kernel_rfl) (fun h => by cases h), ?_⟩
  refine ⟨tiOK_of (by kernel_rfl) (by kernel_rfl) (fun h => by cases h), ?_⟩
  refine ⟨tiOK_of (by kernel_rfl) (by kernel_rfl) (fun h => by cases h), ?_⟩
  refine ⟨tiOK_of (by kernel_rfl) (by kernel_rfl) (fun h => by cases h), ?_⟩
  refine ⟨tiOK_of (by kernel_rfl) (by kernel_rfl) (fun h => by cases h), ?_⟩
  refine ⟨tiOK_of (by kernel_rfl) (by kernel_rfl) (fun h => by cases h), ?_⟩
  refine ⟨tiOK_of (by kernel_rfl) (by kernel_rfl) (fun h => by cases h), ?_⟩
  refine ⟨tiOK_of (by kernel_rfl) (by kernel_rfl) (fun h => by cases h), ?_⟩
  refine ⟨tiOK_of (by kernel_rfl) (by kernel_rfl) (fun h => by cases h), ?_⟩
  refine ⟨tiOK_of (by kernel_rfl) (by kernel_rfl) (fun h => by cases h), ?_⟩
  refine ⟨tiOK_of (by kernel_rfl) (by kernel_rfl) (fun h => by cases h), ?_⟩
  refine ⟨tiOK_of (by kernel_rfl) (by kernel_rfl) (fun h => by cases h), ?_⟩
  refine ⟨tiOK_of (by kernel_rfl) (by kernel_rfl) (fun h => by cases h), ?_⟩
  refine ⟨tiOK_of (by kernel_rfl) (by kernel_rfl) (fun h => by cases h), ?_⟩
  refine ⟨tiOK_of (by kernel_rfl) (by kernel_rfl) (fun h => by cases h), ?_⟩
  refine ⟨tiOK_of (by kernel_rfl) (by kernel_rfl) (fun h => by cases h), ?_⟩
  refine ⟨tiOK_of (by kernel_rfl) (by kernel_rfl) (fun h => by cases h), ?_⟩
  refine ⟨tiOK_of (by kernel_rfl) (by kernel_rfl) (fun h => by cases h), ?_⟩
  refine ⟨tiOK_of (by kernel_rfl) (by kernel_rfl) (fun h => by cases h), ?_⟩
  refine ⟨tiOK_of (by kernel_rfl) (by kernel_rfl) (fun h => by cases h), ?_⟩
  refine ⟨tiOK_of (by kernel_rfl) (by kernel_rfl) (fun h => by cases h), ?_⟩
  refine ⟨tiOK_of (by kernel_rfl) (by kernel_rfl) (fun h => by cases h), ?_⟩
  refine ⟨tiOK_of (by kernel_rfl) (by kernel_rfl) (fun h => by cases h), ?_⟩
  refine ⟨tiOK_of (by kernel_rfl) (by kernel_rfl) (fun h => by cases h), ?_⟩
  refine ⟨tiOK_of (by kernel_rfl) (by kernel_rfl) (fun h => by cases h), ?_⟩
  refine ⟨tiOK_of (by kernel_rfl) (by kernel_rfl) (fun h => by cases h), ?_⟩
  refine ⟨tiOK_of (by kernel_rfl) (by kernel_rfl) (fun h => by cases h), ?_⟩
  refine ⟨tiOK_of (by kernel_rfl) (by kernel_rfl) (fun h => by cases h), ?_⟩
  refine ⟨tiOK_of (by kernel_rfl) (by kernel_rfl) (fun h => by cases h), ?_⟩
  refine ⟨tiOK_of (by kernel_rfl) (by kernel_rfl) (fun h => by cases h), ?_⟩
  refine ⟨tiOK_of (by kernel_rfl) (by kernel_rfl) (fun h => by cases h), ?_⟩
  refine ⟨tiOK_of (by kernel_rfl) (by kernel_rfl) (fun h => by cases h), ?_⟩
  refine ⟨tiOK_of (by kernel_rfl) (by kernel_rfl) (fun h => by cases h), ?_⟩
  refine ⟨tiOK_of (by kernel_rfl) (by kernel_rfl) (fun h => by cases h), ?_⟩
  refine ⟨tiOK_of (by kernel_rfl) (by kernel_rfl) (fun h => by cases h), ?_⟩
  refine ⟨tiOK_of (by kernel_rfl) (by kernel_rfl) (fun h => by cases h), ?_⟩
  refine ⟨tiOK_of (by kernel_rfl) (by kernel_rfl) (fun h => by cases h), ?_⟩
  refine ⟨tiOK_of (by kernel_rfl) (by kernel_rfl) (fun h => by cases h), ?_⟩
  refine ⟨tiOK_of (by kernel_rfl) (by kernel_rfl) (fun h => by cases h), ?_⟩
  refine ⟨tiOK_of (by kernel_rfl) (by kernel_rfl) (fun h => by cases h), ?_⟩
  refine ⟨tiOK_of (by kernel_rfl) (by kernel_rfl) (fun h => by cases h), ?_⟩
  refine ⟨tiOK_of (by kernel_rfl) (by kernel_rfl) (fun h => by cases h), ?_⟩
  refine ⟨tiOK_of (by kernel_rfl) (by kernel_rfl) (fun h => by cases h), ?_⟩
  refine ⟨tiOK_of (by kernel_rfl) (by kernel_rfl) (fun h => by cases h), ?_⟩
  refine ⟨tiOK_of (by kernel_rfl) (by kernel_rfl) (fun h => by cases h), ?_⟩
  trivial
end Go.Proofs.Ytdgjcdhomfhfpaa
