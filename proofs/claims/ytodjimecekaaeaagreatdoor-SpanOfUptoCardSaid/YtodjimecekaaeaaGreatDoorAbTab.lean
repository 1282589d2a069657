/- The types of the program, for the symbolic run, and that they are the program's. No condition. Printed by tab.py. -/
import Derived.Test.YtodjimecekaaeaaGreatDoorProg
import Derived.Test.YtodjimecekaaeaaGreatDoorAb4
namespace Go.Proofs.YtodjimecekaaeaaGreatDoor
def tt : Tab := ⟨[
 (0,⟨.tuple #[],1,0,some (.tuple #[]),false⟩),
 (2,⟨.int .i64,1,8,some (.int .i64 0),false⟩),
 (3,⟨.int .i64,1,8,some (.int .i64 0),false⟩),
 (4,⟨.bool,1,1,some (.bool false),false⟩),
 (5,⟨.int .u8,1,1,some (.int .u8 0),false⟩),
 (6,⟨.int .u8,1,1,some (.int .u8 0),false⟩),
 (9,⟨.string,1,16,some (.string ⟨#[]⟩),false⟩),
 (10,⟨.string,1,16,some (.string ⟨#[]⟩),false⟩),
 (11,⟨.string,1,16,some (.string ⟨#[]⟩),false⟩),
 (12,⟨.int .u64,1,8,some (.int .u64 0),false⟩),
 (15,⟨.pointer 191,1,8,some (.pointer none),false⟩),
 (16,⟨.pointer 194,1,8,some (.pointer none),false⟩),
 (17,⟨.pointer 202,1,8,some (.pointer none),false⟩),
 (21,⟨.int .i32,1,4,some (.int .i32 0),false⟩),
 (22,⟨.slice 57,1,24,some (.slice none 0 0),false⟩),
 (23,⟨.slice 27,1,24,some (.slice none 0 0),false⟩),
 (26,⟨.struct #[⟨ "Col",3,0,false,"","",0⟩,⟨ "Coll",3,1,false,"","",8⟩,⟨ "Desc",4,2,false,"","",16⟩],3,24,some (.agg #[.int .i64 0,.int .i64 0,.bool false]),true⟩),
 (27,⟨.struct #[⟨ "Col",3,0,false,"","",0⟩,⟨ "Coll",3,1,false,"","",8⟩,⟨ "Desc",4,2,false,"","",16⟩],3,24,some (.agg #[.int .i64 0,.int .i64 0,.bool false]),true⟩),
 (28,⟨.struct #[⟨ "Eq",22,0,false,"","",0⟩,⟨ "Low",22,1,false,"","",24⟩,⟨ "High",22,2,false,"","",48⟩,⟨ "LowOpen",4,3,false,"","",72⟩,⟨ "HighOpen",4,4,false,"","",73⟩],5,80,some (.agg #[.slice none 0 0,.slice none 0 0,.slice none 0 0,.bool false,.bool false]),false⟩),
 (29,⟨.struct #[⟨ "Eq",22,0,false,"","",0⟩,⟨ "Low",22,1,false,"","",24⟩,⟨ "High",22,2,false,"","",48⟩,⟨ "LowOpen",4,3,false,"","",72⟩,⟨ "HighOpen",4,4,false,"","",73⟩],5,80,some (.agg #[.slice none 0 0,.slice none 0 0,.slice none 0 0,.bool false,.bool false]),false⟩),
 (30,⟨.tuple #[29,22],1,0,some (.tuple #[.agg #[.slice none 0 0,.slice none 0 0,.slice none 0 0,.bool false,.bool false],.slice none 0 0]),false⟩),
 (36,⟨.slice 53,1,24,some (.slice none 0 0),false⟩),
 (37,⟨.struct #[⟨ "X",29,0,false,"","",0⟩,⟨ "Row",36,5,false,"","",80⟩,⟨ "Key",36,6,false,"","",104⟩,⟨ "Keys",23,7,false,"","",128⟩],8,152,some (.agg #[.slice none 0 0,.slice none 0 0,.slice none 0 0,.bool false,.bool false,.slice none 0 0,.slice none 0 0,.slice none 0 0]),false⟩),
 (38,⟨.struct #[⟨ "X",29,0,false,"","",0⟩,⟨ "Row",36,5,false,"","",80⟩,⟨ "Key",36,6,false,"","",104⟩,⟨ "Keys",23,7,false,"","",128⟩],8,152,some (.agg #[.slice none 0 0,.slice none 0 0,.slice none 0 0,.bool false,.bool false,.slice none 0 0,.slice none 0 0,.slice none 0 0]),false⟩),
 (41,⟨.int .i64,1,8,some (.int .i64 0),false⟩),
 (42,⟨.tuple #[36,36,4,41],1,0,some (.tuple #[.slice none 0 0,.slice none 0 0,.bool false,.int .i64 0]),false⟩),
 (44,⟨.tuple #[36,36,4,3],1,0,some (.tuple #[.slice none 0 0,.slice none 0 0,.bool false,.int .i64 0]),false⟩),
 (46,⟨.tuple #[4,41],1,0,some (.tuple #[.bool false,.int .i64 0]),false⟩),
 (48,⟨.tuple #[4,3],1,0,some (.tuple #[.bool false,.int .i64 0]),false⟩),
 (52,⟨.struct #[⟨ "Kind",3,0,false,"","",0⟩,⟨ "N",2,1,false,"","",8⟩,⟨ "S",9,2,false,"","",16⟩],3,32,some (.agg #[.int .i64 0,.int .i64 0,.string ⟨#[]⟩]),true⟩),
 (53,⟨.struct #[⟨ "Kind",3,0,false,"","",0⟩,⟨ "N",2,1,false,"","",8⟩,⟨ "S",9,2,false,"","",16⟩],3,32,some (.agg #[.int .i64 0,.int .i64 0,.string ⟨#[]⟩]),true⟩),
 (54,⟨.tuple #[53,3],1,0,some (.tuple #[.agg #[.int .i64 0,.int .i64 0,.string ⟨#[]⟩],.int .i64 0]),false⟩),
 (56,⟨.struct #[⟨ "Kind",3,0,false,"","",0⟩,⟨ "Op",9,1,false,"","",8⟩,⟨ "Val",53,2,false,"","",24⟩,⟨ "Table",9,5,false,"","",56⟩,⟨ "Name",9,6,false,"","",72⟩,⟨ "Slot",3,7,false,"","",88⟩,⟨ "Not",4,8,false,"","",96⟩,⟨ "Distinct",4,9,false,"","",97⟩,⟨ "Args",22,10,false,"","",104⟩],11,128,some (.agg #[.int .i64 0,.string ⟨#[]⟩,.int .i64 0,.int .i64 0,.string ⟨#[]⟩,.string ⟨#[]⟩,.string ⟨#[]⟩,.int .i64 0,.bool false,.bool false,.slice none 0 0]),false⟩),
 (57,⟨.struct #[⟨ "Kind",3,0,false,"","",0⟩,⟨ "Op",9,1,false,"","",8⟩,⟨ "Val",53,2,false,"","",24⟩,⟨ "Table",9,5,false,"","",56⟩,⟨ "Name",9,6,false,"","",72⟩,⟨ "Slot",3,7,false,"","",88⟩,⟨ "Not",4,8,false,"","",96⟩,⟨ "Distinct",4,9,false,"","",97⟩,⟨ "Args",22,10,false,"","",104⟩],11,128,some (.agg #[.int .i64 0,.string ⟨#[]⟩,.int .i64 0,.int .i64 0,.string ⟨#[]⟩,.string ⟨#[]⟩,.string ⟨#[]⟩,.int .i64 0,.bool false,.bool false,.slice none 0 0]),false⟩),
 (62,⟨.tuple #[22,4],1,0,some (.tuple #[.slice none 0 0,.bool false]),false⟩),
 (64,⟨.pointer 29,1,8,some (.pointer none),false⟩),
 (67,⟨.tuple #[9,22],1,0,some (.tuple #[.string ⟨#[]⟩,.slice none 0 0]),false⟩),
 (72,⟨.tuple #[53,41],1,0,some (.tuple #[.agg #[.int .i64 0,.int .i64 0,.string ⟨#[]⟩],.int .i64 0]),false⟩),
 (75,⟨.tuple #[36,41],1,0,some (.tuple #[.slice none 0 0,.int .i64 0]),false⟩),
 (90,⟨.tuple #[3,3],1,0,some (.tuple #[.int .i64 0,.int .i64 0]),false⟩),
 (106,⟨.slice 9,1,24,some (.slice none 0 0),false⟩),
 (109,⟨.tuple #[9,4],1,0,some (.tuple #[.string ⟨#[]⟩,.bool false]),false⟩),
 (111,⟨.tuple #[2,3],1,0,some (.tuple #[.int .i64 0,.int .i64 0]),false⟩),
 (115,⟨.slice 4,1,24,some (.slice none 0 0),false⟩),
 (116,⟨.slice 5,1,24,some (.slice none 0 0),false⟩),
 (136,⟨.tuple #[4,4,41],1,0,some (.tuple #[.bool false,.bool false,.int .i64 0]),false⟩),
 (140,⟨.tuple #[4,4],1,0,some (.tuple #[.bool false,.bool false]),false⟩),
 (142,⟨.array 2 53,6,64,some (.agg #[.int .i64 0,.int .i64 0,.string ⟨#[]⟩,.int .i64 0,.int .i64 0,.string ⟨#[]⟩]),false⟩),
 (144,⟨.tuple #[53,41,4],1,0,some (.tuple #[.agg #[.int .i64 0,.int .i64 0,.string ⟨#[]⟩],.int .i64 0,.bool false]),false⟩),
 (149,⟨.tuple #[2,4],1,0,some (.tuple #[.int .i64 0,.bool false]),false⟩),
 (152,⟨.tuple #[53,4],1,0,some (.tuple #[.agg #[.int .i64 0,.int .i64 0,.string ⟨#[]⟩],.bool false]),false⟩),
 (159,⟨.int .u64,1,8,some (.int .u64 0),false⟩),
 (160,⟨.tuple #[2,41],1,0,some (.tuple #[.int .i64 0,.int .i64 0]),false⟩),
 (162,⟨.int .u64,1,8,some (.int .u64 0),false⟩),
 (163,⟨.array 20 5,20,20,some (.agg #[.int .u8 0,.int .u8 0,.int .u8 0,.int .u8 0,.int .u8 0,.int .u8 0,.int .u8 0,.int .u8 0,.int .u8 0,.int .u8 0,.int .u8 0,.int .u8 0,.int .u8 0,.int .u8 0,.int .u8 0,.int .u8 0,.int .u8 0,.int .u8 0,.int .u8 0,.int .u8 0]),false⟩),
 (167,⟨.pointer 169,1,8,some (.pointer none),false⟩),
 (168,⟨.struct #[⟨ "addr",167,0,false,"","strings",0⟩,⟨ "buf",116,1,false,"","strings",8⟩],2,32,some (.agg #[.pointer none,.slice none 0 0]),false⟩),
 (169,⟨.struct #[⟨ "addr",167,0,false,"","strings",0⟩,⟨ "buf",116,1,false,"","strings",8⟩],2,32,some (.agg #[.pointer none,.slice none 0 0]),false⟩),
 (173,⟨.tuple #[3,172],1,0,some (.tuple #[.int .i64 0,.nilIface]),false⟩),
 (175,⟨.tuple #[21,3],1,0,some (.tuple #[.int .i32 0,.int .i64 0]),false⟩),
 (179,⟨.int .u32,1,4,some (.int .u32 0),false⟩),
 (180,⟨.tuple #[179,179],1,0,some (.tuple #[.int .u32 0,.int .u32 0]),false⟩),
 (182,⟨.pointer 5,1,8,some (.pointer none),false⟩),
 (183,⟨.unsafePointer,1,8,some (.pointer none),false⟩),
 (186,⟨.array 256 5,256,256,some (.agg #[.int .u8 0,.int .u8 0,.int .u8 0,.int .u8 0,.int .u8 0,.int .u8 0,.int .u8 0,.int .u8 0,.int .u8 0,.int .u8 0,.int .u8 0,.int .u8 0,.int .u8 0,.int .u8 0,.int .u8 0,.int .u8 0,.int .u8 0,.int .u8 0,.int .u8 0,.int .u8 0,.int .u8 0,.int .u8 0,.int .u8 0,.int .u8 0,.int .u8 0,.int .u8 0,.int .u8 0,.int .u8 0,.int .u8 0,.int .u8 0,.int .u8 0,.int .u8 0,.int .u8 0,.int .u8 0,.int .u8 0,.int .u8 0,.int .u8 0,.int .u8 0,.int .u8 0,.int .u8 0,.int .u8 0,.int .u8 0,.int .u8 0,.int .u8 0,.int .u8 0,.int .u8 0,.int .u8 0,.int .u8 0,.int .u8 0,.int .u8 0,.int .u8 0,.int .u8 0,.int .u8 0,.int .u8 0,.int .u8 0,.int .u8 0,.int .u8 0,.int .u8 0,.int .u8 0,.int .u8 0,.int .u8 0,.int .u8 0,.int .u8 0,.int .u8 0,.int .u8 0,.int .u8 0,.int .u8 0,.int .u8 0,.int .u8 0,.int .u8 0,.int .u8 0,.int .u8 0,.int .u8 0,.int .u8 0,.int .u8 0,.int .u8 0,.int .u8 0,.int .u8 0,.int .u8 0,.int .u8 0,.int .u8 0,.int .u8 0,.int .u8 0,.int .u8 0,.int .u8 0,.int .u8 0,.int .u8 0,.int .u8 0,.int .u8 0,.int .u8 0,.int .u8 0,.int .u8 0,.int .u8 0,.int .u8 0,.int .u8 0,.int .u8 0,.int .u8 0,.int .u8 0,.int .u8 0,.int .u8 0,.int .u8 0,.int .u8 0,.int .u8 0,.int .u8 0,.int .u8 0,.int .u8 0,.int .u8 0,.int .u8 0,.int .u8 0,.int .u8 0,.int .u8 0,.int .u8 0,.int .u8 0,.int .u8 0,.int .u8 0,.int .u8 0,.int .u8 0,.int .u8 0,.int .u8 0,.int .u8 0,.int .u8 0,.int .u8 0,.int .u8 0,.int .u8 0,.int .u8 0,.int .u8 0,.int .u8 0,.int .u8 0,.int .u8 0,.int .u8 0,.int .u8 0,.int .u8 0,.int .u8 0,.int .u8 0,.int .u8 0,.int .u8 0,.int .u8 0,.int .u8 0,.int .u8 0,.int .u8 0,.int .u8 0,.int .u8 0,.int .u8 0,.int .u8 0,.int .u8 0,.int .u8 0,.int .u8 0,.int .u8 0,.int .u8 0,.int .u8 0,.int .u8 0,.int .u8 0,.int .u8 0,.int .u8 0,.int .u8 0,.int .u8 0,.int .u8 0,.int .u8 0,.int .u8 0,.int .u8 0,.int .u8 0,.int .u8 0,.int .u8 0,.int .u8 0,.int .u8 0,.int .u8 0,.int .u8 0,.int .u8 0,.int .u8 0,.int .u8 0,.int .u8 0,.int .u8 0,.int .u8 0,.int .u8 0,.int .u8 0,.int .u8 0,.int .u8 0,.int .u8 0,.int .u8 0,.int .u8 0,.int .u8 0,.int .u8 0,.int .u8 0,.int .u8 0,.int .u8 0,.int .u8 0,.int .u8 0,.int .u8 0,.int .u8 0,.int .u8 0,.int .u8 0,.int .u8 0,.int .u8 0,.int .u8 0,.int .u8 0,.int .u8 0,.int .u8 0,.int .u8 0,.int .u8 0,.int .u8 0,.int .u8 0,.int .u8 0,.int .u8 0,.int .u8 0,.int .u8 0,.int .u8 0,.int .u8 0,.int .u8 0,.int .u8 0,.int .u8 0,.int .u8 0,.int .u8 0,.int .u8 0,.int .u8 0,.int .u8 0,.int .u8 0,.int .u8 0,.int .u8 0,.int .u8 0,.int .u8 0,.int .u8 0,.int .u8 0,.int .u8 0,.int .u8 0,.int .u8 0,.int .u8 0,.int .u8 0,.int .u8 0,.int .u8 0,.int .u8 0,.int .u8 0,.int .u8 0,.int .u8 0,.int .u8 0,.int .u8 0,.int .u8 0,.int .u8 0,.int .u8 0,.int .u8 0,.int .u8 0,.int .u8 0,.int .u8 0,.int .u8 0,.int .u8 0,.int .u8 0,.int .u8 0,.int .u8 0,.int .u8 0,.int .u8 0,.int .u8 0,.int .u8 0,.int .u8 0,.int .u8 0,.int .u8 0,.int .u8 0,.int .u8 0]),false⟩),
 (189,⟨.array 16 188,32,32,some (.agg #[.int .u8 0,.int .u8 0,.int .u8 0,.int .u8 0,.int .u8 0,.int .u8 0,.int .u8 0,.int .u8 0,.int .u8 0,.int .u8 0,.int .u8 0,.int .u8 0,.int .u8 0,.int .u8 0,.int .u8 0,.int .u8 0,.int .u8 0,.int .u8 0,.int .u8 0,.int .u8 0,.int .u8 0,.int .u8 0,.int .u8 0,.int .u8 0,.int .u8 0,.int .u8 0,.int .u8 0,.int .u8 0,.int .u8 0,.int .u8 0,.int .u8 0,.int .u8 0]),false⟩),
 (192,⟨.array 0 16,0,0,some (.agg #[]),false⟩),
 (196,⟨.int .u8,1,1,some (.int .u8 0),false⟩),
 (197,⟨.int .u8,1,1,some (.int .u8 0),false⟩),
 (199,⟨.int .i32,1,4,some (.int .i32 0),false⟩),
 (200,⟨.int .i32,1,4,some (.int .i32 0),false⟩),
 (201,⟨.struct #[⟨ "Size_",12,0,false,"","",0⟩,⟨ "PtrBytes",12,1,false,"","",8⟩,⟨ "Hash",179,2,false,"","",16⟩,⟨ "TFlag",196,3,false,"","",20⟩,⟨ "Align_",5,4,false,"","",21⟩,⟨ "FieldAlign_",5,5,false,"","",22⟩,⟨ "Kind_",197,6,false,"","",23⟩,⟨ "Equal",198,7,false,"","",24⟩,⟨ "GCData",182,8,false,"","",32⟩,⟨ "Str",199,9,false,"","",40⟩,⟨ "PtrToThis",200,10,false,"","",44⟩],11,48,some (.agg #[.int .u64 0,.int .u64 0,.int .u32 0,.int .u8 0,.int .u8 0,.int .u8 0,.int .u8 0,.nilFunc,.pointer none,.int .i32 0,.int .i32 0]),false⟩),
 (202,⟨.struct #[⟨ "Size_",12,0,false,"","",0⟩,⟨ "PtrBytes",12,1,false,"","",8⟩,⟨ "Hash",179,2,false,"","",16⟩,⟨ "TFlag",196,3,false,"","",20⟩,⟨ "Align_",5,4,false,"","",21⟩,⟨ "FieldAlign_",5,5,false,"","",22⟩,⟨ "Kind_",197,6,false,"","",23⟩,⟨ "Equal",198,7,false,"","",24⟩,⟨ "GCData",182,8,false,"","",32⟩,⟨ "Str",199,9,false,"","",40⟩,⟨ "PtrToThis",200,10,false,"","",44⟩],11,48,some (.agg #[.int .u64 0,.int .u64 0,.int .u32 0,.int .u8 0,.int .u8 0,.int .u8 0,.int .u8 0,.nilFunc,.pointer none,.int .i32 0,.int .i32 0]),false⟩)],[],false,[30,32]⟩
theorem tok : TOK Tryz.prog tt := by
 unfold tt
 show TOKl _ _
 refine ⟨tiOK_of (by kernel_rfl) (by kernel_rfl) (fun h => by cases h),?_⟩
 refine ⟨tiOK_of (by kernel_rfl) (by kernel_rfl) (fun h => by cases h),?_⟩
 refine ⟨tiOK_of (by kernel_rfl) (by kernel_rfl) (fun h => by cases h),?_⟩
 refine ⟨tiOK_of (by kernel_rfl) (by kernel_rfl) (fun h => by cases h),?_⟩
 refine ⟨tiOK_of (by kernel_rfl) (by kernel_rfl) (fun h => by cases h),?_⟩
 refine ⟨tiOK_of (by kernel_rfl) (by kernel_rfl) (fun h => by cases h),?_⟩
 refine ⟨tiOK_of (by kernel_rfl) (by kernel_rfl) (fun h => by cases h),?_⟩
 refine ⟨tiOK_of (by kernel_rfl) (by kernel_rfl) (fun h => by cases h),?_⟩
 refine ⟨tiOK_of (by kernel_rfl) (by kernel_rfl) (fun h => by cases h),?_⟩
 refine ⟨tiOK_of (by kernel_rfl) (by kernel_rfl) (fun h => by cases h),?_⟩
 refine ⟨tiOK_of (by kernel_rfl) (by kernel_rfl) (fun h => by cases h),?_⟩
 refine ⟨tiOK_of (by kernel_rfl) (by kernel_rfl) (fun h => by cases h),?_⟩
 refine ⟨tiOK_of (by kernel_rfl) (by kernel_rfl) (fun h => by cases h),?_⟩
 refine ⟨tiOK_of (by kernel_rfl) (by kernel_rfl) (fun h => by cases h),?_⟩
 refine ⟨tiOK_of (by kernel_rfl) (by kernel_rfl) (fun h => by cases h),?_⟩
 refine ⟨tiOK_of (by kernel_rfl) (by kernel_rfl) (fun h => by cases h),?_⟩
 refine ⟨tiOK_of (by kernel_rfl) (by kernel_rfl) (fun _ => ⟨by kernel_rfl,by kernel_rfl⟩),?_⟩
 refine ⟨tiOK_of (by kernel_rfl) (by kernel_rfl) (fun _ => ⟨by kernel_rfl,by kernel_rfl⟩),?_⟩
 refine ⟨tiOK_of (by kernel_rfl) (by kernel_rfl) (fun h => by cases h),?_⟩
 refine ⟨tiOK_of (by kernel_rfl) (by kernel_rfl) (fun h => by cases h),?_⟩
 refine ⟨tiOK_of (by kernel_rfl) (by kernel_rfl) (fun h => by cases h),?_⟩
 refine ⟨tiOK_of (by kernel_rfl) (by kernel_rfl) (fun h => by cases h),?_⟩
 refine ⟨tiOK_of (by kernel_rfl) (by kernel_rfl) (fun h => by cases h),?_⟩
 refine ⟨tiOK_of (by kernel_rfl) (by kernel_rfl) (fun h => by cases h),?_⟩
 refine ⟨tiOK_of (by kernel_rfl) (by kernel_rfl) (fun h => by cases h),?_⟩
 refine ⟨tiOK_of (by kernel_rfl) (by kernel_rfl) (fun h => by cases h),?_⟩
 refine ⟨tiOK_of (by kernel_rfl) (by kernel_rfl) (fun h => by cases h),?_⟩
 refine ⟨tiOK_of (by kernel_rfl) (by kernel_rfl) (fun h => by cases h),?_⟩
 refine ⟨tiOK_of (by kernel_rfl) (by kernel_rfl) (fun h => by cases h),?_⟩
 refine ⟨tiOK_of (by kernel_rfl) (by kernel_rfl) (fun _ => ⟨by kernel_rfl,by kernel_rfl⟩),?_⟩
 refine ⟨tiOK_of (by kernel_rfl) (by kernel_rfl) (fun _ => ⟨by kernel_rfl,by kernel_rfl⟩),?_⟩
 refine ⟨tiOK_of (by kernel_rfl) (by kernel_rfl) (fun h => by cases h),?_⟩
 refine ⟨tiOK_of (by kernel_rfl) (by kernel_rfl) (fun h => by cases h),?_⟩
 refine ⟨tiOK_of (by kernel_rfl) (by kernel_rfl) (fun h => by cases h),?_⟩
 refine ⟨tiOK_of (by kernel_rfl) (by kernel_rfl) (fun h => by cases h),?_⟩
 refine ⟨tiOK_of (by kernel_rfl) (by kernel_rfl) (fun h => by cases h),?_⟩
 refine ⟨tiOK_of (by kernel_rfl) (by kernel_rfl) (fun h => by cases h),?_⟩
 refine ⟨tiOK_of (by kernel_rfl) (by kernel_rfl) (fun h => by cases h),?_⟩
 refine ⟨tiOK_of (by kernel_rfl) (by kernel_rfl) (fun h => by cases h),?_⟩
 refine ⟨tiOK_of (by kernel_rfl) (by kernel_rfl) (fun h => by cases h),?_⟩
 refine ⟨tiOK_of (by kernel_rfl) (by kernel_rfl) (fun h => by cases h),?_⟩
 refine ⟨tiOK_of (by kernel_rfl) (by kernel_rfl) (fun h => by cases h),?_⟩
 refine ⟨tiOK_of (by kernel_rfl) (by kernel_rfl) (fun h => by cases h),?_⟩
 refine ⟨tiOK_of (by kernel_rfl) (by kernel_rfl) (fun h => by cases h),?_⟩
 refine ⟨tiOK_of (by kernel_rfl) (by kernel_rfl) (fun h => by cases h),?_⟩
 refine ⟨tiOK_of (by kernel_rfl) (by kernel_rfl) (fun h => by cases h),?_⟩
 refine ⟨tiOK_of (by kernel_rfl) (by kernel_rfl) (fun h => by cases h),?_⟩
 refine ⟨tiOK_of (by kernel_rfl) (by kernel_rfl) (fun h => by cases h),?_⟩
 refine ⟨tiOK_of (by kernel_rfl) (by kernel_rfl) (fun h => by cases h),?_⟩
 refine ⟨tiOK_of (by kernel_rfl) (by kernel_rfl) (fun h => by cases h),?_⟩
 refine ⟨tiOK_of (by kernel_rfl) (by kernel_rfl) (fun h => by cases h),?_⟩
 refine ⟨tiOK_of (by kernel_rfl) (by kernel_rfl) (fun h => by cases h),?_⟩
 refine ⟨tiOK_of (by kernel_rfl) (by kernel_rfl) (fun h => by cases h),?_⟩
 refine ⟨tiOK_of (by kernel_rfl) (by kernel_rfl) (fun h => by cases h),?_⟩
 refine ⟨tiOK_of (by kernel_rfl) (by kernel_rfl) (fun h => by cases h),?_⟩
 refine ⟨tiOK_of (by kernel_rfl) (by kernel_rfl) (fun h => by cases h),?_⟩
 refine ⟨tiOK_of (by kernel_rfl) (by kernel_rfl) (fun h => by cases h),?_⟩
 refine ⟨tiOK_of (by kernel_rfl) (by kernel_rfl) (fun h => by cases h),?_⟩
 refine ⟨tiOK_of (by kernel_rfl) (by kernel_rfl) (fun h => by cases h),?_⟩
 refine ⟨tiOK_of (by kernel_rfl) (by kernel_rfl) (fun h => by cases h),?_⟩
 refine ⟨tiOK_of (by kernel_rfl) (by kernel_rfl) (fun h => by cases h),?_⟩
 refine ⟨tiOK_of (by kernel_rfl) (by kernel_rfl) (fun h => by cases h),?_⟩
 refine ⟨tiOK_of (by kernel_rfl) (by kernel_rfl) (fun h => by cases h),?_⟩
 refine ⟨tiOK_of (by kernel_rfl) (by kernel_rfl) (fun h => by cases h),?_⟩
 refine ⟨tiOK_of (by kernel_rfl) (by kernel_rfl) (fun h => by cases h),?_⟩
 refine ⟨tiOK_of (by kernel_rfl) (by kernel_rfl) (fun h => by cases h),?_⟩
 refine ⟨tiOK_of (by kernel_rfl) (by kernel_rfl) (fun h => by cases h),?_⟩
 refine ⟨tiOK_of (by kernel_rfl) (by kernel_rfl) (fun h => by cases h),?_⟩
 refine ⟨tiOK_of (by kernel_rfl) (by kernel_rfl) (fun h => by cases h),?_⟩
 refine ⟨tiOK_of (by kernel_rfl) (by kernel_rfl) (fun h => by cases h),?_⟩
 refine ⟨tiOK_of (by kernel_rfl) (by kernel_rfl) (fun h => by cases h),?_⟩
 refine ⟨tiOK_of (by kernel_rfl) (by kernel_rfl) (fun h => by cases h),?_⟩
 refine ⟨tiOK_of (by kernel_rfl) (by kernel_rfl) (fun h => by cases h),?_⟩
 trivial
end Go.Proofs.YtodjimecekaaeaaGreatDoor
