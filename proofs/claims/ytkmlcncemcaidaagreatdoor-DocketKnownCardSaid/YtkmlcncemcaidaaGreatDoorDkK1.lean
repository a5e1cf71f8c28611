/-
  CHECKPOINTS of DocketKnown: calls, each computed by itself.
-/
import Derived.Test.YtkmlcncemcaidaaGreatDoorDkK0
namespace Go.Proofs.YtkmlcncemcaidaaGreatDoor
open Go Go.Ev
set_option maxRecDepth 100000
def ck5k : LH := [(0, .cells 430 (strBytes 32 4088518913827626597285369242834745541130067489702375943734699084159095931136) 34 true),
  (1, .cells 431 (strBytes 64 315684040783403026461198565492879320519372303033823910828724750665742568755751545437592878574175936176031276695822391845783248645128493468529036736594176) 66 true),
  (2, .cells 537 [.int .u64 (.ofNat 1), .int .u64 (.ofNat 10), .int .u64 (.ofNat 100), .int .u64 (.ofNat 1000), .int .u64 (.ofNat 10000), .int .u64 (.ofNat 100000), .int .u64 (.ofNat 1000000), .int .u64 (.ofNat 10000000), .int .u64 (.ofNat 100000000), .int .u64 (.ofNat 1000000000), .int .u64 (.ofNat 10000000000), .int .u64 (.ofNat 100000000000), .int .u64 (.ofNat 1000000000000), .int .u64 (.ofNat 10000000000000), .int .u64 (.ofNat 100000000000000), .int .u64 (.ofNat 1000000000000000), .int .u64 (.ofNat 10000000000000000), .int .u64 (.ofNat 100000000000000000), .int .u64 (.ofNat 1000000000000000000), .int .u64 (.ofNat 10000000000000000000)] 22 true),
  (4100, .cells 111 [.ptr 4097 0, .str 2 12660, Iz 60000, Iz 0, .ptr 4109 0, .bool false] 0 true),
  (4110, .mp [(Iz 1, .ptr 4905 0), (Iz 2, .ptr 13998 0)] [0, 1] 2),
  (4112, .cells 55 [.ptr 4100 0, Iz 2, .map 4110, .ptr 4111 0, Iz 3, .bool false, .nilmap] 0 true),
  (4199, .cells 174 [Iz 7, .str 0 0, Bz 0, Bz 0, .int .u64 (.ofNat 0), .str 0 0, .nilslice, .nilslice, .nilslice] 0 false),
  (4208, .cells 174 [Iz 7, .str 0 0, Bz 0, Bz 0, .int .u64 (.ofNat 0), .str 0 0, .nilslice, .nilslice, .nilslice] 0 false),
  (4210, .cells 179 [.str 1 97, .nilslice, .sliceU 4199 0 1 9, .str 1 98, .nilslice, .sliceU 4208 0 1 9] 0 false),
  (4839, .cells 348 [.nilslice, Iz 7, Iz 0, Iz 1, Iz 0] 0 false),
  (4846, .cells 348 [.nilslice, Iz 7, Iz 0, Iz 1, Iz 0] 0 false),
  (4848, .cells 187 [.nilslice, Iz 0, .sliceU 4839 0 1 5, .nilslice, Iz 0, .sliceU 4846 0 1 5] 0 false),
  (4849, .cells 354 [.nilslice, Iz 0, .sliceU 4848 0 2 3, Iz 100, .nilslice, .nilslice, .sliceU 4855 0 2 5, .int .i64 (.negSucc 0), Iz 0, .int .i64 (.negSucc 0)] 0 true),
  (4855, .cells 357 [.nilslice, Iz 0, .nilslice, Iz 0, Iz 0, .nilslice, Iz 0, .nilslice, Iz 0, Iz 0] 0 false),
  (4865, .cells 348 [.nilslice, Iz 7, Iz 0, Iz 1, Iz 0] 0 false),
  (4872, .cells 348 [.nilslice, Iz 7, Iz 0, Iz 1, Iz 0] 0 false),
  (4874, .cells 187 [.nilslice, Iz 0, .sliceU 4865 0 1 5, .nilslice, Iz 0, .sliceU 4872 0 1 5] 0 false),
  (4875, .mp [] [] 0),
  (4902, .cells 354 [.nilslice, Iz 0, .sliceU 4848 0 2 3, Iz 100, .nilslice, .nilslice, .sliceU 4904 0 2 5, .int .i64 (.negSucc 0), Iz 0, .int .i64 (.negSucc 0)] 0 true),
  (4904, .cells 357 [.nilslice, Iz 1, .nilslice, Iz 1, Iz 0, .nilslice, Iz 0, .nilslice, Iz 0, Iz 0] 0 false),
  (13292, .cells 174 [Iz 7, .str 0 0, Bz 0, Bz 0, .int .u64 (.ofNat 0), .str 0 0, .nilslice, .nilslice, .nilslice] 0 false),
  (13301, .cells 174 [Iz 7, .str 0 0, Bz 0, Bz 0, .int .u64 (.ofNat 0), .str 0 0, .nilslice, .nilslice, .nilslice] 0 false),
  (13303, .cells 179 [.str 1 97, .nilslice, .sliceU 13292 0 1 9, .str 1 98, .nilslice, .sliceU 13301 0 1 9] 0 false),
  (13932, .cells 348 [.nilslice, Iz 7, Iz 0, Iz 1, Iz 0] 0 false),
  (13939, .cells 348 [.nilslice, Iz 7, Iz 0, Iz 1, Iz 0] 0 false),
  (13941, .cells 187 [.nilslice, Iz 0, .sliceU 13932 0 1 5, .nilslice, Iz 0, .sliceU 13939 0 1 5] 0 false),
  (13942, .cells 354 [.nilslice, Iz 0, .sliceU 13941 0 2 3, Iz 100, .nilslice, .nilslice, .sliceU 13948 0 2 5, .int .i64 (.negSucc 0), Iz 0, .int .i64 (.negSucc 0)] 0 true),
  (13948, .cells 357 [.nilslice, Iz 0, .nilslice, Iz 0, Iz 0, .nilslice, Iz 0, .nilslice, Iz 0, Iz 0] 0 false),
  (13958, .cells 348 [.nilslice, Iz 7, Iz 0, Iz 1, Iz 0] 0 false),
  (13965, .cells 348 [.nilslice, Iz 7, Iz 0, Iz 1, Iz 0] 0 false),
  (13967, .cells 187 [.nilslice, Iz 0, .sliceU 13958 0 1 5, .nilslice, Iz 0, .sliceU 13965 0 1 5] 0 false),
  (13968, .mp [] [] 0),
  (13969, .cells 204 [.nilslice, Iz 0, .sliceU 13967 0 2 3, Iz 100, Iz 10, .sliceU 22450 0 2 8, .map 13968, .slice 13970 0 2 2, .ptr 22453 0, Iz 0, Iz 0, Iz 1, Iz 0, Iz 0, Iz 0, .nilslice, .bool true] 0 true),
  (13970, .cells 70 [.sliceU 22434 0 1 1, .nilslice] 0 true),
  (13995, .cells 354 [.nilslice, Iz 0, .sliceU 13941 0 2 3, Iz 100, .nilslice, .nilslice, .sliceU 13997 0 2 5, .int .i64 (.negSucc 0), Iz 0, .int .i64 (.negSucc 0)] 0 true),
  (13997, .cells 357 [.nilslice, Iz 1, .nilslice, Iz 1, Iz 0, .nilslice, Iz 0, .nilslice, Iz 0, Iz 0] 0 false),
  (13998, .cells 107 [Iz 2, Iz 0, Iz 0, Iz 10, Iz 100, Iz 1, Iz 0, Iz 0, .str 37 62228021012443361616823398888568113041575052876842322236365300642395623339188598244272244, .nilslice, .nilslice, .sliceU 13303 0 2 3, .ptr 13969 0, Iz 0, Iz 0, Iz 0, .nilslice] 0 true),
  (22294, .cells 5 (strBytes 122 27133859465353073043556877486114131584092476551085527103847918640192048366279259376798415196640001874917402555921979667747637301083857233180895753337815751278220526054523710824910470209469817454363374679477800977920264034063571837091250831065045835007277429670031856891051428910163249145577472) 0 false),
  (22347, .cells 3 [Iz 1, Iz 0] 0 true),
  (22353, .cells 3 [Iz 0] 0 false),
  (22385, .cells 3 [Iz 1, Iz 2] 0 false),
  (22428, .cells 3 [Iz 1, Iz 0] 0 true),
  (22434, .cells 3 [Iz 0] 0 false),
  (22450, .cells 209 [.ptr 13942 0, Iz 1, Iz 0, Iz 0, Iz 0, Iz 0, Iz 0, .slice 22428 0 2 2, .ptr 13995 0, Iz 2, Iz 0, Iz 1, Iz 0, Iz 0, Iz 0, .nilslice] 0 false),
  (22453, .cells 354 [.nilslice, Iz 0, .sliceU 13941 0 2 3, Iz 100, .nilslice, .nilslice, .sliceU 22455 0 2 5, .int .i64 (.negSucc 0), Iz 0, .int .i64 (.negSucc 0)] 0 true),
  (22455, .cells 357 [.nilslice, Iz 1, .nilslice, Iz 1, Iz 0, .nilslice, Iz 0, .nilslice, Iz 0, Iz 0] 0 false)]
def ck5a : LH := [(4096, .mp [(.str 8 3471826091003228532, .agg [.sliceU 22294 0 122 1, Iz 122, .bool true])] [0] 1),
  (4097, .cells 83 [Iz 2097152, .map 4096, .int .i64 (.negSucc 0), Iz 4] 0 true),
  (4109, .cells 230 [.ptr 4097 0, .str 8 3471826091003228532, Iz 20000, Iz 2, Iz 122, .bool false] 0 true),
  (4111, .cells 115 [.bool true, .sliceU 22385 0 2 1] 0 true),
  (4876, .cells 204 [.nilslice, Iz 0, .sliceU 4874 0 2 3, Iz 100, Iz 10, .sliceU 22369 0 2 8, .map 4875, .slice 4877 0 2 2, .ptr 22372 0, Iz 0, Iz 0, Iz 1, Iz 0, Iz 0, Iz 0, .nilslice, .bool true] 0 true),
  (4877, .cells 70 [.sliceU 22353 0 1 1, .nilslice] 0 true),
  (4905, .cells 107 [Iz 1, Iz 0, Iz 0, Iz 10, Iz 100, Iz 1, Iz 0, Iz 0, .str 37 62228021012443361616823398888568113041575052876842322236365300642395623339188598244272244, .nilslice, .nilslice, .sliceU 4210 0 2 3, .ptr 4876 0, Iz 0, Iz 0, Iz 0, .nilslice] 0 true),
  (22369, .cells 209 [.ptr 4849 0, Iz 1, Iz 0, Iz 0, Iz 0, Iz 0, Iz 0, .slice 22347 0 2 2, .ptr 4902 0, Iz 2, Iz 0, Iz 1, Iz 0, Iz 0, Iz 0, .nilslice] 0 false),
  (22372, .cells 354 [.nilslice, Iz 0, .sliceU 4848 0 2 3, Iz 100, .nilslice, .nilslice, .sliceU 22374 0 2 5, .int .i64 (.negSucc 0), Iz 0, .int .i64 (.negSucc 0)] 0 true),
  (22374, .cells 357 [.nilslice, Iz 1, .nilslice, Iz 1, Iz 0, .nilslice, Iz 0, .nilslice, Iz 0, Iz 0] 0 false)]
def ck5b : LH := [(4096, .mp [(.str 8 3471826091003228532, .agg [.sliceU 27528 0 149 1, Iz 149, .bool true])] [0] 1),
  (4097, .cells 83 [Iz 2097152, .map 4096, .int .i64 (.negSucc 0), Iz 6] 0 true),
  (4109, .cells 230 [.ptr 4097 0, .str 8 3471826091003228532, Iz 20000, Iz 3, Iz 149, .bool false] 0 true),
  (4111, .cells 115 [.bool true, .sliceU 27534 0 1 1] 0 true),
  (4876, .cells 204 [.nilslice, Iz 0, .sliceU 4874 0 2 3, Iz 100, Iz 10, .nilslice, .nilmap, .slice 4877 0 2 2, .nilptr, Iz 0, Iz 1, Iz 2, Iz 1, Iz 0, Iz 0, .nilslice, .bool true] 0 true),
  (4877, .cells 70 [.sliceU 22353 0 0 1, .sliceU 22513 0 0 1] 0 true),
  (4905, .cells 107 [Iz 1, Iz 1, Iz 0, Iz 10, Iz 100, Iz 2, Iz 1, Iz 0, .str 37 62228021012443361616823398888568113041575052876842322236365300642395623339188598244272244, .nilslice, .nilslice, .sliceU 4210 0 2 3, .nilptr, Iz 1, Iz 0, Iz 0, .nilslice] 0 true),
  (22372, .cells 354 [.nilslice, Iz 0, .sliceU 4848 0 2 3, Iz 100, .nilslice, .nilslice, .sliceU 22374 0 2 5, .int .i64 (.negSucc 0), Iz 1, .int .i64 (.negSucc 0)] 0 true),
  (22374, .cells 357 [.nilslice, Iz 1, .nilslice, Iz 1, Iz 0, .nilslice, Iz 1, .nilslice, Iz 1, Iz 0] 0 false),
  (22513, .cells 3 [Iz 1] 0 false),
  (27528, .cells 5 (strBytes 149 61546895602235770494158927853765261337788357621370466538288734027291824673289308171040193682016026629941949852893355402595898987599612377765904993340014112874110229176390510027577271763618684378287927304473933456889765874408868612137356573410929463979653528668325004822756517099585942335367599129118194678325749202813541095687325516389994980153822181249253376) 0 false),
  (27534, .cells 3 [Iz 2] 0 false)]
def ck5 : Ck := ⟨[.ptr 4112 0, Iz 5], 22462, ck5k ++ ck5a, .tup [.agg [Iz 1, Iz 1, .bool true], Iz 0], 27535, ck5k ++ ck5b⟩
noncomputable def tb5 : List (Nat × List Ck) := [(10, [ck0]), (5, [ck1, ck2]), (6, [ck3, ck4])]
theorem tb5_ok : CkRs Tryz.prog tb5 := ⟨⟨fk10, (ck_cons ck0r ck_nil)⟩, ⟨⟨fk5, (ck_cons ck1r (ck_cons ck2r ck_nil))⟩, ⟨⟨fk6, (ck_cons ck3r (ck_cons ck4r ck_nil))⟩, trivial⟩⟩⟩
noncomputable def ov5 : Nat → Option (List AV → H → R) := ovC ovT tb5
theorem ov5_ok : OvOK Tryz.prog ov5 := ovC_ok (P := Tryz.prog) (base := ovT) (l := tb5) ov_ok tb5_ok
theorem ck5o : ckOk (evCall Tryz.prog hint ov5 100000 200 6) ck5 = true := by kernel_rfl
theorem ck5r : CkR Tryz.prog 6 ck5 := ck_call Tryz.checked.mixed ov5_ok ck5o
theorem fk8 : fk Tryz.prog 8 = 0 := by kernel_rfl
def ck6k : LH := [(0, .cells 430 (strBytes 32 4088518913827626597285369242834745541130067489702375943734699084159095931136) 34 true),
  (1, .cells 431 (strBytes 64 315684040783403026461198565492879320519372303033823910828724750665742568755751545437592878574175936176031276695822391845783248645128493468529036736594176) 66 true),
  (2, .cells 537 [.int .u64 (.ofNat 1), .int .u64 (.ofNat 10), .int .u64 (.ofNat 100), .int .u64 (.ofNat 1000), .int .u64 (.ofNat 10000), .int .u64 (.ofNat 100000), .int .u64 (.ofNat 1000000), .int .u64 (.ofNat 10000000), .int .u64 (.ofNat 100000000), .int .u64 (.ofNat 1000000000), .int .u64 (.ofNat 10000000000), .int .u64 (.ofNat 100000000000), .int .u64 (.ofNat 1000000000000), .int .u64 (.ofNat 10000000000000), .int .u64 (.ofNat 100000000000000), .int .u64 (.ofNat 1000000000000000), .int .u64 (.ofNat 10000000000000000), .int .u64 (.ofNat 100000000000000000), .int .u64 (.ofNat 1000000000000000000), .int .u64 (.ofNat 10000000000000000000)] 22 true),
  (4100, .cells 111 [.ptr 4097 0, .str 2 12660, Iz 60000, Iz 0, .ptr 4109 0, .bool false] 0 true),
  (4110, .mp [(Iz 1, .ptr 4905 0), (Iz 2, .ptr 13998 0)] [0, 1] 2),
  (4112, .cells 55 [.ptr 4100 0, Iz 2, .map 4110, .ptr 4111 0, Iz 3, .bool false, .nilmap] 0 true),
  (4199, .cells 174 [Iz 7, .str 0 0, Bz 0, Bz 0, .int .u64 (.ofNat 0), .str 0 0, .nilslice, .nilslice, .nilslice] 0 false),
  (4208, .cells 174 [Iz 7, .str 0 0, Bz 0, Bz 0, .int .u64 (.ofNat 0), .str 0 0, .nilslice, .nilslice, .nilslice] 0 false),
  (4210, .cells 179 [.str 1 97, .nilslice, .sliceU 4199 0 1 9, .str 1 98, .nilslice, .sliceU 4208 0 1 9] 0 false),
  (4905, .cells 107 [Iz 1, Iz 1, Iz 0, Iz 10, Iz 100, Iz 2, Iz 1, Iz 0, .str 37 62228021012443361616823398888568113041575052876842322236365300642395623339188598244272244, .nilslice, .nilslice, .sliceU 4210 0 2 3, .nilptr, Iz 1, Iz 0, Iz 0, .nilslice] 0 true),
  (13292, .cells 174 [Iz 7, .str 0 0, Bz 0, Bz 0, .int .u64 (.ofNat 0), .str 0 0, .nilslice, .nilslice, .nilslice] 0 false),
  (13301, .cells 174 [Iz 7, .str 0 0, Bz 0, Bz 0, .int .u64 (.ofNat 0), .str 0 0, .nilslice, .nilslice, .nilslice] 0 false),
  (13303, .cells 179 [.str 1 97, .nilslice, .sliceU 13292 0 1 9, .str 1 98, .nilslice, .sliceU 13301 0 1 9] 0 false),
  (13932, .cells 348 [.nilslice, Iz 7, Iz 0, Iz 1, Iz 0] 0 false),
  (13939, .cells 348 [.nilslice, Iz 7, Iz 0, Iz 1, Iz 0] 0 false),
  (13941, .cells 187 [.nilslice, Iz 0, .sliceU 13932 0 1 5, .nilslice, Iz 0, .sliceU 13939 0 1 5] 0 false),
  (13942, .cells 354 [.nilslice, Iz 0, .sliceU 13941 0 2 3, Iz 100, .nilslice, .nilslice, .sliceU 13948 0 2 5, .int .i64 (.negSucc 0), Iz 0, .int .i64 (.negSucc 0)] 0 true),
  (13948, .cells 357 [.nilslice, Iz 0, .nilslice, Iz 0, Iz 0, .nilslice, Iz 0, .nilslice, Iz 0, Iz 0] 0 false),
  (13958, .cells 348 [.nilslice, Iz 7, Iz 0, Iz 1, Iz 0] 0 false),
  (13965, .cells 348 [.nilslice, Iz 7, Iz 0, Iz 1, Iz 0] 0 false),
  (13967, .cells 187 [.nilslice, Iz 0, .sliceU 13958 0 1 5, .nilslice, Iz 0, .sliceU 13965 0 1 5] 0 false),
  (13968, .mp [] [] 0),
  (13969, .cells 204 [.nilslice, Iz 0, .sliceU 13967 0 2 3, Iz 100, Iz 10, .sliceU 22450 0 2 8, .map 13968, .slice 13970 0 2 2, .ptr 22453 0, Iz 0, Iz 0, Iz 1, Iz 0, Iz 0, Iz 0, .nilslice, .bool true] 0 true),
  (13970, .cells 70 [.sliceU 22434 0 1 1, .nilslice] 0 true),
  (13995, .cells 354 [.nilslice, Iz 0, .sliceU 13941 0 2 3, Iz 100, .nilslice, .nilslice, .sliceU 13997 0 2 5, .int .i64 (.negSucc 0), Iz 0, .int .i64 (.negSucc 0)] 0 true),
  (13997, .cells 357 [.nilslice, Iz 1, .nilslice, Iz 1, Iz 0, .nilslice, Iz 0, .nilslice, Iz 0, Iz 0] 0 false),
  (22428, .cells 3 [Iz 1, Iz 0] 0 true),
  (22434, .cells 3 [Iz 0] 0 false),
  (22450, .cells 209 [.ptr 13942 0, Iz 1, Iz 0, Iz 0, Iz 0, Iz 0, Iz 0, .slice 22428 0 2 2, .ptr 13995 0, Iz 2, Iz 0, Iz 1, Iz 0, Iz 0, Iz 0, .nilslice] 0 false),
  (22453, .cells 354 [.nilslice, Iz 0, .sliceU 13941 0 2 3, Iz 100, .nilslice, .nilslice, .sliceU 22455 0 2 5, .int .i64 (.negSucc 0), Iz 0, .int .i64 (.negSucc 0)] 0 true),
  (22455, .cells 357 [.nilslice, Iz 1, .nilslice, Iz 1, Iz 0, .nilslice, Iz 0, .nilslice, Iz 0, Iz 0] 0 false),
  (27528, .cells 5 (strBytes 149 61546895602235770494158927853765261337788357621370466538288734027291824673289308171040193682016026629941949852893355402595898987599612377765904993340014112874110229176390510027577271763618684378287927304473933456889765874408868612137356573410929463979653528668325004822756517099585942335367599129118194678325749202813541095687325516389994980153822181249253376) 0 false),
  (27534, .cells 3 [Iz 2] 0 false)]
def ck6a : LH := [(4096, .mp [(.str 8 3471826091003228532, .agg [.sliceU 27528 0 149 1, Iz 149, .bool true])] [0] 1),
  (4097, .cells 83 [Iz 2097152, .map 4096, .int .i64 (.negSucc 0), Iz 6] 0 true),
  (4109, .cells 230 [.ptr 4097 0, .str 8 3471826091003228532, Iz 20000, Iz 3, Iz 149, .bool false] 0 true),
  (4111, .cells 115 [.bool true, .sliceU 27534 0 1 1] 0 true),
  (13998, .cells 107 [Iz 2, Iz 0, Iz 0, Iz 10, Iz 100, Iz 1, Iz 0, Iz 0, .str 37 62228021012443361616823398888568113041575052876842322236365300642395623339188598244272244, .nilslice, .nilslice, .sliceU 13303 0 2 3, .ptr 13969 0, Iz 0, Iz 0, Iz 0, .nilslice] 0 true)]
def ck6b : LH := [(4096, .mp [(.str 8 3471826091003228532, .agg [.sliceU 31725 0 176 1, Iz 176, .bool true])] [0] 1),
  (4097, .cells 83 [Iz 2097152, .map 4096, .int .i64 (.negSucc 0), Iz 8] 0 true),
  (4109, .cells 230 [.ptr 4097 0, .str 8 3471826091003228532, Iz 20000, Iz 4, Iz 176, .bool false] 0 true),
  (4111, .cells 115 [.bool true, .nilslice] 0 true),
  (13998, .cells 107 [Iz 2, Iz 4, Iz 0, Iz 10, Iz 100, Iz 1, Iz 0, Iz 0, .str 37 62228021012443361616823398888568113041575052876842322236365300642395623339188598244272244, .nilslice, .nilslice, .sliceU 13303 0 2 3, .nilptr, Iz 0, Iz 0, Iz 0, .nilslice] 0 true),
  (31725, .cells 5 (strBytes 176 5544949144627419527993029218677381627940648570520630906591607769809248045293510058649825904141168362722327361808286855077643875804392787259699673169825621454323023603425259634342589869048151061457685636069421020236857621991832168610082787300374668772044331039272559582623060453758797078679965949614997246823650265727667435277701376966695937327852173251719793045301686408266141814189049040401701709847141139082284659443236864) 0 false)]
def ck6 : Ck := ⟨[.ptr 4112 0, Iz 2], 27548, ck6k ++ ck6a, Iz 0, 31731, ck6k ++ ck6b⟩
noncomputable def tb6 : List (Nat × List Ck) := [(10, [ck0]), (5, [ck1, ck2]), (6, [ck3, ck4, ck5])]
theorem tb6_ok : CkRs Tryz.prog tb6 := ⟨⟨fk10, (ck_cons ck0r ck_nil)⟩, ⟨⟨fk5, (ck_cons ck1r (ck_cons ck2r ck_nil))⟩, ⟨⟨fk6, (ck_cons ck3r (ck_cons ck4r (ck_cons ck5r ck_nil)))⟩, trivial⟩⟩⟩
noncomputable def ov6 : Nat → Option (List AV → H → R) := ovC ovT tb6
theorem ov6_ok : OvOK Tryz.prog ov6 := ovC_ok (P := Tryz.prog) (base := ovT) (l := tb6) ov_ok tb6_ok
theorem ck6o : ckOk (evCall Tryz.prog hint ov6 100000 200 8) ck6 = true := by kernel_rfl
theorem ck6r : CkR Tryz.prog 8 ck6 := ck_call Tryz.checked.mixed ov6_ok ck6o
def ck7k : LH := [(0, .cells 430 (strBytes 32 4088518913827626597285369242834745541130067489702375943734699084159095931136) 34 true),
  (1, .cells 431 (strBytes 64 315684040783403026461198565492879320519372303033823910828724750665742568755751545437592878574175936176031276695822391845783248645128493468529036736594176) 66 true),
  (2, .cells 537 [.int .u64 (.ofNat 1), .int .u64 (.ofNat 10), .int .u64 (.ofNat 100), .int .u64 (.ofNat 1000), .int .u64 (.ofNat 10000), .int .u64 (.ofNat 100000), .int .u64 (.ofNat 1000000), .int .u64 (.ofNat 10000000), .int .u64 (.ofNat 100000000), .int .u64 (.ofNat 1000000000), .int .u64 (.ofNat 10000000000), .int .u64 (.ofNat 100000000000), .int .u64 (.ofNat 1000000000000), .int .u64 (.ofNat 10000000000000), .int .u64 (.ofNat 100000000000000), .int .u64 (.ofNat 1000000000000000), .int .u64 (.ofNat 10000000000000000), .int .u64 (.ofNat 100000000000000000), .int .u64 (.ofNat 1000000000000000000), .int .u64 (.ofNat 10000000000000000000)] 22 true),
  (4100, .cells 111 [.ptr 4097 0, .str 2 12660, Iz 60000, Iz 0, .ptr 4109 0, .bool false] 0 true),
  (4111, .cells 115 [.bool true, .nilslice] 0 true),
  (4112, .cells 55 [.ptr 4100 0, Iz 2, .map 4110, .ptr 4111 0, Iz 3, .bool false, .nilmap] 0 true),
  (4199, .cells 174 [Iz 7, .str 0 0, Bz 0, Bz 0, .int .u64 (.ofNat 0), .str 0 0, .nilslice, .nilslice, .nilslice] 0 false),
  (4208, .cells 174 [Iz 7, .str 0 0, Bz 0, Bz 0, .int .u64 (.ofNat 0), .str 0 0, .nilslice, .nilslice, .nilslice] 0 false),
  (4210, .cells 179 [.str 1 97, .nilslice, .sliceU 4199 0 1 9, .str 1 98, .nilslice, .sliceU 4208 0 1 9] 0 false),
  (4905, .cells 107 [Iz 1, Iz 1, Iz 0, Iz 10, Iz 100, Iz 2, Iz 1, Iz 0, .str 37 62228021012443361616823398888568113041575052876842322236365300642395623339188598244272244, .nilslice, .nilslice, .sliceU 4210 0 2 3, .nilptr, Iz 1, Iz 0, Iz 0, .nilslice] 0 true),
  (13292, .cells 174 [Iz 7, .str 0 0, Bz 0, Bz 0, .int .u64 (.ofNat 0), .str 0 0, .nilslice, .nilslice, .nilslice] 0 false),
  (13301, .cells 174 [Iz 7, .str 0 0, Bz 0, Bz 0, .int .u64 (.ofNat 0), .str 0 0, .nilslice, .nilslice, .nilslice] 0 false),
  (13303, .cells 179 [.str 1 97, .nilslice, .sliceU 13292 0 1 9, .str 1 98, .nilslice, .sliceU 13301 0 1 9] 0 false),
  (13998, .cells 107 [Iz 2, Iz 4, Iz 0, Iz 10, Iz 100, Iz 1, Iz 0, Iz 0, .str 37 62228021012443361616823398888568113041575052876842322236365300642395623339188598244272244, .nilslice, .nilslice, .sliceU 13303 0 2 3, .nilptr, Iz 0, Iz 0, Iz 0, .nilslice] 0 true),
  (31725, .cells 5 (strBytes 176 5544949144627419527993029218677381627940648570520630906591607769809248045293510058649825904141168362722327361808286855077643875804392787259699673169825621454323023603425259634342589869048151061457685636069421020236857621991832168610082787300374668772044331039272559582623060453758797078679965949614997246823650265727667435277701376966695937327852173251719793045301686408266141814189049040401701709847141139082284659443236864) 0 false)]
def ck7a : LH := [(4096, .mp [(.str 8 3471826091003228532, .agg [.sliceU 31725 0 176 1, Iz 176, .bool true])] [0] 1),
  (4097, .cells 83 [Iz 2097152, .map 4096, .int .i64 (.negSucc 0), Iz 8] 0 true),
  (4109, .cells 230 [.ptr 4097 0, .str 8 3471826091003228532, Iz 20000, Iz 4, Iz 176, .bool false] 0 true),
  (4110, .mp [(Iz 1, .ptr 4905 0), (Iz 2, .ptr 13998 0)] [0, 1] 2)]
def ck7b : LH := [(4096, .mp [(.str 8 3471826091003228532, .agg [.sliceU 35877 0 193 1, Iz 193, .bool true])] [0] 1),
  (4097, .cells 83 [Iz 2097152, .map 4096, .int .i64 (.negSucc 0), Iz 10] 0 true),
  (4109, .cells 230 [.ptr 4097 0, .str 8 3471826091003228532, Iz 20000, Iz 5, Iz 193, .bool false] 0 true),
  (4110, .mp [(Iz 1, .ptr 4905 0)] [0] 2),
  (35877, .cells 5 (strBytes 193 92002721978100410575123210370184955650938070722457583457436087023926243887336161696509533095693820553768694160768823194581769136484342312599616611059982225829622676008614591830819778417254754130832299704149562998815775357599032396103260031624542063932377713436850410452707996861280633723609476857195124644613975251489061170324049137665582624875363323076775043225084651388662083588443616814368215837160646698468058194018043824099011666542179638214411533514981769216) 0 false)]
def ck7 : Ck := ⟨[.ptr 4112 0, Iz 2], 31731, ck7k ++ ck7a, Iz 0, 35881, ck7k ++ ck7b⟩
noncomputable def tb7 : List (Nat × List Ck) := [(10, [ck0]), (5, [ck1, ck2]), (6, [ck3, ck4, ck5]), (8, [ck6])]
theorem tb7_ok : CkRs Tryz.prog tb7 := ⟨⟨fk10, (ck_cons ck0r ck_nil)⟩, ⟨⟨fk5, (ck_cons ck1r (ck_cons ck2r ck_nil))⟩, ⟨⟨fk6, (ck_cons ck3r (ck_cons ck4r (ck_cons ck5r ck_nil)))⟩, ⟨⟨fk8, (ck_cons ck6r ck_nil)⟩, trivial⟩⟩⟩⟩
noncomputable def ov7 : Nat → Option (List AV → H → R) := ovC ovT tb7
theorem ov7_ok : OvOK Tryz.prog ov7 := ovC_ok (P := Tryz.prog) (base := ovT) (l := tb7) ov_ok tb7_ok
theorem ck7o : ckOk (evCall Tryz.prog hint ov7 100000 200 8) ck7 = true := by kernel_rfl
theorem ck7r : CkR Tryz.prog 8 ck7 := ck_call Tryz.checked.mixed ov7_ok ck7o
def ck8k : LH := [(0, .cells 430 (strBytes 32 4088518913827626597285369242834745541130067489702375943734699084159095931136) 34 true),
  (1, .cells 431 (strBytes 64 315684040783403026461198565492879320519372303033823910828724750665742568755751545437592878574175936176031276695822391845783248645128493468529036736594176) 66 true),
  (2, .cells 537 [.int .u64 (.ofNat 1), .int .u64 (.ofNat 10), .int .u64 (.ofNat 100), .int .u64 (.ofNat 1000), .int .u64 (.ofNat 10000), .int .u64 (.ofNat 100000), .int .u64 (.ofNat 1000000), .int .u64 (.ofNat 10000000), .int .u64 (.ofNat 100000000), .int .u64 (.ofNat 1000000000), .int .u64 (.ofNat 10000000000), .int .u64 (.ofNat 100000000000), .int .u64 (.ofNat 1000000000000), .int .u64 (.ofNat 10000000000000), .int .u64 (.ofNat 100000000000000), .int .u64 (.ofNat 1000000000000000), .int .u64 (.ofNat 10000000000000000), .int .u64 (.ofNat 100000000000000000), .int .u64 (.ofNat 1000000000000000000), .int .u64 (.ofNat 10000000000000000000)] 22 true),
  (4096, .mp [(.str 8 3471826091003228532, .agg [.sliceU 35877 0 193 1, Iz 193, .bool true])] [0] 1),
  (4097, .cells 83 [Iz 2097152, .map 4096, .int .i64 (.negSucc 0), Iz 10] 0 true),
  (4100, .cells 111 [.ptr 4097 0, .str 2 12660, Iz 60000, Iz 0, .ptr 4109 0, .bool false] 0 true),
  (4109, .cells 230 [.ptr 4097 0, .str 8 3471826091003228532, Iz 20000, Iz 5, Iz 193, .bool false] 0 true),
  (4110, .mp [(Iz 1, .ptr 4905 0)] [0] 2),
  (4111, .cells 115 [.bool true, .nilslice] 0 true),
  (4112, .cells 55 [.ptr 4100 0, Iz 2, .map 4110, .ptr 4111 0, Iz 3, .bool false, .nilmap] 0 true),
  (4199, .cells 174 [Iz 7, .str 0 0, Bz 0, Bz 0, .int .u64 (.ofNat 0), .str 0 0, .nilslice, .nilslice, .nilslice] 0 false),
  (4208, .cells 174 [Iz 7, .str 0 0, Bz 0, Bz 0, .int .u64 (.ofNat 0), .str 0 0, .nilslice, .nilslice, .nilslice] 0 false),
  (4210, .cells 179 [.str 1 97, .nilslice, .sliceU 4199 0 1 9, .str 1 98, .nilslice, .sliceU 4208 0 1 9] 0 false),
  (4905, .cells 107 [Iz 1, Iz 1, Iz 0, Iz 10, Iz 100, Iz 2, Iz 1, Iz 0, .str 37 62228021012443361616823398888568113041575052876842322236365300642395623339188598244272244, .nilslice, .nilslice, .sliceU 4210 0 2 3, .nilptr, Iz 1, Iz 0, Iz 0, .nilslice] 0 true),
  (35877, .cells 5 (strBytes 193 92002721978100410575123210370184955650938070722457583457436087023926243887336161696509533095693820553768694160768823194581769136484342312599616611059982225829622676008614591830819778417254754130832299704149562998815775357599032396103260031624542063932377713436850410452707996861280633723609476857195124644613975251489061170324049137665582624875363323076775043225084651388662083588443616814368215837160646698468058194018043824099011666542179638214411533514981769216) 0 false)]
def ck8a : LH := []
def ck8b : LH := []
def ck8 : Ck := ⟨[.ptr 4112 0, Iz 9], 35883, ck8k ++ ck8a, Iz 6, 35883, ck8k ++ ck8b⟩
noncomputable def tb8 : List (Nat × List Ck) := [(10, [ck0]), (5, [ck1, ck2]), (6, [ck3, ck4, ck5]), (8, [ck6, ck7])]
theorem tb8_ok : CkRs Tryz.prog tb8 := ⟨⟨fk10, (ck_cons ck0r ck_nil)⟩, ⟨⟨fk5, (ck_cons ck1r (ck_cons ck2r ck_nil))⟩, ⟨⟨fk6, (ck_cons ck3r (ck_cons ck4r (ck_cons ck5r ck_nil)))⟩, ⟨⟨fk8, (ck_cons ck6r (ck_cons ck7r ck_nil))⟩, trivial⟩⟩⟩⟩
noncomputable def ov8 : Nat → Option (List AV → H → R) := ovC ovT tb8
theorem ov8_ok : OvOK Tryz.prog ov8 := ovC_ok (P := Tryz.prog) (base := ovT) (l := tb8) ov_ok tb8_ok
theorem ck8o : ckOk (evCall Tryz.prog hint ov8 100000 200 8) ck8 = true := by kernel_rfl
theorem ck8r : CkR Tryz.prog 8 ck8 := ck_call Tryz.checked.mixed ov8_ok ck8o
def ck9k : LH := [(0, .cells 430 (strBytes 32 4088518913827626597285369242834745541130067489702375943734699084159095931136) 34 true),
  (1, .cells 431 (strBytes 64 315684040783403026461198565492879320519372303033823910828724750665742568755751545437592878574175936176031276695822391845783248645128493468529036736594176) 66 true),
  (2, .cells 537 [.int .u64 (.ofNat 1), .int .u64 (.ofNat 10), .int .u64 (.ofNat 100), .int .u64 (.ofNat 1000), .int .u64 (.ofNat 10000), .int .u64 (.ofNat 100000), .int .u64 (.ofNat 1000000), .int .u64 (.ofNat 10000000), .int .u64 (.ofNat 100000000), .int .u64 (.ofNat 1000000000), .int .u64 (.ofNat 10000000000), .int .u64 (.ofNat 100000000000), .int .u64 (.ofNat 1000000000000), .int .u64 (.ofNat 10000000000000), .int .u64 (.ofNat 100000000000000), .int .u64 (.ofNat 1000000000000000), .int .u64 (.ofNat 10000000000000000), .int .u64 (.ofNat 100000000000000000), .int .u64 (.ofNat 1000000000000000000), .int .u64 (.ofNat 10000000000000000000)] 22 true),
  (4096, .mp [(.str 8 3471826091003228532, .agg [.sliceU 35877 0 193 1, Iz 193, .bool true])] [0] 1),
  (4097, .cells 83 [Iz 2097152, .map 4096, .int .i64 (.negSucc 0), Iz 10] 0 true),
  (35877, .cells 5 (strBytes 193 92002721978100410575123210370184955650938070722457583457436087023926243887336161696509533095693820553768694160768823194581769136484342312599616611059982225829622676008614591830819778417254754130832299704149562998815775357599032396103260031624542063932377713436850410452707996861280633723609476857195124644613975251489061170324049137665582624875363323076775043225084651388662083588443616814368215837160646698468058194018043824099011666542179638214411533514981769216) 0 false)]
def ck9a : LH := []
def ck9b : LH := [(35885, .cells 111 [.ptr 4097 0, .str 2 12660, Iz 60000, Iz 0, .ptr 35956 0, .bool false] 0 true),
  (35956, .cells 230 [.ptr 4097 0, .str 8 3471826091003228532, Iz 20000, Iz 5, Iz 193, .bool false] 0 true),
  (35957, .mp [(Iz 1, .ptr 36776 0)] [0] 2),
  (35958, .cells 115 [.bool true, .nilslice] 0 true),
  (35959, .cells 55 [.ptr 35885 0, Iz 2, .map 35957, .ptr 35958 0, Iz 3, .bool false, .nilmap] 0 true),
  (36070, .cells 174 [Iz 7, .str 0 0, Bz 0, Bz 0, .int .u64 (.ofNat 0), .str 0 0, .nilslice, .nilslice, .nilslice] 0 false),
  (36079, .cells 174 [Iz 7, .str 0 0, Bz 0, Bz 0, .int .u64 (.ofNat 0), .str 0 0, .nilslice, .nilslice, .nilslice] 0 false),
  (36081, .cells 179 [.str 1 97, .nilslice, .sliceU 36070 0 1 9, .str 1 98, .nilslice, .sliceU 36079 0 1 9] 0 false),
  (36776, .cells 107 [Iz 1, Iz 1, Iz 0, Iz 10, Iz 100, Iz 2, Iz 1, Iz 0, .str 37 62228021012443361616823398888568113041575052876842322236365300642395623339188598244272244, .nilslice, .nilslice, .sliceU 36081 0 2 3, .nilptr, Iz 1, Iz 0, Iz 0, .nilslice] 0 true)]
def ck9 : Ck := ⟨[.ptr 4097 0, .str 2 12660, Iz 60000, Iz 2], 35883, ck9k ++ ck9a, .tup [.ptr 35959 0, Iz 0], 37699, ck9k ++ ck9b⟩
noncomputable def tb9 : List (Nat × List Ck) := [(10, [ck0]), (5, [ck1, ck2]), (6, [ck3, ck4, ck5]), (8, [ck6, ck7, ck8])]
theorem tb9_ok : CkRs Tryz.prog tb9 := ⟨⟨fk10, (ck_cons ck0r ck_nil)⟩, ⟨⟨fk5, (ck_cons ck1r (ck_cons ck2r ck_nil))⟩, ⟨⟨fk6, (ck_cons ck3r (ck_cons ck4r (ck_cons ck5r ck_nil)))⟩, ⟨⟨fk8, (ck_cons ck6r (ck_cons ck7r (ck_cons ck8r ck_nil)))⟩, trivial⟩⟩⟩⟩
noncomputable def ov9 : Nat → Option (List AV → H → R) := ovC ovT tb9
theorem ov9_ok : OvOK Tryz.prog ov9 := ovC_ok (P := Tryz.prog) (base := ovT) (l := tb9) ov_ok tb9_ok
theorem ck9o : ckOk (evCall Tryz.prog hint ov9 100000 200 10) ck9 = true := by kernel_rfl
theorem ck9r : CkR Tryz.prog 10 ck9 := ck_call Tryz.checked.mixed ov9_ok ck9o
end Go.Proofs.YtkmlcncemcaidaaGreatDoor
