/-
  CHECKPOINTS of DocketKnown: calls, each computed by itself.
-/
import Derived.Test.YtkmlcncemcaidaaGreatDoorDkA
namespace Go.Proofs.YtkmlcncemcaidaaGreatDoor
open Go Go.Ev
set_option maxRecDepth 100000
theorem fk10 : fk Tryz.prog 10 = 0 := by kernel_rfl
def ck0k : LH := [(0, .cells 430 (strBytes 32 4088518913827626597285369242834745541130067489702375943734699084159095931136) 34 true),
  (1, .cells 431 (strBytes 64 315684040783403026461198565492879320519372303033823910828724750665742568755751545437592878574175936176031276695822391845783248645128493468529036736594176) 66 true),
  (2, .cells 537 [.int .u64 (.ofNat 1), .int .u64 (.ofNat 10), .int .u64 (.ofNat 100), .int .u64 (.ofNat 1000), .int .u64 (.ofNat 10000), .int .u64 (.ofNat 100000), .int .u64 (.ofNat 1000000), .int .u64 (.ofNat 10000000), .int .u64 (.ofNat 100000000), .int .u64 (.ofNat 1000000000), .int .u64 (.ofNat 10000000000), .int .u64 (.ofNat 100000000000), .int .u64 (.ofNat 1000000000000), .int .u64 (.ofNat 10000000000000), .int .u64 (.ofNat 100000000000000), .int .u64 (.ofNat 1000000000000000), .int .u64 (.ofNat 10000000000000000), .int .u64 (.ofNat 100000000000000000), .int .u64 (.ofNat 1000000000000000000), .int .u64 (.ofNat 10000000000000000000)] 22 true),
  (4096, .mp [] [] 0),
  (4097, .cells 83 [Iz 2097152, .map 4096, .int .i64 (.negSucc 0), Iz 0] 0 true)]
def ck0a : LH := []
def ck0b : LH := [(4100, .cells 111 [.ptr 4097 0, .str 2 12660, Iz 60000, Iz 0, .ptr 4109 0, .bool false] 0 true),
  (4109, .cells 230 [.ptr 4097 0, .str 8 3471826091003228532, Iz 20000, Iz 0, Iz 0, .bool false] 0 true),
  (4110, .mp [] [] 0),
  (4111, .cells 115 [.bool true, .nilslice] 0 true),
  (4112, .cells 55 [.ptr 4100 0, Iz 2, .map 4110, .ptr 4111 0, Iz 1, .bool false, .nilmap] 0 true)]
def ck0 : Ck := ⟨[.ptr 4097 0, .str 2 12660, Iz 60000, Iz 2], 4098, ck0k ++ ck0a, .tup [.ptr 4112 0, Iz 0], 4113, ck0k ++ ck0b⟩
noncomputable def tb0 : List (Nat × List Ck) := []
theorem tb0_ok : CkRs Tryz.prog tb0 := trivial
noncomputable def ov0 : Nat → Option (List AV → H → R) := ovC ovT tb0
theorem ov0_ok : OvOK Tryz.prog ov0 := ovC_ok (P := Tryz.prog) (base := ovT) (l := tb0) ov_ok tb0_ok
theorem ck0o : ckOk (evCall Tryz.prog hint ov0 100000 200 10) ck0 = true := by kernel_rfl
theorem ck0r : CkR Tryz.prog 10 ck0 := ck_call Tryz.checked.mixed ov0_ok ck0o
theorem fk5 : fk Tryz.prog 5 = 0 := by kernel_rfl
def ck1k : LH := [(0, .cells 430 (strBytes 32 4088518913827626597285369242834745541130067489702375943734699084159095931136) 34 true),
  (1, .cells 431 (strBytes 64 315684040783403026461198565492879320519372303033823910828724750665742568755751545437592878574175936176031276695822391845783248645128493468529036736594176) 66 true),
  (2, .cells 537 [.int .u64 (.ofNat 1), .int .u64 (.ofNat 10), .int .u64 (.ofNat 100), .int .u64 (.ofNat 1000), .int .u64 (.ofNat 10000), .int .u64 (.ofNat 100000), .int .u64 (.ofNat 1000000), .int .u64 (.ofNat 10000000), .int .u64 (.ofNat 100000000), .int .u64 (.ofNat 1000000000), .int .u64 (.ofNat 10000000000), .int .u64 (.ofNat 100000000000), .int .u64 (.ofNat 1000000000000), .int .u64 (.ofNat 10000000000000), .int .u64 (.ofNat 100000000000000), .int .u64 (.ofNat 1000000000000000), .int .u64 (.ofNat 10000000000000000), .int .u64 (.ofNat 100000000000000000), .int .u64 (.ofNat 1000000000000000000), .int .u64 (.ofNat 10000000000000000000)] 22 true),
  (4100, .cells 111 [.ptr 4097 0, .str 2 12660, Iz 60000, Iz 0, .ptr 4109 0, .bool false] 0 true)]
def ck1a : LH := [(4096, .mp [] [] 0),
  (4097, .cells 83 [Iz 2097152, .map 4096, .int .i64 (.negSucc 0), Iz 0] 0 true),
  (4109, .cells 230 [.ptr 4097 0, .str 8 3471826091003228532, Iz 20000, Iz 0, Iz 0, .bool false] 0 true),
  (4110, .mp [] [] 0),
  (4111, .cells 115 [.bool true, .nilslice] 0 true),
  (4112, .cells 55 [.ptr 4100 0, Iz 2, .map 4110, .ptr 4111 0, Iz 1, .bool false, .nilmap] 0 true)]
def ck1b : LH := [(4096, .mp [(.str 8 3471826091003228532, .agg [.sliceU 13200 0 61 1, Iz 61, .bool true])] [0] 1),
  (4097, .cells 83 [Iz 2097152, .map 4096, .int .i64 (.negSucc 0), Iz 2] 0 true),
  (4109, .cells 230 [.ptr 4097 0, .str 8 3471826091003228532, Iz 20000, Iz 1, Iz 61, .bool false] 0 true),
  (4110, .mp [(Iz 1, .ptr 4905 0)] [0] 1),
  (4111, .cells 115 [.bool true, .sliceU 13205 0 1 1] 0 true),
  (4112, .cells 55 [.ptr 4100 0, Iz 2, .map 4110, .ptr 4111 0, Iz 2, .bool false, .nilmap] 0 true),
  (4199, .cells 174 [Iz 7, .str 0 0, Bz 0, Bz 0, .int .u64 (.ofNat 0), .str 0 0, .nilslice, .nilslice, .nilslice] 0 false),
  (4208, .cells 174 [Iz 7, .str 0 0, Bz 0, Bz 0, .int .u64 (.ofNat 0), .str 0 0, .nilslice, .nilslice, .nilslice] 0 false),
  (4210, .cells 179 [.str 1 97, .nilslice, .sliceU 4199 0 1 9, .str 1 98, .nilslice, .sliceU 4208 0 1 9] 0 false),
  (4839, .cells 348 [.nilslice, Iz 7, Iz 0, Iz 1, Iz 0] 0 false),
  (4846, .cells 348 [.nilslice, Iz 7, Iz 0, Iz 1, Iz 0] 0 false),
  (4848, .cells 187 [.nilslice, Iz 0, .sliceU 4839 0 1 5, .nilslice, Iz 0, .sliceU 4846 0 1 5] 0 false),
  (4849, .cells 354 [.nilslice, Iz 0, .sliceU 4848 0 2 3, Iz 100, .nilslice, .nilslice, .sliceU 4855 0 2 5, .int .i64 (.negSucc 0), Iz 0, .int .i64 (.negSucc 0)] 0 true),
  (4855, .cells 357 [.nilslice, Iz 0, .nilslice, Iz 0, Iz 0, .nilslice, Iz 0, .nilslice, Iz 0, Iz 0] 0 false),
  (4865, .cells 348 [.nilslice, Iz 7, Iz 0, Iz 1, Iz 0] 0 false),
  (4872, .cells 348 [.nilslice, Iz 7, Iz 0, Iz 1, Iz 0] 0 false),
  (4874, .cells 187 [.nilslice, Iz 0, .sliceU 4865 0 1 5, .nilslice, Iz 0, .sliceU 4872 0 1 5] 0 false),
  (4875, .mp [] [] 0),
  (4876, .cells 204 [.nilslice, Iz 0, .sliceU 4874 0 2 3, Iz 100, Iz 10, .sliceU 4897 0 1 8, .map 4875, .slice 4877 0 2 2, .ptr 4902 0, Iz 0, Iz 0, Iz 0, Iz 0, Iz 0, Iz 0, .nilslice, .bool true] 0 true),
  (4877, .rep 70 2 [.nilslice] 0 true),
  (4897, .cells 209 [.ptr 4849 0, Iz 1, Iz 0, Iz 0, Iz 0, Iz 0, Iz 0, .nilslice] 0 false),
  (4902, .cells 354 [.nilslice, Iz 0, .sliceU 4848 0 2 3, Iz 100, .nilslice, .nilslice, .sliceU 4904 0 2 5, .int .i64 (.negSucc 0), Iz 0, .int .i64 (.negSucc 0)] 0 true),
  (4904, .cells 357 [.nilslice, Iz 0, .nilslice, Iz 0, Iz 0, .nilslice, Iz 0, .nilslice, Iz 0, Iz 0] 0 false),
  (4905, .cells 107 [Iz 1, Iz 0, Iz 0, Iz 10, Iz 100, Iz 0, Iz 0, Iz 0, .str 37 62228021012443361616823398888568113041575052876842322236365300642395623339188598244272244, .nilslice, .nilslice, .sliceU 4210 0 2 3, .ptr 4876 0, Iz 0, Iz 0, Iz 0, .nilslice] 0 true),
  (13200, .cells 5 (strBytes 61 227623078875855168393427091621822788809522524842040473647625445841390461094095836058353715398163076912317798872578762079906852547984026046239342592) 0 false),
  (13205, .cells 3 [Iz 1] 0 false)]
def ck1 : Ck := ⟨[.ptr 4112 0, Iz 10, Iz 100, .str 37 62228021012443361616823398888568113041575052876842322236365300642395623339188598244272244], 4113, ck1k ++ ck1a, .tup [Iz 1, Iz 0], 13206, ck1k ++ ck1b⟩
noncomputable def tb1 : List (Nat × List Ck) := [(10, [ck0])]
theorem tb1_ok : CkRs Tryz.prog tb1 := ⟨⟨fk10, (ck_cons ck0r ck_nil)⟩, trivial⟩
noncomputable def ov1 : Nat → Option (List AV → H → R) := ovC ovT tb1
theorem ov1_ok : OvOK Tryz.prog ov1 := ovC_ok (P := Tryz.prog) (base := ovT) (l := tb1) ov_ok tb1_ok
theorem ck1o : ckOk (evCall Tryz.prog hint ov1 100000 200 5) ck1 = true := by kernel_rfl
theorem ck1r : CkR Tryz.prog 5 ck1 := ck_call Tryz.checked.mixed ov1_ok ck1o
def ck2k : LH := [(0, .cells 430 (strBytes 32 4088518913827626597285369242834745541130067489702375943734699084159095931136) 34 true),
  (1, .cells 431 (strBytes 64 315684040783403026461198565492879320519372303033823910828724750665742568755751545437592878574175936176031276695822391845783248645128493468529036736594176) 66 true),
  (2, .cells 537 [.int .u64 (.ofNat 1), .int .u64 (.ofNat 10), .int .u64 (.ofNat 100), .int .u64 (.ofNat 1000), .int .u64 (.ofNat 10000), .int .u64 (.ofNat 100000), .int .u64 (.ofNat 1000000), .int .u64 (.ofNat 10000000), .int .u64 (.ofNat 100000000), .int .u64 (.ofNat 1000000000), .int .u64 (.ofNat 10000000000), .int .u64 (.ofNat 100000000000), .int .u64 (.ofNat 1000000000000), .int .u64 (.ofNat 10000000000000), .int .u64 (.ofNat 100000000000000), .int .u64 (.ofNat 1000000000000000), .int .u64 (.ofNat 10000000000000000), .int .u64 (.ofNat 100000000000000000), .int .u64 (.ofNat 1000000000000000000), .int .u64 (.ofNat 10000000000000000000)] 22 true),
  (4100, .cells 111 [.ptr 4097 0, .str 2 12660, Iz 60000, Iz 0, .ptr 4109 0, .bool false] 0 true),
  (4199, .cells 174 [Iz 7, .str 0 0, Bz 0, Bz 0, .int .u64 (.ofNat 0), .str 0 0, .nilslice, .nilslice, .nilslice] 0 false),
  (4208, .cells 174 [Iz 7, .str 0 0, Bz 0, Bz 0, .int .u64 (.ofNat 0), .str 0 0, .nilslice, .nilslice, .nilslice] 0 false),
  (4210, .cells 179 [.str 1 97, .nilslice, .sliceU 4199 0 1 9, .str 1 98, .nilslice, .sliceU 4208 0 1 9] 0 false),
  (4839, .cells 348 [.nilslice, Iz 7, Iz 0, Iz 1, Iz 0] 0 false),
  (4846, .cells 348 [.nilslice, Iz 7, Iz 0, Iz 1, Iz 0] 0 false),
  (4848, .cells 187 [.nilslice, Iz 0, .sliceU 4839 0 1 5, .nilslice, Iz 0, .sliceU 4846 0 1 5] 0 false),
  (4849, .cells 354 [.nilslice, Iz 0, .sliceU 4848 0 2 3, Iz 100, .nilslice, .nilslice, .sliceU 4855 0 2 5, .int .i64 (.negSucc 0), Iz 0, .int .i64 (.negSucc 0)] 0 true),
  (4855, .cells 357 [.nilslice, Iz 0, .nilslice, Iz 0, Iz 0, .nilslice, Iz 0, .nilslice, Iz 0, Iz 0] 0 false),
  (4865, .cells 348 [.nilslice, Iz 7, Iz 0, Iz 1, Iz 0] 0 false),
  (4872, .cells 348 [.nilslice, Iz 7, Iz 0, Iz 1, Iz 0] 0 false),
  (4874, .cells 187 [.nilslice, Iz 0, .sliceU 4865 0 1 5, .nilslice, Iz 0, .sliceU 4872 0 1 5] 0 false),
  (4875, .mp [] [] 0),
  (4876, .cells 204 [.nilslice, Iz 0, .sliceU 4874 0 2 3, Iz 100, Iz 10, .sliceU 4897 0 1 8, .map 4875, .slice 4877 0 2 2, .ptr 4902 0, Iz 0, Iz 0, Iz 0, Iz 0, Iz 0, Iz 0, .nilslice, .bool true] 0 true),
  (4877, .rep 70 2 [.nilslice] 0 true),
  (4897, .cells 209 [.ptr 4849 0, Iz 1, Iz 0, Iz 0, Iz 0, Iz 0, Iz 0, .nilslice] 0 false),
  (4902, .cells 354 [.nilslice, Iz 0, .sliceU 4848 0 2 3, Iz 100, .nilslice, .nilslice, .sliceU 4904 0 2 5, .int .i64 (.negSucc 0), Iz 0, .int .i64 (.negSucc 0)] 0 true),
  (4904, .cells 357 [.nilslice, Iz 0, .nilslice, Iz 0, Iz 0, .nilslice, Iz 0, .nilslice, Iz 0, Iz 0] 0 false),
  (4905, .cells 107 [Iz 1, Iz 0, Iz 0, Iz 10, Iz 100, Iz 0, Iz 0, Iz 0, .str 37 62228021012443361616823398888568113041575052876842322236365300642395623339188598244272244, .nilslice, .nilslice, .sliceU 4210 0 2 3, .ptr 4876 0, Iz 0, Iz 0, Iz 0, .nilslice] 0 true),
  (13200, .cells 5 (strBytes 61 227623078875855168393427091621822788809522524842040473647625445841390461094095836058353715398163076912317798872578762079906852547984026046239342592) 0 false)]
def ck2a : LH := [(4096, .mp [(.str 8 3471826091003228532, .agg [.sliceU 13200 0 61 1, Iz 61, .bool true])] [0] 1),
  (4097, .cells 83 [Iz 2097152, .map 4096, .int .i64 (.negSucc 0), Iz 2] 0 true),
  (4109, .cells 230 [.ptr 4097 0, .str 8 3471826091003228532, Iz 20000, Iz 1, Iz 61, .bool false] 0 true),
  (4110, .mp [(Iz 1, .ptr 4905 0)] [0] 1),
  (4111, .cells 115 [.bool true, .sliceU 13205 0 1 1] 0 true),
  (4112, .cells 55 [.ptr 4100 0, Iz 2, .map 4110, .ptr 4111 0, Iz 2, .bool false, .nilmap] 0 true),
  (13205, .cells 3 [Iz 1] 0 false)]
def ck2b : LH := [(4096, .mp [(.str 8 3471826091003228532, .agg [.sliceU 22294 0 122 1, Iz 122, .bool true])] [0] 1),
  (4097, .cells 83 [Iz 2097152, .map 4096, .int .i64 (.negSucc 0), Iz 4] 0 true),
  (4109, .cells 230 [.ptr 4097 0, .str 8 3471826091003228532, Iz 20000, Iz 2, Iz 122, .bool false] 0 true),
  (4110, .mp [(Iz 1, .ptr 4905 0), (Iz 2, .ptr 13998 0)] [0, 1] 2),
  (4111, .cells 115 [.bool true, .sliceU 22299 0 2 1] 0 true),
  (4112, .cells 55 [.ptr 4100 0, Iz 2, .map 4110, .ptr 4111 0, Iz 3, .bool false, .nilmap] 0 true),
  (13292, .cells 174 [Iz 7, .str 0 0, Bz 0, Bz 0, .int .u64 (.ofNat 0), .str 0 0, .nilslice, .nilslice, .nilslice] 0 false),
  (13301, .cells 174 [Iz 7, .str 0 0, Bz 0, Bz 0, .int .u64 (.ofNat 0), .str 0 0, .nilslice, .nilslice, .nilslice] 0 false),
  (13303, .cells 179 [.str 1 97, .nilslice, .sliceU 13292 0 1 9, .str 1 98, .nilslice, .sliceU 13301 0 1 9] 0 false),
  (13932, .cells 348 [.nilslice, Iz 7, Iz 0, Iz 1, Iz 0] 0 false),
  (13939, .cells 348 [.nilslice, Iz 7, Iz 0, Iz 1, Iz 0] 0 false),
  (13941, .cells 187 [.nilslice, Iz 0, .sliceU 13932 0 1 5, .nilslice, Iz 0, .sliceU 13939 0 1 5] 0 false),
  (13942, .cells 354 [.nilslice, Iz 0, .sliceU 13941 0 2 3, Iz 100, .nilslice, .nilslice, .sliceU 13948 0 2 5, .int .i64 (.negSucc 0), Iz 0, .int .i64 (.negSucc 0)] 0 true),
  (13948, .cells 357 [.nilslice, Iz 0, .nilslice, Iz 0, Iz 0, .nilslice, Iz 0, .nilslice, Iz 0, Iz 0] 0 false),
  (13958, .cells 348 [.nilslice, Iz 7, Iz 0, Iz 1, Iz 0] 0 false),
  (13965, .cells 348 [.nilslice, Iz 7, Iz 0, Iz 1, Iz 0] 0 false),
  (13967, .cells 187 [.nilslice, Iz 0, .sliceU 13958 0 1 5, .nilslice, Iz 0, .sliceU 13965 0 1 5] 0 false),
  (13968, .mp [] [] 0),
  (13969, .cells 204 [.nilslice, Iz 0, .sliceU 13967 0 2 3, Iz 100, Iz 10, .sliceU 13990 0 1 8, .map 13968, .slice 13970 0 2 2, .ptr 13995 0, Iz 0, Iz 0, Iz 0, Iz 0, Iz 0, Iz 0, .nilslice, .bool true] 0 true),
  (13970, .rep 70 2 [.nilslice] 0 true),
  (13990, .cells 209 [.ptr 13942 0, Iz 1, Iz 0, Iz 0, Iz 0, Iz 0, Iz 0, .nilslice] 0 false),
  (13995, .cells 354 [.nilslice, Iz 0, .sliceU 13941 0 2 3, Iz 100, .nilslice, .nilslice, .sliceU 13997 0 2 5, .int .i64 (.negSucc 0), Iz 0, .int .i64 (.negSucc 0)] 0 true),
  (13997, .cells 357 [.nilslice, Iz 0, .nilslice, Iz 0, Iz 0, .nilslice, Iz 0, .nilslice, Iz 0, Iz 0] 0 false),
  (13998, .cells 107 [Iz 2, Iz 0, Iz 0, Iz 10, Iz 100, Iz 0, Iz 0, Iz 0, .str 37 62228021012443361616823398888568113041575052876842322236365300642395623339188598244272244, .nilslice, .nilslice, .sliceU 13303 0 2 3, .ptr 13969 0, Iz 0, Iz 0, Iz 0, .nilslice] 0 true),
  (22294, .cells 5 (strBytes 122 27133859465353073043556877486114131584092476551085527103847918640192048366279259376798415196640001874917402555921979667747637301083857233180895753337815751278220526054523710824910470209469817454363374679477800977920264034063571837091250831065045835007277429670031856891051428910163249145577472) 0 false),
  (22299, .cells 3 [Iz 1, Iz 2] 0 false)]
def ck2 : Ck := ⟨[.ptr 4112 0, Iz 10, Iz 100, .str 37 62228021012443361616823398888568113041575052876842322236365300642395623339188598244272244], 13206, ck2k ++ ck2a, .tup [Iz 2, Iz 0], 22300, ck2k ++ ck2b⟩
noncomputable def tb2 : List (Nat × List Ck) := [(10, [ck0]), (5, [ck1])]
theorem tb2_ok : CkRs Tryz.prog tb2 := ⟨⟨fk10, (ck_cons ck0r ck_nil)⟩, ⟨⟨fk5, (ck_cons ck1r ck_nil)⟩, trivial⟩⟩
noncomputable def ov2 : Nat → Option (List AV → H → R) := ovC ovT tb2
theorem ov2_ok : OvOK Tryz.prog ov2 := ovC_ok (P := Tryz.prog) (base := ovT) (l := tb2) ov_ok tb2_ok
theorem ck2o : ckOk (evCall Tryz.prog hint ov2 100000 200 5) ck2 = true := by kernel_rfl
theorem ck2r : CkR Tryz.prog 5 ck2 := ck_call Tryz.checked.mixed ov2_ok ck2o
theorem fk6 : fk Tryz.prog 6 = 0 := by kernel_rfl
def ck3k : LH := [(0, .cells 430 (strBytes 32 4088518913827626597285369242834745541130067489702375943734699084159095931136) 34 true),
  (1, .cells 431 (strBytes 64 315684040783403026461198565492879320519372303033823910828724750665742568755751545437592878574175936176031276695822391845783248645128493468529036736594176) 66 true),
  (2, .cells 537 [.int .u64 (.ofNat 1), .int .u64 (.ofNat 10), .int .u64 (.ofNat 100), .int .u64 (.ofNat 1000), .int .u64 (.ofNat 10000), .int .u64 (.ofNat 100000), .int .u64 (.ofNat 1000000), .int .u64 (.ofNat 10000000), .int .u64 (.ofNat 100000000), .int .u64 (.ofNat 1000000000), .int .u64 (.ofNat 10000000000), .int .u64 (.ofNat 100000000000), .int .u64 (.ofNat 1000000000000), .int .u64 (.ofNat 10000000000000), .int .u64 (.ofNat 100000000000000), .int .u64 (.ofNat 1000000000000000), .int .u64 (.ofNat 10000000000000000), .int .u64 (.ofNat 100000000000000000), .int .u64 (.ofNat 1000000000000000000), .int .u64 (.ofNat 10000000000000000000)] 22 true),
  (4096, .mp [(.str 8 3471826091003228532, .agg [.sliceU 22294 0 122 1, Iz 122, .bool true])] [0] 1),
  (4097, .cells 83 [Iz 2097152, .map 4096, .int .i64 (.negSucc 0), Iz 4] 0 true),
  (4100, .cells 111 [.ptr 4097 0, .str 2 12660, Iz 60000, Iz 0, .ptr 4109 0, .bool false] 0 true),
  (4109, .cells 230 [.ptr 4097 0, .str 8 3471826091003228532, Iz 20000, Iz 2, Iz 122, .bool false] 0 true),
  (4110, .mp [(Iz 1, .ptr 4905 0), (Iz 2, .ptr 13998 0)] [0, 1] 2),
  (4112, .cells 55 [.ptr 4100 0, Iz 2, .map 4110, .ptr 4111 0, Iz 3, .bool false, .nilmap] 0 true),
  (4199, .cells 174 [Iz 7, .str 0 0, Bz 0, Bz 0, .int .u64 (.ofNat 0), .str 0 0, .nilslice, .nilslice, .nilslice] 0 false),
  (4208, .cells 174 [Iz 7, .str 0 0, Bz 0, Bz 0, .int .u64 (.ofNat 0), .str 0 0, .nilslice, .nilslice, .nilslice] 0 false),
  (4210, .cells 179 [.str 1 97, .nilslice, .sliceU 4199 0 1 9, .str 1 98, .nilslice, .sliceU 4208 0 1 9] 0 false),
  (4839, .cells 348 [.nilslice, Iz 7, Iz 0, Iz 1, Iz 0] 0 false),
  (4846, .cells 348 [.nilslice, Iz 7, Iz 0, Iz 1, Iz 0] 0 false),
  (4848, .cells 187 [.nilslice, Iz 0, .sliceU 4839 0 1 5, .nilslice, Iz 0, .sliceU 4846 0 1 5] 0 false),
  (4849, .cells 354 [.nilslice, Iz 0, .sliceU 4848 0 2 3, Iz 100, .nilslice, .nilslice, .sliceU 4855 0 2 5, .int .i64 (.negSucc 0), Iz 0, .int .i64 (.negSucc 0)] 0 true),
  (4855, .cells 357 [.nilslice, Iz 0, .nilslice, Iz 0, Iz 0, .nilslice, Iz 0, .nilslice, Iz 0, Iz 0] 0 false),
  (4865, .cells 348 [.nilslice, Iz 7, Iz 0, Iz 1, Iz 0] 0 false),
  (4872, .cells 348 [.nilslice, Iz 7, Iz 0, Iz 1, Iz 0] 0 false),
  (4874, .cells 187 [.nilslice, Iz 0, .sliceU 4865 0 1 5, .nilslice, Iz 0, .sliceU 4872 0 1 5] 0 false),
  (4875, .mp [] [] 0),
  (4902, .cells 354 [.nilslice, Iz 0, .sliceU 4848 0 2 3, Iz 100, .nilslice, .nilslice, .sliceU 4904 0 2 5, .int .i64 (.negSucc 0), Iz 0, .int .i64 (.negSucc 0)] 0 true),
  (13292, .cells 174 [Iz 7, .str 0 0, Bz 0, Bz 0, .int .u64 (.ofNat 0), .str 0 0, .nilslice, .nilslice, .nilslice] 0 false),
  (13301, .cells 174 [Iz 7, .str 0 0, Bz 0, Bz 0, .int .u64 (.ofNat 0), .str 0 0, .nilslice, .nilslice, .nilslice] 0 false),
  (13303, .cells 179 [.str 1 97, .nilslice, .sliceU 13292 0 1 9, .str 1 98, .nilslice, .sliceU 13301 0 1 9] 0 false),
  (13932, .cells 348 [.nilslice, Iz 7, Iz 0, Iz 1, Iz 0] 0 false),
  (13939, .cells 348 [.nilslice, Iz 7, Iz 0, Iz 1, Iz 0] 0 false),
  (13941, .cells 187 [.nilslice, Iz 0, .sliceU 13932 0 1 5, .nilslice, Iz 0, .sliceU 13939 0 1 5] 0 false),
  (13942, .cells 354 [.nilslice, Iz 0, .sliceU 13941 0 2 3, Iz 100, .nilslice, .nilslice, .sliceU 13948 0 2 5, .int .i64 (.negSucc 0), Iz 0, .int .i64 (.negSucc 0)] 0 true),
  (13948, .cells 357 [.nilslice, Iz 0, .nilslice, Iz 0, Iz 0, .nilslice, Iz 0, .nilslice, Iz 0, Iz 0] 0 false),
  (13958, .cells 348 [.nilslice, Iz 7, Iz 0, Iz 1, Iz 0] 0 false),
  (13965, .cells 348 [.nilslice, Iz 7, Iz 0, Iz 1, Iz 0] 0 false),
  (13967, .cells 187 [.nilslice, Iz 0, .sliceU 13958 0 1 5, .nilslice, Iz 0, .sliceU 13965 0 1 5] 0 false),
  (13968, .mp [] [] 0),
  (13969, .cells 204 [.nilslice, Iz 0, .sliceU 13967 0 2 3, Iz 100, Iz 10, .sliceU 13990 0 1 8, .map 13968, .slice 13970 0 2 2, .ptr 13995 0, Iz 0, Iz 0, Iz 0, Iz 0, Iz 0, Iz 0, .nilslice, .bool true] 0 true),
  (13970, .rep 70 2 [.nilslice] 0 true),
  (13990, .cells 209 [.ptr 13942 0, Iz 1, Iz 0, Iz 0, Iz 0, Iz 0, Iz 0, .nilslice] 0 false),
  (13995, .cells 354 [.nilslice, Iz 0, .sliceU 13941 0 2 3, Iz 100, .nilslice, .nilslice, .sliceU 13997 0 2 5, .int .i64 (.negSucc 0), Iz 0, .int .i64 (.negSucc 0)] 0 true),
  (13997, .cells 357 [.nilslice, Iz 0, .nilslice, Iz 0, Iz 0, .nilslice, Iz 0, .nilslice, Iz 0, Iz 0] 0 false),
  (13998, .cells 107 [Iz 2, Iz 0, Iz 0, Iz 10, Iz 100, Iz 0, Iz 0, Iz 0, .str 37 62228021012443361616823398888568113041575052876842322236365300642395623339188598244272244, .nilslice, .nilslice, .sliceU 13303 0 2 3, .ptr 13969 0, Iz 0, Iz 0, Iz 0, .nilslice] 0 true),
  (22294, .cells 5 (strBytes 122 27133859465353073043556877486114131584092476551085527103847918640192048366279259376798415196640001874917402555921979667747637301083857233180895753337815751278220526054523710824910470209469817454363374679477800977920264034063571837091250831065045835007277429670031856891051428910163249145577472) 0 false),
  (22299, .cells 3 [Iz 1, Iz 2] 0 false)]
def ck3a : LH := [(4111, .cells 115 [.bool true, .sliceU 22299 0 2 1] 0 true),
  (4876, .cells 204 [.nilslice, Iz 0, .sliceU 4874 0 2 3, Iz 100, Iz 10, .sliceU 4897 0 1 8, .map 4875, .slice 4877 0 2 2, .ptr 4902 0, Iz 0, Iz 0, Iz 0, Iz 0, Iz 0, Iz 0, .nilslice, .bool true] 0 true),
  (4877, .rep 70 2 [.nilslice] 0 true),
  (4897, .cells 209 [.ptr 4849 0, Iz 1, Iz 0, Iz 0, Iz 0, Iz 0, Iz 0, .nilslice] 0 false),
  (4904, .cells 357 [.nilslice, Iz 0, .nilslice, Iz 0, Iz 0, .nilslice, Iz 0, .nilslice, Iz 0, Iz 0] 0 false),
  (4905, .cells 107 [Iz 1, Iz 0, Iz 0, Iz 10, Iz 100, Iz 0, Iz 0, Iz 0, .str 37 62228021012443361616823398888568113041575052876842322236365300642395623339188598244272244, .nilslice, .nilslice, .sliceU 4210 0 2 3, .ptr 4876 0, Iz 0, Iz 0, Iz 0, .nilslice] 0 true)]
def ck3b : LH := [(4111, .cells 115 [.bool true, .sliceU 22304 0 2 1] 0 true),
  (4876, .cells 204 [.nilslice, Iz 0, .sliceU 4874 0 2 3, Iz 100, Iz 10, .sliceU 22369 0 2 8, .map 4875, .slice 4877 0 2 2, .ptr 22372 0, Iz 0, Iz 0, Iz 1, Iz 0, Iz 0, Iz 0, .nilslice, .bool true] 0 true),
  (4877, .cells 70 [.sliceU 22353 0 1 1, .nilslice] 0 true),
  (4904, .cells 357 [.nilslice, Iz 1, .nilslice, Iz 1, Iz 0, .nilslice, Iz 0, .nilslice, Iz 0, Iz 0] 0 false),
  (4905, .cells 107 [Iz 1, Iz 0, Iz 0, Iz 10, Iz 100, Iz 1, Iz 0, Iz 0, .str 37 62228021012443361616823398888568113041575052876842322236365300642395623339188598244272244, .nilslice, .nilslice, .sliceU 4210 0 2 3, .ptr 4876 0, Iz 0, Iz 0, Iz 0, .nilslice] 0 true),
  (22304, .cells 3 [Iz 2, Iz 1] 0 false),
  (22347, .cells 3 [Iz 1, Iz 0] 0 true),
  (22353, .cells 3 [Iz 0] 0 false),
  (22369, .cells 209 [.ptr 4849 0, Iz 1, Iz 0, Iz 0, Iz 0, Iz 0, Iz 0, .slice 22347 0 2 2, .ptr 4902 0, Iz 2, Iz 0, Iz 1, Iz 0, Iz 0, Iz 0, .nilslice] 0 false),
  (22372, .cells 354 [.nilslice, Iz 0, .sliceU 4848 0 2 3, Iz 100, .nilslice, .nilslice, .sliceU 22374 0 2 5, .int .i64 (.negSucc 0), Iz 0, .int .i64 (.negSucc 0)] 0 true),
  (22374, .cells 357 [.nilslice, Iz 1, .nilslice, Iz 1, Iz 0, .nilslice, Iz 0, .nilslice, Iz 0, Iz 0] 0 false)]
def ck3 : Ck := ⟨[.ptr 4112 0, Iz 1], 22300, ck3k ++ ck3a, .tup [.agg [Iz 1, Iz 1, .bool false], Iz 0], 22380, ck3k ++ ck3b⟩
noncomputable def tb3 : List (Nat × List Ck) := [(10, [ck0]), (5, [ck1, ck2])]
theorem tb3_ok : CkRs Tryz.prog tb3 := ⟨⟨fk10, (ck_cons ck0r ck_nil)⟩, ⟨⟨fk5, (ck_cons ck1r (ck_cons ck2r ck_nil))⟩, trivial⟩⟩
noncomputable def ov3 : Nat → Option (List AV → H → R) := ovC ovT tb3
theorem ov3_ok : OvOK Tryz.prog ov3 := ovC_ok (P := Tryz.prog) (base := ovT) (l := tb3) ov_ok tb3_ok
theorem ck3o : ckOk (evCall Tryz.prog hint ov3 100000 200 6) ck3 = true := by kernel_rfl
theorem ck3r : CkR Tryz.prog 6 ck3 := ck_call Tryz.checked.mixed ov3_ok ck3o
def ck4k : LH := [(0, .cells 430 (strBytes 32 4088518913827626597285369242834745541130067489702375943734699084159095931136) 34 true),
  (1, .cells 431 (strBytes 64 315684040783403026461198565492879320519372303033823910828724750665742568755751545437592878574175936176031276695822391845783248645128493468529036736594176) 66 true),
  (2, .cells 537 [.int .u64 (.ofNat 1), .int .u64 (.ofNat 10), .int .u64 (.ofNat 100), .int .u64 (.ofNat 1000), .int .u64 (.ofNat 10000), .int .u64 (.ofNat 100000), .int .u64 (.ofNat 1000000), .int .u64 (.ofNat 10000000), .int .u64 (.ofNat 100000000), .int .u64 (.ofNat 1000000000), .int .u64 (.ofNat 10000000000), .int .u64 (.ofNat 100000000000), .int .u64 (.ofNat 1000000000000), .int .u64 (.ofNat 10000000000000), .int .u64 (.ofNat 100000000000000), .int .u64 (.ofNat 1000000000000000), .int .u64 (.ofNat 10000000000000000), .int .u64 (.ofNat 100000000000000000), .int .u64 (.ofNat 1000000000000000000), .int .u64 (.ofNat 10000000000000000000)] 22 true),
  (4096, .mp [(.str 8 3471826091003228532, .agg [.sliceU 22294 0 122 1, Iz 122, .bool true])] [0] 1),
  (4097, .cells 83 [Iz 2097152, .map 4096, .int .i64 (.negSucc 0), Iz 4] 0 true),
  (4100, .cells 111 [.ptr 4097 0, .str 2 12660, Iz 60000, Iz 0, .ptr 4109 0, .bool false] 0 true),
  (4109, .cells 230 [.ptr 4097 0, .str 8 3471826091003228532, Iz 20000, Iz 2, Iz 122, .bool false] 0 true),
  (4110, .mp [(Iz 1, .ptr 4905 0), (Iz 2, .ptr 13998 0)] [0, 1] 2),
  (4112, .cells 55 [.ptr 4100 0, Iz 2, .map 4110, .ptr 4111 0, Iz 3, .bool false, .nilmap] 0 true),
  (4199, .cells 174 [Iz 7, .str 0 0, Bz 0, Bz 0, .int .u64 (.ofNat 0), .str 0 0, .nilslice, .nilslice, .nilslice] 0 false),
  (4208, .cells 174 [Iz 7, .str 0 0, Bz 0, Bz 0, .int .u64 (.ofNat 0), .str 0 0, .nilslice, .nilslice, .nilslice] 0 false),
  (4210, .cells 179 [.str 1 97, .nilslice, .sliceU 4199 0 1 9, .str 1 98, .nilslice, .sliceU 4208 0 1 9] 0 false),
  (4839, .cells 348 [.nilslice, Iz 7, Iz 0, Iz 1, Iz 0] 0 false),
  (4846, .cells 348 [.nilslice, Iz 7, Iz 0, Iz 1, Iz 0] 0 false),
  (4848, .cells 187 [.nilslice, Iz 0, .sliceU 4839 0 1 5, .nilslice, Iz 0, .sliceU 4846 0 1 5] 0 false),
  (4849, .cells 354 [.nilslice, Iz 0, .sliceU 4848 0 2 3, Iz 100, .nilslice, .nilslice, .sliceU 4855 0 2 5, .int .i64 (.negSucc 0), Iz 0, .int .i64 (.negSucc 0)] 0 true),
  (4855, .cells 357 [.nilslice, Iz 0, .nilslice, Iz 0, Iz 0, .nilslice, Iz 0, .nilslice, Iz 0, Iz 0] 0 false),
  (4865, .cells 348 [.nilslice, Iz 7, Iz 0, Iz 1, Iz 0] 0 false),
  (4872, .cells 348 [.nilslice, Iz 7, Iz 0, Iz 1, Iz 0] 0 false),
  (4874, .cells 187 [.nilslice, Iz 0, .sliceU 4865 0 1 5, .nilslice, Iz 0, .sliceU 4872 0 1 5] 0 false),
  (4875, .mp [] [] 0),
  (4876, .cells 204 [.nilslice, Iz 0, .sliceU 4874 0 2 3, Iz 100, Iz 10, .sliceU 22369 0 2 8, .map 4875, .slice 4877 0 2 2, .ptr 22372 0, Iz 0, Iz 0, Iz 1, Iz 0, Iz 0, Iz 0, .nilslice, .bool true] 0 true),
  (4877, .cells 70 [.sliceU 22353 0 1 1, .nilslice] 0 true),
  (4902, .cells 354 [.nilslice, Iz 0, .sliceU 4848 0 2 3, Iz 100, .nilslice, .nilslice, .sliceU 4904 0 2 5, .int .i64 (.negSucc 0), Iz 0, .int .i64 (.negSucc 0)] 0 true),
  (4904, .cells 357 [.nilslice, Iz 1, .nilslice, Iz 1, Iz 0, .nilslice, Iz 0, .nilslice, Iz 0, Iz 0] 0 false),
  (4905, .cells 107 [Iz 1, Iz 0, Iz 0, Iz 10, Iz 100, Iz 1, Iz 0, Iz 0, .str 37 62228021012443361616823398888568113041575052876842322236365300642395623339188598244272244, .nilslice, .nilslice, .sliceU 4210 0 2 3, .ptr 4876 0, Iz 0, Iz 0, Iz 0, .nilslice] 0 true),
  (13292, .cells 174 [Iz 7, .str 0 0, Bz 0, Bz 0, .int .u64 (.ofNat 0), .str 0 0, .nilslice, .nilslice, .nilslice] 0 false),
  (13301, .cells 174 [Iz 7, .str 0 0, Bz 0, Bz 0, .int .u64 (.ofNat 0), .str 0 0, .nilslice, .nilslice, .nilslice] 0 false),
  (13303, .cells 179 [.str 1 97, .nilslice, .sliceU 13292 0 1 9, .str 1 98, .nilslice, .sliceU 13301 0 1 9] 0 false),
  (13932, .cells 348 [.nilslice, Iz 7, Iz 0, Iz 1, Iz 0] 0 false),
  (13939, .cells 348 [.nilslice, Iz 7, Iz 0, Iz 1, Iz 0] 0 false),
  (13941, .cells 187 [.nilslice, Iz 0, .sliceU 13932 0 1 5, .nilslice, Iz 0, .sliceU 13939 0 1 5] 0 false),
  (13942, .cells 354 [.nilslice, Iz 0, .sliceU 13941 0 2 3, Iz 100, .nilslice, .nilslice, .sliceU 13948 0 2 5, .int .i64 (.negSucc 0), Iz 0, .int .i64 (.negSucc 0)] 0 true),
  (13948, .cells 357 [.nilslice, Iz 0, .nilslice, Iz 0, Iz 0, .nilslice, Iz 0, .nilslice, Iz 0, Iz 0] 0 false),
  (13958, .cells 348 [.nilslice, Iz 7, Iz 0, Iz 1, Iz 0] 0 false),
  (13965, .cells 348 [.nilslice, Iz 7, Iz 0, Iz 1, Iz 0] 0 false),
  (13967, .cells 187 [.nilslice, Iz 0, .sliceU 13958 0 1 5, .nilslice, Iz 0, .sliceU 13965 0 1 5] 0 false),
  (13968, .mp [] [] 0),
  (13995, .cells 354 [.nilslice, Iz 0, .sliceU 13941 0 2 3, Iz 100, .nilslice, .nilslice, .sliceU 13997 0 2 5, .int .i64 (.negSucc 0), Iz 0, .int .i64 (.negSucc 0)] 0 true),
  (22294, .cells 5 (strBytes 122 27133859465353073043556877486114131584092476551085527103847918640192048366279259376798415196640001874917402555921979667747637301083857233180895753337815751278220526054523710824910470209469817454363374679477800977920264034063571837091250831065045835007277429670031856891051428910163249145577472) 0 false),
  (22304, .cells 3 [Iz 2, Iz 1] 0 false),
  (22347, .cells 3 [Iz 1, Iz 0] 0 true),
  (22353, .cells 3 [Iz 0] 0 false),
  (22369, .cells 209 [.ptr 4849 0, Iz 1, Iz 0, Iz 0, Iz 0, Iz 0, Iz 0, .slice 22347 0 2 2, .ptr 4902 0, Iz 2, Iz 0, Iz 1, Iz 0, Iz 0, Iz 0, .nilslice] 0 false),
  (22372, .cells 354 [.nilslice, Iz 0, .sliceU 4848 0 2 3, Iz 100, .nilslice, .nilslice, .sliceU 22374 0 2 5, .int .i64 (.negSucc 0), Iz 0, .int .i64 (.negSucc 0)] 0 true),
  (22374, .cells 357 [.nilslice, Iz 1, .nilslice, Iz 1, Iz 0, .nilslice, Iz 0, .nilslice, Iz 0, Iz 0] 0 false)]
def ck4a : LH := [(4111, .cells 115 [.bool true, .sliceU 22304 0 2 1] 0 true),
  (13969, .cells 204 [.nilslice, Iz 0, .sliceU 13967 0 2 3, Iz 100, Iz 10, .sliceU 13990 0 1 8, .map 13968, .slice 13970 0 2 2, .ptr 13995 0, Iz 0, Iz 0, Iz 0, Iz 0, Iz 0, Iz 0, .nilslice, .bool true] 0 true),
  (13970, .rep 70 2 [.nilslice] 0 true),
  (13990, .cells 209 [.ptr 13942 0, Iz 1, Iz 0, Iz 0, Iz 0, Iz 0, Iz 0, .nilslice] 0 false),
  (13997, .cells 357 [.nilslice, Iz 0, .nilslice, Iz 0, Iz 0, .nilslice, Iz 0, .nilslice, Iz 0, Iz 0] 0 false),
  (13998, .cells 107 [Iz 2, Iz 0, Iz 0, Iz 10, Iz 100, Iz 0, Iz 0, Iz 0, .str 37 62228021012443361616823398888568113041575052876842322236365300642395623339188598244272244, .nilslice, .nilslice, .sliceU 13303 0 2 3, .ptr 13969 0, Iz 0, Iz 0, Iz 0, .nilslice] 0 true)]
def ck4b : LH := [(4111, .cells 115 [.bool true, .sliceU 22385 0 2 1] 0 true),
  (13969, .cells 204 [.nilslice, Iz 0, .sliceU 13967 0 2 3, Iz 100, Iz 10, .sliceU 22450 0 2 8, .map 13968, .slice 13970 0 2 2, .ptr 22453 0, Iz 0, Iz 0, Iz 1, Iz 0, Iz 0, Iz 0, .nilslice, .bool true] 0 true),
  (13970, .cells 70 [.sliceU 22434 0 1 1, .nilslice] 0 true),
  (13997, .cells 357 [.nilslice, Iz 1, .nilslice, Iz 1, Iz 0, .nilslice, Iz 0, .nilslice, Iz 0, Iz 0] 0 false),
  (13998, .cells 107 [Iz 2, Iz 0, Iz 0, Iz 10, Iz 100, Iz 1, Iz 0, Iz 0, .str 37 62228021012443361616823398888568113041575052876842322236365300642395623339188598244272244, .nilslice, .nilslice, .sliceU 13303 0 2 3, .ptr 13969 0, Iz 0, Iz 0, Iz 0, .nilslice] 0 true),
  (22385, .cells 3 [Iz 1, Iz 2] 0 false),
  (22428, .cells 3 [Iz 1, Iz 0] 0 true),
  (22434, .cells 3 [Iz 0] 0 false),
  (22450, .cells 209 [.ptr 13942 0, Iz 1, Iz 0, Iz 0, Iz 0, Iz 0, Iz 0, .slice 22428 0 2 2, .ptr 13995 0, Iz 2, Iz 0, Iz 1, Iz 0, Iz 0, Iz 0, .nilslice] 0 false),
  (22453, .cells 354 [.nilslice, Iz 0, .sliceU 13941 0 2 3, Iz 100, .nilslice, .nilslice, .sliceU 22455 0 2 5, .int .i64 (.negSucc 0), Iz 0, .int .i64 (.negSucc 0)] 0 true),
  (22455, .cells 357 [.nilslice, Iz 1, .nilslice, Iz 1, Iz 0, .nilslice, Iz 0, .nilslice, Iz 0, Iz 0] 0 false)]
def ck4 : Ck := ⟨[.ptr 4112 0, Iz 1], 22381, ck4k ++ ck4a, .tup [.agg [Iz 2, Iz 1, .bool false], Iz 0], 22461, ck4k ++ ck4b⟩
noncomputable def tb4 : List (Nat × List Ck) := [(10, [ck0]), (5, [ck1, ck2]), (6, [ck3])]
theorem tb4_ok : CkRs Tryz.prog tb4 := ⟨⟨fk10, (ck_cons ck0r ck_nil)⟩, ⟨⟨fk5, (ck_cons ck1r (ck_cons ck2r ck_nil))⟩, ⟨⟨fk6, (ck_cons ck3r ck_nil)⟩, trivial⟩⟩⟩
noncomputable def ov4 : Nat → Option (List AV → H → R) := ovC ovT tb4
theorem ov4_ok : OvOK Tryz.prog ov4 := ovC_ok (P := Tryz.prog) (base := ovT) (l := tb4) ov_ok tb4_ok
theorem ck4o : ckOk (evCall Tryz.prog hint ov4 100000 200 6) ck4 = true := by kernel_rfl
theorem ck4r : CkR Tryz.prog 6 ck4 := ck_call Tryz.checked.mixed ov4_ok ck4o
end Go.Proofs.YtkmlcncemcaidaaGreatDoor
