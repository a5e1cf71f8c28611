/-
  CHECKPOINTS of DocketKnown: calls, each computed by itself.
-/
import Derived.Test.YtkmlcncemcaidaaGreatDoorDkK2
namespace Go.Proofs.YtkmlcncemcaidaaGreatDoor
open Go Go.Ev
set_option maxRecDepth 100000
def ck15k : LH := [(0, .cells 430 (strBytes 32 4088518913827626597285369242834745541130067489702375943734699084159095931136) 34 true),
  (1, .cells 431 (strBytes 64 315684040783403026461198565492879320519372303033823910828724750665742568755751545437592878574175936176031276695822391845783248645128493468529036736594176) 66 true),
  (2, .cells 537 [.int .u64 (.ofNat 1), .int .u64 (.ofNat 10), .int .u64 (.ofNat 100), .int .u64 (.ofNat 1000), .int .u64 (.ofNat 10000), .int .u64 (.ofNat 100000), .int .u64 (.ofNat 1000000), .int .u64 (.ofNat 10000000), .int .u64 (.ofNat 100000000), .int .u64 (.ofNat 1000000000), .int .u64 (.ofNat 10000000000), .int .u64 (.ofNat 100000000000), .int .u64 (.ofNat 1000000000000), .int .u64 (.ofNat 10000000000000), .int .u64 (.ofNat 100000000000000), .int .u64 (.ofNat 1000000000000000), .int .u64 (.ofNat 10000000000000000), .int .u64 (.ofNat 100000000000000000), .int .u64 (.ofNat 1000000000000000000), .int .u64 (.ofNat 10000000000000000000)] 22 true),
  (37708, .cells 111 [.ptr 37705 0, .str 2 12660, Iz 60000, Iz 0, .ptr 37717 0, .bool false] 0 true)]
def ck15a : LH := [(37704, .mp [] [] 0),
  (37705, .cells 83 [Iz 2097152, .map 37704, .int .i64 (.negSucc 0), Iz 0] 0 true),
  (37717, .cells 230 [.ptr 37705 0, .str 8 3471826091003228532, Iz 20000, Iz 0, Iz 0, .bool false] 0 true),
  (37718, .mp [] [] 0),
  (37719, .cells 115 [.bool true, .nilslice] 0 true),
  (37720, .cells 55 [.ptr 37708 0, Iz 2, .map 37718, .ptr 37719 0, Iz 1, .bool false, .nilmap] 0 true)]
def ck15b : LH := [(37704, .mp [(.str 8 3471826091003228532, .agg [.sliceU 46808 0 61 1, Iz 61, .bool true])] [0] 1),
  (37705, .cells 83 [Iz 2097152, .map 37704, .int .i64 (.negSucc 0), Iz 2] 0 true),
  (37717, .cells 230 [.ptr 37705 0, .str 8 3471826091003228532, Iz 20000, Iz 1, Iz 61, .bool false] 0 true),
  (37718, .mp [(Iz 1, .ptr 38513 0)] [0] 1),
  (37719, .cells 115 [.bool true, .sliceU 46813 0 1 1] 0 true),
  (37720, .cells 55 [.ptr 37708 0, Iz 2, .map 37718, .ptr 37719 0, Iz 2, .bool false, .nilmap] 0 true),
  (37807, .cells 174 [Iz 7, .str 0 0, Bz 0, Bz 0, .int .u64 (.ofNat 0), .str 0 0, .nilslice, .nilslice, .nilslice] 0 false),
  (37816, .cells 174 [Iz 7, .str 0 0, Bz 0, Bz 0, .int .u64 (.ofNat 0), .str 0 0, .nilslice, .nilslice, .nilslice] 0 false),
  (37818, .cells 179 [.str 1 97, .nilslice, .sliceU 37807 0 1 9, .str 1 98, .nilslice, .sliceU 37816 0 1 9] 0 false),
  (38447, .cells 348 [.nilslice, Iz 7, Iz 0, Iz 1, Iz 0] 0 false),
  (38454, .cells 348 [.nilslice, Iz 7, Iz 0, Iz 1, Iz 0] 0 false),
  (38456, .cells 187 [.nilslice, Iz 0, .sliceU 38447 0 1 5, .nilslice, Iz 0, .sliceU 38454 0 1 5] 0 false),
  (38457, .cells 354 [.nilslice, Iz 0, .sliceU 38456 0 2 3, Iz 100, .nilslice, .nilslice, .sliceU 38463 0 2 5, .int .i64 (.negSucc 0), Iz 0, .int .i64 (.negSucc 0)] 0 true),
  (38463, .cells 357 [.nilslice, Iz 0, .nilslice, Iz 0, Iz 0, .nilslice, Iz 0, .nilslice, Iz 0, Iz 0] 0 false),
  (38473, .cells 348 [.nilslice, Iz 7, Iz 0, Iz 1, Iz 0] 0 false),
  (38480, .cells 348 [.nilslice, Iz 7, Iz 0, Iz 1, Iz 0] 0 false),
  (38482, .cells 187 [.nilslice, Iz 0, .sliceU 38473 0 1 5, .nilslice, Iz 0, .sliceU 38480 0 1 5] 0 false),
  (38483, .mp [] [] 0),
  (38484, .cells 204 [.nilslice, Iz 0, .sliceU 38482 0 2 3, Iz 100, Iz 10, .sliceU 38505 0 1 8, .map 38483, .slice 38485 0 2 2, .ptr 38510 0, Iz 0, Iz 0, Iz 0, Iz 0, Iz 0, Iz 0, .nilslice, .bool true] 0 true),
  (38485, .rep 70 2 [.nilslice] 0 true),
  (38505, .cells 209 [.ptr 38457 0, Iz 1, Iz 0, Iz 0, Iz 0, Iz 0, Iz 0, .nilslice] 0 false),
  (38510, .cells 354 [.nilslice, Iz 0, .sliceU 38456 0 2 3, Iz 100, .nilslice, .nilslice, .sliceU 38512 0 2 5, .int .i64 (.negSucc 0), Iz 0, .int .i64 (.negSucc 0)] 0 true),
  (38512, .cells 357 [.nilslice, Iz 0, .nilslice, Iz 0, Iz 0, .nilslice, Iz 0, .nilslice, Iz 0, Iz 0] 0 false),
  (38513, .cells 107 [Iz 1, Iz 0, Iz 0, Iz 10, Iz 100, Iz 0, Iz 0, Iz 0, .str 37 62228021012443361616823398888568113041575052876842322236365300642395623339188598244272244, .nilslice, .nilslice, .sliceU 37818 0 2 3, .ptr 38484 0, Iz 0, Iz 0, Iz 0, .nilslice] 0 true),
  (46808, .cells 5 (strBytes 61 227623078875855168393427091621822788809522524842040473647625445841390461094095836058353715398163076912317798872578762079906852547984026046239342592) 0 false),
  (46813, .cells 3 [Iz 1] 0 false)]
def ck15 : Ck := ⟨[.ptr 37720 0, Iz 10, Iz 100, .str 37 62228021012443361616823398888568113041575052876842322236365300642395623339188598244272244], 37721, ck15k ++ ck15a, .tup [Iz 1, Iz 0], 46814, ck15k ++ ck15b⟩
noncomputable def tb15 : List (Nat × List Ck) := [(10, [ck0, ck9, ck13, ck14]), (5, [ck1, ck2, ck12]), (6, [ck3, ck4, ck5, ck10, ck11]), (8, [ck6, ck7, ck8])]
theorem tb15_ok : CkRs Tryz.prog tb15 := ⟨⟨fk10, (ck_cons ck0r (ck_cons ck9r (ck_cons ck13r (ck_cons ck14r ck_nil))))⟩, ⟨⟨fk5, (ck_cons ck1r (ck_cons ck2r (ck_cons ck12r ck_nil)))⟩, ⟨⟨fk6, (ck_cons ck3r (ck_cons ck4r (ck_cons ck5r (ck_cons ck10r (ck_cons ck11r ck_nil)))))⟩, ⟨⟨fk8, (ck_cons ck6r (ck_cons ck7r (ck_cons ck8r ck_nil)))⟩, trivial⟩⟩⟩⟩
noncomputable def ov15 : Nat → Option (List AV → H → R) := ovC ovT tb15
theorem ov15_ok : OvOK Tryz.prog ov15 := ovC_ok (P := Tryz.prog) (base := ovT) (l := tb15) ov_ok tb15_ok
theorem ck15o : ckOk (evCall Tryz.prog hint ov15 100000 200 5) ck15 = true := by kernel_rfl
theorem ck15r : CkR Tryz.prog 5 ck15 := ck_call Tryz.checked.mixed ov15_ok ck15o
def ck16k : LH := [(0, .cells 430 (strBytes 32 4088518913827626597285369242834745541130067489702375943734699084159095931136) 34 true),
  (1, .cells 431 (strBytes 64 315684040783403026461198565492879320519372303033823910828724750665742568755751545437592878574175936176031276695822391845783248645128493468529036736594176) 66 true),
  (2, .cells 537 [.int .u64 (.ofNat 1), .int .u64 (.ofNat 10), .int .u64 (.ofNat 100), .int .u64 (.ofNat 1000), .int .u64 (.ofNat 10000), .int .u64 (.ofNat 100000), .int .u64 (.ofNat 1000000), .int .u64 (.ofNat 10000000), .int .u64 (.ofNat 100000000), .int .u64 (.ofNat 1000000000), .int .u64 (.ofNat 10000000000), .int .u64 (.ofNat 100000000000), .int .u64 (.ofNat 1000000000000), .int .u64 (.ofNat 10000000000000), .int .u64 (.ofNat 100000000000000), .int .u64 (.ofNat 1000000000000000), .int .u64 (.ofNat 10000000000000000), .int .u64 (.ofNat 100000000000000000), .int .u64 (.ofNat 1000000000000000000), .int .u64 (.ofNat 10000000000000000000)] 22 true),
  (37708, .cells 111 [.ptr 37705 0, .str 2 12660, Iz 60000, Iz 0, .ptr 37717 0, .bool false] 0 true),
  (37807, .cells 174 [Iz 7, .str 0 0, Bz 0, Bz 0, .int .u64 (.ofNat 0), .str 0 0, .nilslice, .nilslice, .nilslice] 0 false),
  (37816, .cells 174 [Iz 7, .str 0 0, Bz 0, Bz 0, .int .u64 (.ofNat 0), .str 0 0, .nilslice, .nilslice, .nilslice] 0 false),
  (37818, .cells 179 [.str 1 97, .nilslice, .sliceU 37807 0 1 9, .str 1 98, .nilslice, .sliceU 37816 0 1 9] 0 false),
  (38447, .cells 348 [.nilslice, Iz 7, Iz 0, Iz 1, Iz 0] 0 false),
  (38454, .cells 348 [.nilslice, Iz 7, Iz 0, Iz 1, Iz 0] 0 false),
  (38456, .cells 187 [.nilslice, Iz 0, .sliceU 38447 0 1 5, .nilslice, Iz 0, .sliceU 38454 0 1 5] 0 false),
  (38457, .cells 354 [.nilslice, Iz 0, .sliceU 38456 0 2 3, Iz 100, .nilslice, .nilslice, .sliceU 38463 0 2 5, .int .i64 (.negSucc 0), Iz 0, .int .i64 (.negSucc 0)] 0 true),
  (38463, .cells 357 [.nilslice, Iz 0, .nilslice, Iz 0, Iz 0, .nilslice, Iz 0, .nilslice, Iz 0, Iz 0] 0 false),
  (38473, .cells 348 [.nilslice, Iz 7, Iz 0, Iz 1, Iz 0] 0 false),
  (38480, .cells 348 [.nilslice, Iz 7, Iz 0, Iz 1, Iz 0] 0 false),
  (38482, .cells 187 [.nilslice, Iz 0, .sliceU 38473 0 1 5, .nilslice, Iz 0, .sliceU 38480 0 1 5] 0 false),
  (38483, .mp [] [] 0),
  (38484, .cells 204 [.nilslice, Iz 0, .sliceU 38482 0 2 3, Iz 100, Iz 10, .sliceU 38505 0 1 8, .map 38483, .slice 38485 0 2 2, .ptr 38510 0, Iz 0, Iz 0, Iz 0, Iz 0, Iz 0, Iz 0, .nilslice, .bool true] 0 true),
  (38485, .rep 70 2 [.nilslice] 0 true),
  (38505, .cells 209 [.ptr 38457 0, Iz 1, Iz 0, Iz 0, Iz 0, Iz 0, Iz 0, .nilslice] 0 false),
  (38510, .cells 354 [.nilslice, Iz 0, .sliceU 38456 0 2 3, Iz 100, .nilslice, .nilslice, .sliceU 38512 0 2 5, .int .i64 (.negSucc 0), Iz 0, .int .i64 (.negSucc 0)] 0 true),
  (38512, .cells 357 [.nilslice, Iz 0, .nilslice, Iz 0, Iz 0, .nilslice, Iz 0, .nilslice, Iz 0, Iz 0] 0 false),
  (38513, .cells 107 [Iz 1, Iz 0, Iz 0, Iz 10, Iz 100, Iz 0, Iz 0, Iz 0, .str 37 62228021012443361616823398888568113041575052876842322236365300642395623339188598244272244, .nilslice, .nilslice, .sliceU 37818 0 2 3, .ptr 38484 0, Iz 0, Iz 0, Iz 0, .nilslice] 0 true),
  (46808, .cells 5 (strBytes 61 227623078875855168393427091621822788809522524842040473647625445841390461094095836058353715398163076912317798872578762079906852547984026046239342592) 0 false)]
def ck16a : LH := [(37704, .mp [(.str 8 3471826091003228532, .agg [.sliceU 46808 0 61 1, Iz 61, .bool true])] [0] 1),
  (37705, .cells 83 [Iz 2097152, .map 37704, .int .i64 (.negSucc 0), Iz 2] 0 true),
  (37717, .cells 230 [.ptr 37705 0, .str 8 3471826091003228532, Iz 20000, Iz 1, Iz 61, .bool false] 0 true),
  (37718, .mp [(Iz 1, .ptr 38513 0)] [0] 1),
  (37719, .cells 115 [.bool true, .sliceU 46813 0 1 1] 0 true),
  (37720, .cells 55 [.ptr 37708 0, Iz 2, .map 37718, .ptr 37719 0, Iz 2, .bool false, .nilmap] 0 true),
  (46813, .cells 3 [Iz 1] 0 false)]
def ck16b : LH := [(37704, .mp [(.str 8 3471826091003228532, .agg [.sliceU 55902 0 122 1, Iz 122, .bool true])] [0] 1),
  (37705, .cells 83 [Iz 2097152, .map 37704, .int .i64 (.negSucc 0), Iz 4] 0 true),
  (37717, .cells 230 [.ptr 37705 0, .str 8 3471826091003228532, Iz 20000, Iz 2, Iz 122, .bool false] 0 true),
  (37718, .mp [(Iz 1, .ptr 38513 0), (Iz 2, .ptr 47606 0)] [0, 1] 2),
  (37719, .cells 115 [.bool true, .sliceU 55907 0 2 1] 0 true),
  (37720, .cells 55 [.ptr 37708 0, Iz 2, .map 37718, .ptr 37719 0, Iz 3, .bool false, .nilmap] 0 true),
  (46900, .cells 174 [Iz 7, .str 0 0, Bz 0, Bz 0, .int .u64 (.ofNat 0), .str 0 0, .nilslice, .nilslice, .nilslice] 0 false),
  (46909, .cells 174 [Iz 7, .str 0 0, Bz 0, Bz 0, .int .u64 (.ofNat 0), .str 0 0, .nilslice, .nilslice, .nilslice] 0 false),
  (46911, .cells 179 [.str 1 97, .nilslice, .sliceU 46900 0 1 9, .str 1 98, .nilslice, .sliceU 46909 0 1 9] 0 false),
  (47540, .cells 348 [.nilslice, Iz 7, Iz 0, Iz 1, Iz 0] 0 false),
  (47547, .cells 348 [.nilslice, Iz 7, Iz 0, Iz 1, Iz 0] 0 false),
  (47549, .cells 187 [.nilslice, Iz 0, .sliceU 47540 0 1 5, .nilslice, Iz 0, .sliceU 47547 0 1 5] 0 false),
  (47550, .cells 354 [.nilslice, Iz 0, .sliceU 47549 0 2 3, Iz 100, .nilslice, .nilslice, .sliceU 47556 0 2 5, .int .i64 (.negSucc 0), Iz 0, .int .i64 (.negSucc 0)] 0 true),
  (47556, .cells 357 [.nilslice, Iz 0, .nilslice, Iz 0, Iz 0, .nilslice, Iz 0, .nilslice, Iz 0, Iz 0] 0 false),
  (47566, .cells 348 [.nilslice, Iz 7, Iz 0, Iz 1, Iz 0] 0 false),
  (47573, .cells 348 [.nilslice, Iz 7, Iz 0, Iz 1, Iz 0] 0 false),
  (47575, .cells 187 [.nilslice, Iz 0, .sliceU 47566 0 1 5, .nilslice, Iz 0, .sliceU 47573 0 1 5] 0 false),
  (47576, .mp [] [] 0),
  (47577, .cells 204 [.nilslice, Iz 0, .sliceU 47575 0 2 3, Iz 100, Iz 10, .sliceU 47598 0 1 8, .map 47576, .slice 47578 0 2 2, .ptr 47603 0, Iz 0, Iz 0, Iz 0, Iz 0, Iz 0, Iz 0, .nilslice, .bool true] 0 true),
  (47578, .rep 70 2 [.nilslice] 0 true),
  (47598, .cells 209 [.ptr 47550 0, Iz 1, Iz 0, Iz 0, Iz 0, Iz 0, Iz 0, .nilslice] 0 false),
  (47603, .cells 354 [.nilslice, Iz 0, .sliceU 47549 0 2 3, Iz 100, .nilslice, .nilslice, .sliceU 47605 0 2 5, .int .i64 (.negSucc 0), Iz 0, .int .i64 (.negSucc 0)] 0 true),
  (47605, .cells 357 [.nilslice, Iz 0, .nilslice, Iz 0, Iz 0, .nilslice, Iz 0, .nilslice, Iz 0, Iz 0] 0 false),
  (47606, .cells 107 [Iz 2, Iz 0, Iz 0, Iz 10, Iz 100, Iz 0, Iz 0, Iz 0, .str 37 62228021012443361616823398888568113041575052876842322236365300642395623339188598244272244, .nilslice, .nilslice, .sliceU 46911 0 2 3, .ptr 47577 0, Iz 0, Iz 0, Iz 0, .nilslice] 0 true),
  (55902, .cells 5 (strBytes 122 27133859465353073043556877486114131584092476551085527103847918640192048366279259376798415196640001874917402555921979667747637301083857233180895753337815751278220526054523710824910470209469817454363374679477800977920264034063571837091250831065045835007277429670031856891051428910163249145577472) 0 false),
  (55907, .cells 3 [Iz 1, Iz 2] 0 false)]
def ck16 : Ck := ⟨[.ptr 37720 0, Iz 10, Iz 100, .str 37 62228021012443361616823398888568113041575052876842322236365300642395623339188598244272244], 46814, ck16k ++ ck16a, .tup [Iz 2, Iz 0], 55908, ck16k ++ ck16b⟩
noncomputable def tb16 : List (Nat × List Ck) := [(10, [ck0, ck9, ck13, ck14]), (5, [ck1, ck2, ck12, ck15]), (6, [ck3, ck4, ck5, ck10, ck11]), (8, [ck6, ck7, ck8])]
theorem tb16_ok : CkRs Tryz.prog tb16 := ⟨⟨fk10, (ck_cons ck0r (ck_cons ck9r (ck_cons ck13r (ck_cons ck14r ck_nil))))⟩, ⟨⟨fk5, (ck_cons ck1r (ck_cons ck2r (ck_cons ck12r (ck_cons ck15r ck_nil))))⟩, ⟨⟨fk6, (ck_cons ck3r (ck_cons ck4r (ck_cons ck5r (ck_cons ck10r (ck_cons ck11r ck_nil)))))⟩, ⟨⟨fk8, (ck_cons ck6r (ck_cons ck7r (ck_cons ck8r ck_nil)))⟩, trivial⟩⟩⟩⟩
noncomputable def ov16 : Nat → Option (List AV → H → R) := ovC ovT tb16
theorem ov16_ok : OvOK Tryz.prog ov16 := ovC_ok (P := Tryz.prog) (base := ovT) (l := tb16) ov_ok tb16_ok
theorem ck16o : ckOk (evCall Tryz.prog hint ov16 100000 200 5) ck16 = true := by kernel_rfl
theorem ck16r : CkR Tryz.prog 5 ck16 := ck_call Tryz.checked.mixed ov16_ok ck16o
def ck17k : LH := [(0, .cells 430 (strBytes 32 4088518913827626597285369242834745541130067489702375943734699084159095931136) 34 true),
  (1, .cells 431 (strBytes 64 315684040783403026461198565492879320519372303033823910828724750665742568755751545437592878574175936176031276695822391845783248645128493468529036736594176) 66 true),
  (2, .cells 537 [.int .u64 (.ofNat 1), .int .u64 (.ofNat 10), .int .u64 (.ofNat 100), .int .u64 (.ofNat 1000), .int .u64 (.ofNat 10000), .int .u64 (.ofNat 100000), .int .u64 (.ofNat 1000000), .int .u64 (.ofNat 10000000), .int .u64 (.ofNat 100000000), .int .u64 (.ofNat 1000000000), .int .u64 (.ofNat 10000000000), .int .u64 (.ofNat 100000000000), .int .u64 (.ofNat 1000000000000), .int .u64 (.ofNat 10000000000000), .int .u64 (.ofNat 100000000000000), .int .u64 (.ofNat 1000000000000000), .int .u64 (.ofNat 10000000000000000), .int .u64 (.ofNat 100000000000000000), .int .u64 (.ofNat 1000000000000000000), .int .u64 (.ofNat 10000000000000000000)] 22 true),
  (37704, .mp [(.str 8 3471826091003228532, .agg [.sliceU 55902 0 122 1, Iz 122, .bool true])] [0] 1),
  (37705, .cells 83 [Iz 2097152, .map 37704, .int .i64 (.negSucc 0), Iz 4] 0 true),
  (37708, .cells 111 [.ptr 37705 0, .str 2 12660, Iz 60000, Iz 0, .ptr 37717 0, .bool false] 0 true),
  (37717, .cells 230 [.ptr 37705 0, .str 8 3471826091003228532, Iz 20000, Iz 2, Iz 122, .bool false] 0 true),
  (37718, .mp [(Iz 1, .ptr 38513 0), (Iz 2, .ptr 47606 0)] [0, 1] 2),
  (37719, .cells 115 [.bool true, .sliceU 55907 0 2 1] 0 true),
  (37720, .cells 55 [.ptr 37708 0, Iz 2, .map 37718, .ptr 37719 0, Iz 3, .bool false, .nilmap] 0 true),
  (37807, .cells 174 [Iz 7, .str 0 0, Bz 0, Bz 0, .int .u64 (.ofNat 0), .str 0 0, .nilslice, .nilslice, .nilslice] 0 false),
  (37816, .cells 174 [Iz 7, .str 0 0, Bz 0, Bz 0, .int .u64 (.ofNat 0), .str 0 0, .nilslice, .nilslice, .nilslice] 0 false),
  (37818, .cells 179 [.str 1 97, .nilslice, .sliceU 37807 0 1 9, .str 1 98, .nilslice, .sliceU 37816 0 1 9] 0 false),
  (38447, .cells 348 [.nilslice, Iz 7, Iz 0, Iz 1, Iz 0] 0 false),
  (38454, .cells 348 [.nilslice, Iz 7, Iz 0, Iz 1, Iz 0] 0 false),
  (38456, .cells 187 [.nilslice, Iz 0, .sliceU 38447 0 1 5, .nilslice, Iz 0, .sliceU 38454 0 1 5] 0 false),
  (38457, .cells 354 [.nilslice, Iz 0, .sliceU 38456 0 2 3, Iz 100, .nilslice, .nilslice, .sliceU 38463 0 2 5, .int .i64 (.negSucc 0), Iz 0, .int .i64 (.negSucc 0)] 0 true),
  (38463, .cells 357 [.nilslice, Iz 0, .nilslice, Iz 0, Iz 0, .nilslice, Iz 0, .nilslice, Iz 0, Iz 0] 0 false),
  (38473, .cells 348 [.nilslice, Iz 7, Iz 0, Iz 1, Iz 0] 0 false),
  (38480, .cells 348 [.nilslice, Iz 7, Iz 0, Iz 1, Iz 0] 0 false),
  (38482, .cells 187 [.nilslice, Iz 0, .sliceU 38473 0 1 5, .nilslice, Iz 0, .sliceU 38480 0 1 5] 0 false),
  (38483, .mp [] [] 0),
  (38484, .cells 204 [.nilslice, Iz 0, .sliceU 38482 0 2 3, Iz 100, Iz 10, .sliceU 38505 0 1 8, .map 38483, .slice 38485 0 2 2, .ptr 38510 0, Iz 0, Iz 0, Iz 0, Iz 0, Iz 0, Iz 0, .nilslice, .bool true] 0 true),
  (38485, .rep 70 2 [.nilslice] 0 true),
  (38505, .cells 209 [.ptr 38457 0, Iz 1, Iz 0, Iz 0, Iz 0, Iz 0, Iz 0, .nilslice] 0 false),
  (38510, .cells 354 [.nilslice, Iz 0, .sliceU 38456 0 2 3, Iz 100, .nilslice, .nilslice, .sliceU 38512 0 2 5, .int .i64 (.negSucc 0), Iz 0, .int .i64 (.negSucc 0)] 0 true),
  (38512, .cells 357 [.nilslice, Iz 0, .nilslice, Iz 0, Iz 0, .nilslice, Iz 0, .nilslice, Iz 0, Iz 0] 0 false),
  (38513, .cells 107 [Iz 1, Iz 0, Iz 0, Iz 10, Iz 100, Iz 0, Iz 0, Iz 0, .str 37 62228021012443361616823398888568113041575052876842322236365300642395623339188598244272244, .nilslice, .nilslice, .sliceU 37818 0 2 3, .ptr 38484 0, Iz 0, Iz 0, Iz 0, .nilslice] 0 true),
  (46900, .cells 174 [Iz 7, .str 0 0, Bz 0, Bz 0, .int .u64 (.ofNat 0), .str 0 0, .nilslice, .nilslice, .nilslice] 0 false),
  (46909, .cells 174 [Iz 7, .str 0 0, Bz 0, Bz 0, .int .u64 (.ofNat 0), .str 0 0, .nilslice, .nilslice, .nilslice] 0 false),
  (46911, .cells 179 [.str 1 97, .nilslice, .sliceU 46900 0 1 9, .str 1 98, .nilslice, .sliceU 46909 0 1 9] 0 false),
  (47540, .cells 348 [.nilslice, Iz 7, Iz 0, Iz 1, Iz 0] 0 false),
  (47547, .cells 348 [.nilslice, Iz 7, Iz 0, Iz 1, Iz 0] 0 false),
  (47549, .cells 187 [.nilslice, Iz 0, .sliceU 47540 0 1 5, .nilslice, Iz 0, .sliceU 47547 0 1 5] 0 false),
  (47550, .cells 354 [.nilslice, Iz 0, .sliceU 47549 0 2 3, Iz 100, .nilslice, .nilslice, .sliceU 47556 0 2 5, .int .i64 (.negSucc 0), Iz 0, .int .i64 (.negSucc 0)] 0 true),
  (47556, .cells 357 [.nilslice, Iz 0, .nilslice, Iz 0, Iz 0, .nilslice, Iz 0, .nilslice, Iz 0, Iz 0] 0 false),
  (47566, .cells 348 [.nilslice, Iz 7, Iz 0, Iz 1, Iz 0] 0 false),
  (47573, .cells 348 [.nilslice, Iz 7, Iz 0, Iz 1, Iz 0] 0 false),
  (47575, .cells 187 [.nilslice, Iz 0, .sliceU 47566 0 1 5, .nilslice, Iz 0, .sliceU 47573 0 1 5] 0 false),
  (47576, .mp [] [] 0),
  (47577, .cells 204 [.nilslice, Iz 0, .sliceU 47575 0 2 3, Iz 100, Iz 10, .sliceU 47598 0 1 8, .map 47576, .slice 47578 0 2 2, .ptr 47603 0, Iz 0, Iz 0, Iz 0, Iz 0, Iz 0, Iz 0, .nilslice, .bool true] 0 true),
  (47578, .rep 70 2 [.nilslice] 0 true),
  (47598, .cells 209 [.ptr 47550 0, Iz 1, Iz 0, Iz 0, Iz 0, Iz 0, Iz 0, .nilslice] 0 false),
  (47603, .cells 354 [.nilslice, Iz 0, .sliceU 47549 0 2 3, Iz 100, .nilslice, .nilslice, .sliceU 47605 0 2 5, .int .i64 (.negSucc 0), Iz 0, .int .i64 (.negSucc 0)] 0 true),
  (47605, .cells 357 [.nilslice, Iz 0, .nilslice, Iz 0, Iz 0, .nilslice, Iz 0, .nilslice, Iz 0, Iz 0] 0 false),
  (47606, .cells 107 [Iz 2, Iz 0, Iz 0, Iz 10, Iz 100, Iz 0, Iz 0, Iz 0, .str 37 62228021012443361616823398888568113041575052876842322236365300642395623339188598244272244, .nilslice, .nilslice, .sliceU 46911 0 2 3, .ptr 47577 0, Iz 0, Iz 0, Iz 0, .nilslice] 0 true),
  (55902, .cells 5 (strBytes 122 27133859465353073043556877486114131584092476551085527103847918640192048366279259376798415196640001874917402555921979667747637301083857233180895753337815751278220526054523710824910470209469817454363374679477800977920264034063571837091250831065045835007277429670031856891051428910163249145577472) 0 false),
  (55907, .cells 3 [Iz 1, Iz 2] 0 false)]
def ck17a : LH := []
def ck17b : LH := []
def ck17 : Ck := ⟨[.ptr 37720 0, Iz 10, Iz 100, .str 37 62228021012443361616823398888568113041575052876842322236365300642395623339188598244272244], 55908, ck17k ++ ck17a, .tup [Iz 0, Iz 12], 55908, ck17k ++ ck17b⟩
noncomputable def tb17 : List (Nat × List Ck) := [(10, [ck0, ck9, ck13, ck14]), (5, [ck1, ck2, ck12, ck15, ck16]), (6, [ck3, ck4, ck5, ck10, ck11]), (8, [ck6, ck7, ck8])]
theorem tb17_ok : CkRs Tryz.prog tb17 := ⟨⟨fk10, (ck_cons ck0r (ck_cons ck9r (ck_cons ck13r (ck_cons ck14r ck_nil))))⟩, ⟨⟨fk5, (ck_cons ck1r (ck_cons ck2r (ck_cons ck12r (ck_cons ck15r (ck_cons ck16r ck_nil)))))⟩, ⟨⟨fk6, (ck_cons ck3r (ck_cons ck4r (ck_cons ck5r (ck_cons ck10r (ck_cons ck11r ck_nil)))))⟩, ⟨⟨fk8, (ck_cons ck6r (ck_cons ck7r (ck_cons ck8r ck_nil)))⟩, trivial⟩⟩⟩⟩
noncomputable def ov17 : Nat → Option (List AV → H → R) := ovC ovT tb17
theorem ov17_ok : OvOK Tryz.prog ov17 := ovC_ok (P := Tryz.prog) (base := ovT) (l := tb17) ov_ok tb17_ok
theorem ck17o : ckOk (evCall Tryz.prog hint ov17 100000 200 5) ck17 = true := by kernel_rfl
theorem ck17r : CkR Tryz.prog 5 ck17 := ck_call Tryz.checked.mixed ov17_ok ck17o
def ck18k : LH := [(0, .cells 430 (strBytes 32 4088518913827626597285369242834745541130067489702375943734699084159095931136) 34 true),
  (1, .cells 431 (strBytes 64 315684040783403026461198565492879320519372303033823910828724750665742568755751545437592878574175936176031276695822391845783248645128493468529036736594176) 66 true),
  (2, .cells 537 [.int .u64 (.ofNat 1), .int .u64 (.ofNat 10), .int .u64 (.ofNat 100), .int .u64 (.ofNat 1000), .int .u64 (.ofNat 10000), .int .u64 (.ofNat 100000), .int .u64 (.ofNat 1000000), .int .u64 (.ofNat 10000000), .int .u64 (.ofNat 100000000), .int .u64 (.ofNat 1000000000), .int .u64 (.ofNat 10000000000), .int .u64 (.ofNat 100000000000), .int .u64 (.ofNat 1000000000000), .int .u64 (.ofNat 10000000000000), .int .u64 (.ofNat 100000000000000), .int .u64 (.ofNat 1000000000000000), .int .u64 (.ofNat 10000000000000000), .int .u64 (.ofNat 100000000000000000), .int .u64 (.ofNat 1000000000000000000), .int .u64 (.ofNat 10000000000000000000)] 22 true),
  (37708, .cells 111 [.ptr 37705 0, .str 2 12660, Iz 60000, Iz 0, .ptr 37717 0, .bool false] 0 true),
  (37718, .mp [(Iz 1, .ptr 38513 0), (Iz 2, .ptr 47606 0)] [0, 1] 2),
  (37720, .cells 55 [.ptr 37708 0, Iz 2, .map 37718, .ptr 37719 0, Iz 3, .bool false, .nilmap] 0 true),
  (37807, .cells 174 [Iz 7, .str 0 0, Bz 0, Bz 0, .int .u64 (.ofNat 0), .str 0 0, .nilslice, .nilslice, .nilslice] 0 false),
  (37816, .cells 174 [Iz 7, .str 0 0, Bz 0, Bz 0, .int .u64 (.ofNat 0), .str 0 0, .nilslice, .nilslice, .nilslice] 0 false),
  (37818, .cells 179 [.str 1 97, .nilslice, .sliceU 37807 0 1 9, .str 1 98, .nilslice, .sliceU 37816 0 1 9] 0 false),
  (38447, .cells 348 [.nilslice, Iz 7, Iz 0, Iz 1, Iz 0] 0 false),
  (38454, .cells 348 [.nilslice, Iz 7, Iz 0, Iz 1, Iz 0] 0 false),
  (38456, .cells 187 [.nilslice, Iz 0, .sliceU 38447 0 1 5, .nilslice, Iz 0, .sliceU 38454 0 1 5] 0 false),
  (38457, .cells 354 [.nilslice, Iz 0, .sliceU 38456 0 2 3, Iz 100, .nilslice, .nilslice, .sliceU 38463 0 2 5, .int .i64 (.negSucc 0), Iz 0, .int .i64 (.negSucc 0)] 0 true),
  (38463, .cells 357 [.nilslice, Iz 0, .nilslice, Iz 0, Iz 0, .nilslice, Iz 0, .nilslice, Iz 0, Iz 0] 0 false),
  (38473, .cells 348 [.nilslice, Iz 7, Iz 0, Iz 1, Iz 0] 0 false),
  (38480, .cells 348 [.nilslice, Iz 7, Iz 0, Iz 1, Iz 0] 0 false),
  (38482, .cells 187 [.nilslice, Iz 0, .sliceU 38473 0 1 5, .nilslice, Iz 0, .sliceU 38480 0 1 5] 0 false),
  (38483, .mp [] [] 0),
  (38510, .cells 354 [.nilslice, Iz 0, .sliceU 38456 0 2 3, Iz 100, .nilslice, .nilslice, .sliceU 38512 0 2 5, .int .i64 (.negSucc 0), Iz 0, .int .i64 (.negSucc 0)] 0 true),
  (46900, .cells 174 [Iz 7, .str 0 0, Bz 0, Bz 0, .int .u64 (.ofNat 0), .str 0 0, .nilslice, .nilslice, .nilslice] 0 false),
  (46909, .cells 174 [Iz 7, .str 0 0, Bz 0, Bz 0, .int .u64 (.ofNat 0), .str 0 0, .nilslice, .nilslice, .nilslice] 0 false),
  (46911, .cells 179 [.str 1 97, .nilslice, .sliceU 46900 0 1 9, .str 1 98, .nilslice, .sliceU 46909 0 1 9] 0 false),
  (47540, .cells 348 [.nilslice, Iz 7, Iz 0, Iz 1, Iz 0] 0 false),
  (47547, .cells 348 [.nilslice, Iz 7, Iz 0, Iz 1, Iz 0] 0 false),
  (47549, .cells 187 [.nilslice, Iz 0, .sliceU 47540 0 1 5, .nilslice, Iz 0, .sliceU 47547 0 1 5] 0 false),
  (47550, .cells 354 [.nilslice, Iz 0, .sliceU 47549 0 2 3, Iz 100, .nilslice, .nilslice, .sliceU 47556 0 2 5, .int .i64 (.negSucc 0), Iz 0, .int .i64 (.negSucc 0)] 0 true),
  (47556, .cells 357 [.nilslice, Iz 0, .nilslice, Iz 0, Iz 0, .nilslice, Iz 0, .nilslice, Iz 0, Iz 0] 0 false),
  (47566, .cells 348 [.nilslice, Iz 7, Iz 0, Iz 1, Iz 0] 0 false),
  (47573, .cells 348 [.nilslice, Iz 7, Iz 0, Iz 1, Iz 0] 0 false),
  (47575, .cells 187 [.nilslice, Iz 0, .sliceU 47566 0 1 5, .nilslice, Iz 0, .sliceU 47573 0 1 5] 0 false),
  (47576, .mp [] [] 0),
  (47577, .cells 204 [.nilslice, Iz 0, .sliceU 47575 0 2 3, Iz 100, Iz 10, .sliceU 47598 0 1 8, .map 47576, .slice 47578 0 2 2, .ptr 47603 0, Iz 0, Iz 0, Iz 0, Iz 0, Iz 0, Iz 0, .nilslice, .bool true] 0 true),
  (47578, .rep 70 2 [.nilslice] 0 true),
  (47598, .cells 209 [.ptr 47550 0, Iz 1, Iz 0, Iz 0, Iz 0, Iz 0, Iz 0, .nilslice] 0 false),
  (47603, .cells 354 [.nilslice, Iz 0, .sliceU 47549 0 2 3, Iz 100, .nilslice, .nilslice, .sliceU 47605 0 2 5, .int .i64 (.negSucc 0), Iz 0, .int .i64 (.negSucc 0)] 0 true),
  (47605, .cells 357 [.nilslice, Iz 0, .nilslice, Iz 0, Iz 0, .nilslice, Iz 0, .nilslice, Iz 0, Iz 0] 0 false),
  (47606, .cells 107 [Iz 2, Iz 0, Iz 0, Iz 10, Iz 100, Iz 0, Iz 0, Iz 0, .str 37 62228021012443361616823398888568113041575052876842322236365300642395623339188598244272244, .nilslice, .nilslice, .sliceU 46911 0 2 3, .ptr 47577 0, Iz 0, Iz 0, Iz 0, .nilslice] 0 true),
  (55902, .cells 5 (strBytes 122 27133859465353073043556877486114131584092476551085527103847918640192048366279259376798415196640001874917402555921979667747637301083857233180895753337815751278220526054523710824910470209469817454363374679477800977920264034063571837091250831065045835007277429670031856891051428910163249145577472) 0 false),
  (55907, .cells 3 [Iz 1, Iz 2] 0 false)]
def ck18a : LH := [(37704, .mp [(.str 8 3471826091003228532, .agg [.sliceU 55902 0 122 1, Iz 122, .bool true])] [0] 1),
  (37705, .cells 83 [Iz 2097152, .map 37704, .int .i64 (.negSucc 0), Iz 4] 0 true),
  (37717, .cells 230 [.ptr 37705 0, .str 8 3471826091003228532, Iz 20000, Iz 2, Iz 122, .bool false] 0 true),
  (37719, .cells 115 [.bool true, .sliceU 55907 0 2 1] 0 true),
  (38484, .cells 204 [.nilslice, Iz 0, .sliceU 38482 0 2 3, Iz 100, Iz 10, .sliceU 38505 0 1 8, .map 38483, .slice 38485 0 2 2, .ptr 38510 0, Iz 0, Iz 0, Iz 0, Iz 0, Iz 0, Iz 0, .nilslice, .bool true] 0 true),
  (38485, .rep 70 2 [.nilslice] 0 true),
  (38505, .cells 209 [.ptr 38457 0, Iz 1, Iz 0, Iz 0, Iz 0, Iz 0, Iz 0, .nilslice] 0 false),
  (38512, .cells 357 [.nilslice, Iz 0, .nilslice, Iz 0, Iz 0, .nilslice, Iz 0, .nilslice, Iz 0, Iz 0] 0 false),
  (38513, .cells 107 [Iz 1, Iz 0, Iz 0, Iz 10, Iz 100, Iz 0, Iz 0, Iz 0, .str 37 62228021012443361616823398888568113041575052876842322236365300642395623339188598244272244, .nilslice, .nilslice, .sliceU 37818 0 2 3, .ptr 38484 0, Iz 0, Iz 0, Iz 0, .nilslice] 0 true)]
def ck18b : LH := [(37704, .mp [(.str 8 3471826091003228532, .agg [.sliceU 61016 0 149 1, Iz 149, .bool true])] [0] 1),
  (37705, .cells 83 [Iz 2097152, .map 37704, .int .i64 (.negSucc 0), Iz 6] 0 true),
  (37717, .cells 230 [.ptr 37705 0, .str 8 3471826091003228532, Iz 20000, Iz 3, Iz 149, .bool false] 0 true),
  (37719, .cells 115 [.bool true, .sliceU 61022 0 1 1] 0 true),
  (38484, .cells 204 [.nilslice, Iz 0, .sliceU 38482 0 2 3, Iz 100, Iz 10, .nilslice, .nilmap, .slice 38485 0 2 2, .nilptr, Iz 0, Iz 1, Iz 2, Iz 1, Iz 0, Iz 0, .nilslice, .bool true] 0 true),
  (38485, .cells 70 [.sliceU 55961 0 0 1, .sliceU 56001 0 0 1] 0 true),
  (38512, .cells 357 [.nilslice, Iz 1, .nilslice, Iz 1, Iz 0, .nilslice, Iz 0, .nilslice, Iz 0, Iz 0] 0 false),
  (38513, .cells 107 [Iz 1, Iz 1, Iz 0, Iz 10, Iz 100, Iz 2, Iz 1, Iz 0, .str 37 62228021012443361616823398888568113041575052876842322236365300642395623339188598244272244, .nilslice, .nilslice, .sliceU 37818 0 2 3, .nilptr, Iz 1, Iz 0, Iz 0, .nilslice] 0 true),
  (55961, .cells 3 [Iz 0] 0 false),
  (56001, .cells 3 [Iz 1] 0 false),
  (61016, .cells 5 (strBytes 149 61546895602235770494158927853765261337788357621370466538288734027291824673289308171040193682016026629941949852893355402595898987599612377765904993340014112874110229176390510027577271763618684378287927304473933456889765874408868612137356573410929463979653528668325004822756517099585942335367599129118194678325749202813541095687325516389994980153822181249253376) 0 false),
  (61022, .cells 3 [Iz 2] 0 false)]
def ck18 : Ck := ⟨[.ptr 37720 0, Iz 5], 55908, ck18k ++ ck18a, .tup [.agg [Iz 1, Iz 2, .bool true], Iz 0], 61023, ck18k ++ ck18b⟩
noncomputable def tb18 : List (Nat × List Ck) := [(10, [ck0, ck9, ck13, ck14]), (5, [ck1, ck2, ck12, ck15, ck16, ck17]), (6, [ck3, ck4, ck5, ck10, ck11]), (8, [ck6, ck7, ck8])]
theorem tb18_ok : CkRs Tryz.prog tb18 := ⟨⟨fk10, (ck_cons ck0r (ck_cons ck9r (ck_cons ck13r (ck_cons ck14r ck_nil))))⟩, ⟨⟨fk5, (ck_cons ck1r (ck_cons ck2r (ck_cons ck12r (ck_cons ck15r (ck_cons ck16r (ck_cons ck17r ck_nil))))))⟩, ⟨⟨fk6, (ck_cons ck3r (ck_cons ck4r (ck_cons ck5r (ck_cons ck10r (ck_cons ck11r ck_nil)))))⟩, ⟨⟨fk8, (ck_cons ck6r (ck_cons ck7r (ck_cons ck8r ck_nil)))⟩, trivial⟩⟩⟩⟩
noncomputable def ov18 : Nat → Option (List AV → H → R) := ovC ovT tb18
theorem ov18_ok : OvOK Tryz.prog ov18 := ovC_ok (P := Tryz.prog) (base := ovT) (l := tb18) ov_ok tb18_ok
theorem ck18o : ckOk (evCall Tryz.prog hint ov18 100000 200 6) ck18 = true := by kernel_rfl
theorem ck18r : CkR Tryz.prog 6 ck18 := ck_call Tryz.checked.mixed ov18_ok ck18o
end Go.Proofs.YtkmlcncemcaidaaGreatDoor
