/-
  CHECKPOINTS of DocketKnown: calls, each computed by itself.
-/
import Derived.Test.YtkmlcncemcaidaaGreatDoorDkK1
namespace Go.Proofs.YtkmlcncemcaidaaGreatDoor
open Go Go.Ev
set_option maxRecDepth 100000
def ck10k : LH := [(0, .cells 430 (strBytes 32 4088518913827626597285369242834745541130067489702375943734699084159095931136) 34 true),
  (1, .cells 431 (strBytes 64 315684040783403026461198565492879320519372303033823910828724750665742568755751545437592878574175936176031276695822391845783248645128493468529036736594176) 66 true),
  (2, .cells 537 [.int .u64 (.ofNat 1), .int .u64 (.ofNat 10), .int .u64 (.ofNat 100), .int .u64 (.ofNat 1000), .int .u64 (.ofNat 10000), .int .u64 (.ofNat 100000), .int .u64 (.ofNat 1000000), .int .u64 (.ofNat 10000000), .int .u64 (.ofNat 100000000), .int .u64 (.ofNat 1000000000), .int .u64 (.ofNat 10000000000), .int .u64 (.ofNat 100000000000), .int .u64 (.ofNat 1000000000000), .int .u64 (.ofNat 10000000000000), .int .u64 (.ofNat 100000000000000), .int .u64 (.ofNat 1000000000000000), .int .u64 (.ofNat 10000000000000000), .int .u64 (.ofNat 100000000000000000), .int .u64 (.ofNat 1000000000000000000), .int .u64 (.ofNat 10000000000000000000)] 22 true),
  (4096, .mp [(.str 8 3471826091003228532, .agg [.sliceU 35877 0 193 1, Iz 193, .bool true])] [0] 1),
  (4097, .cells 83 [Iz 2097152, .map 4096, .int .i64 (.negSucc 0), Iz 10] 0 true),
  (4100, .cells 111 [.ptr 4097 0, .str 2 12660, Iz 60000, Iz 0, .ptr 4109 0, .bool false] 0 true),
  (4109, .cells 230 [.ptr 4097 0, .str 8 3471826091003228532, Iz 20000, Iz 5, Iz 193, .bool false] 0 true),
  (4110, .mp [(Iz 1, .ptr 4905 0)] [0] 2),
  (4111, .cells 115 [.bool true, .nilslice] 0 true),
  (4112, .cells 55 [.ptr 4100 0, Iz 2, .map 4110, .ptr 4111 0, Iz 3, .bool false, .nilmap] 0 true),
  (4199, .cells 174 [Iz 7, .str 0 0, Bz 0, Bz 0, .int .u64 (.ofNat 0), .str 0 0, .nilslice, .nilslice, .nilslice] 0 false),
  (4208, .cells 174 [Iz 7, .str 0 0, Bz 0, Bz 0, .int .u64 (.ofNat 0), .str 0 0, .nilslice, .nilslice, .nilslice] 0 false),
  (4210, .cells 179 [.str 1 97, .nilslice, .sliceU 4199 0 1 9, .str 1 98, .nilslice, .sliceU 4208 0 1 9] 0 false),
  (4905, .cells 107 [Iz 1, Iz 1, Iz 0, Iz 10, Iz 100, Iz 2, Iz 1, Iz 0, .str 37 62228021012443361616823398888568113041575052876842322236365300642395623339188598244272244, .nilslice, .nilslice, .sliceU 4210 0 2 3, .nilptr, Iz 1, Iz 0, Iz 0, .nilslice] 0 true),
  (35877, .cells 5 (strBytes 193 92002721978100410575123210370184955650938070722457583457436087023926243887336161696509533095693820553768694160768823194581769136484342312599616611059982225829622676008614591830819778417254754130832299704149562998815775357599032396103260031624542063932377713436850410452707996861280633723609476857195124644613975251489061170324049137665582624875363323076775043225084651388662083588443616814368215837160646698468058194018043824099011666542179638214411533514981769216) 0 false)]
def ck10a : LH := []
def ck10b : LH := []
def ck10 : Ck := ⟨[.ptr 4112 0, Iz 0], 37699, ck10k ++ ck10a, .tup [.agg [Iz 0, Iz 0, .bool false], Iz 2], 37700, ck10k ++ ck10b⟩
noncomputable def tb10 : List (Nat × List Ck) := [(10, [ck0, ck9]), (5, [ck1, ck2]), (6, [ck3, ck4, ck5]), (8, [ck6, ck7, ck8])]
theorem tb10_ok : CkRs Tryz.prog tb10 := ⟨⟨fk10, (ck_cons ck0r (ck_cons ck9r ck_nil))⟩, ⟨⟨fk5, (ck_cons ck1r (ck_cons ck2r ck_nil))⟩, ⟨⟨fk6, (ck_cons ck3r (ck_cons ck4r (ck_cons ck5r ck_nil)))⟩, ⟨⟨fk8, (ck_cons ck6r (ck_cons ck7r (ck_cons ck8r ck_nil)))⟩, trivial⟩⟩⟩⟩
noncomputable def ov10 : Nat → Option (List AV → H → R) := ovC ovT tb10
theorem ov10_ok : OvOK Tryz.prog ov10 := ovC_ok (P := Tryz.prog) (base := ovT) (l := tb10) ov_ok tb10_ok
theorem ck10o : ckOk (evCall Tryz.prog hint ov10 100000 200 6) ck10 = true := by kernel_rfl
theorem ck10r : CkR Tryz.prog 6 ck10 := ck_call Tryz.checked.mixed ov10_ok ck10o
def ck11k : LH := [(0, .cells 430 (strBytes 32 4088518913827626597285369242834745541130067489702375943734699084159095931136) 34 true),
  (1, .cells 431 (strBytes 64 315684040783403026461198565492879320519372303033823910828724750665742568755751545437592878574175936176031276695822391845783248645128493468529036736594176) 66 true),
  (2, .cells 537 [.int .u64 (.ofNat 1), .int .u64 (.ofNat 10), .int .u64 (.ofNat 100), .int .u64 (.ofNat 1000), .int .u64 (.ofNat 10000), .int .u64 (.ofNat 100000), .int .u64 (.ofNat 1000000), .int .u64 (.ofNat 10000000), .int .u64 (.ofNat 100000000), .int .u64 (.ofNat 1000000000), .int .u64 (.ofNat 10000000000), .int .u64 (.ofNat 100000000000), .int .u64 (.ofNat 1000000000000), .int .u64 (.ofNat 10000000000000), .int .u64 (.ofNat 100000000000000), .int .u64 (.ofNat 1000000000000000), .int .u64 (.ofNat 10000000000000000), .int .u64 (.ofNat 100000000000000000), .int .u64 (.ofNat 1000000000000000000), .int .u64 (.ofNat 10000000000000000000)] 22 true),
  (4096, .mp [(.str 8 3471826091003228532, .agg [.sliceU 35877 0 193 1, Iz 193, .bool true])] [0] 1),
  (4097, .cells 83 [Iz 2097152, .map 4096, .int .i64 (.negSucc 0), Iz 10] 0 true),
  (4100, .cells 111 [.ptr 4097 0, .str 2 12660, Iz 60000, Iz 0, .ptr 4109 0, .bool false] 0 true),
  (4109, .cells 230 [.ptr 4097 0, .str 8 3471826091003228532, Iz 20000, Iz 5, Iz 193, .bool false] 0 true),
  (4110, .mp [(Iz 1, .ptr 4905 0)] [0] 2),
  (4111, .cells 115 [.bool true, .nilslice] 0 true),
  (4112, .cells 55 [.ptr 4100 0, Iz 2, .map 4110, .ptr 4111 0, Iz 3, .bool false, .nilmap] 0 true),
  (4199, .cells 174 [Iz 7, .str 0 0, Bz 0, Bz 0, .int .u64 (.ofNat 0), .str 0 0, .nilslice, .nilslice, .nilslice] 0 false),
  (4208, .cells 174 [Iz 7, .str 0 0, Bz 0, Bz 0, .int .u64 (.ofNat 0), .str 0 0, .nilslice, .nilslice, .nilslice] 0 false),
  (4210, .cells 179 [.str 1 97, .nilslice, .sliceU 4199 0 1 9, .str 1 98, .nilslice, .sliceU 4208 0 1 9] 0 false),
  (4905, .cells 107 [Iz 1, Iz 1, Iz 0, Iz 10, Iz 100, Iz 2, Iz 1, Iz 0, .str 37 62228021012443361616823398888568113041575052876842322236365300642395623339188598244272244, .nilslice, .nilslice, .sliceU 4210 0 2 3, .nilptr, Iz 1, Iz 0, Iz 0, .nilslice] 0 true),
  (35877, .cells 5 (strBytes 193 92002721978100410575123210370184955650938070722457583457436087023926243887336161696509533095693820553768694160768823194581769136484342312599616611059982225829622676008614591830819778417254754130832299704149562998815775357599032396103260031624542063932377713436850410452707996861280633723609476857195124644613975251489061170324049137665582624875363323076775043225084651388662083588443616814368215837160646698468058194018043824099011666542179638214411533514981769216) 0 false)]
def ck11a : LH := []
def ck11b : LH := []
def ck11 : Ck := ⟨[.ptr 4112 0, Iz 3], 37701, ck11k ++ ck11a, .tup [.agg [Iz 0, Iz 0, .bool false], Iz 0], 37702, ck11k ++ ck11b⟩
noncomputable def tb11 : List (Nat × List Ck) := [(10, [ck0, ck9]), (5, [ck1, ck2]), (6, [ck3, ck4, ck5, ck10]), (8, [ck6, ck7, ck8])]
theorem tb11_ok : CkRs Tryz.prog tb11 := ⟨⟨fk10, (ck_cons ck0r (ck_cons ck9r ck_nil))⟩, ⟨⟨fk5, (ck_cons ck1r (ck_cons ck2r ck_nil))⟩, ⟨⟨fk6, (ck_cons ck3r (ck_cons ck4r (ck_cons ck5r (ck_cons ck10r ck_nil))))⟩, ⟨⟨fk8, (ck_cons ck6r (ck_cons ck7r (ck_cons ck8r ck_nil)))⟩, trivial⟩⟩⟩⟩
noncomputable def ov11 : Nat → Option (List AV → H → R) := ovC ovT tb11
theorem ov11_ok : OvOK Tryz.prog ov11 := ovC_ok (P := Tryz.prog) (base := ovT) (l := tb11) ov_ok tb11_ok
theorem ck11o : ckOk (evCall Tryz.prog hint ov11 100000 200 6) ck11 = true := by kernel_rfl
theorem ck11r : CkR Tryz.prog 6 ck11 := ck_call Tryz.checked.mixed ov11_ok ck11o
def ck12k : LH := [(0, .cells 430 (strBytes 32 4088518913827626597285369242834745541130067489702375943734699084159095931136) 34 true),
  (1, .cells 431 (strBytes 64 315684040783403026461198565492879320519372303033823910828724750665742568755751545437592878574175936176031276695822391845783248645128493468529036736594176) 66 true),
  (2, .cells 537 [.int .u64 (.ofNat 1), .int .u64 (.ofNat 10), .int .u64 (.ofNat 100), .int .u64 (.ofNat 1000), .int .u64 (.ofNat 10000), .int .u64 (.ofNat 100000), .int .u64 (.ofNat 1000000), .int .u64 (.ofNat 10000000), .int .u64 (.ofNat 100000000), .int .u64 (.ofNat 1000000000), .int .u64 (.ofNat 10000000000), .int .u64 (.ofNat 100000000000), .int .u64 (.ofNat 1000000000000), .int .u64 (.ofNat 10000000000000), .int .u64 (.ofNat 100000000000000), .int .u64 (.ofNat 1000000000000000), .int .u64 (.ofNat 10000000000000000), .int .u64 (.ofNat 100000000000000000), .int .u64 (.ofNat 1000000000000000000), .int .u64 (.ofNat 10000000000000000000)] 22 true),
  (4096, .mp [(.str 8 3471826091003228532, .agg [.sliceU 35877 0 193 1, Iz 193, .bool true])] [0] 1),
  (4097, .cells 83 [Iz 2097152, .map 4096, .int .i64 (.negSucc 0), Iz 10] 0 true),
  (4100, .cells 111 [.ptr 4097 0, .str 2 12660, Iz 60000, Iz 0, .ptr 4109 0, .bool false] 0 true),
  (4109, .cells 230 [.ptr 4097 0, .str 8 3471826091003228532, Iz 20000, Iz 5, Iz 193, .bool false] 0 true),
  (4110, .mp [(Iz 1, .ptr 4905 0)] [0] 2),
  (4111, .cells 115 [.bool true, .nilslice] 0 true),
  (4112, .cells 55 [.ptr 4100 0, Iz 2, .map 4110, .ptr 4111 0, Iz 3, .bool false, .nilmap] 0 true),
  (4199, .cells 174 [Iz 7, .str 0 0, Bz 0, Bz 0, .int .u64 (.ofNat 0), .str 0 0, .nilslice, .nilslice, .nilslice] 0 false),
  (4208, .cells 174 [Iz 7, .str 0 0, Bz 0, Bz 0, .int .u64 (.ofNat 0), .str 0 0, .nilslice, .nilslice, .nilslice] 0 false),
  (4210, .cells 179 [.str 1 97, .nilslice, .sliceU 4199 0 1 9, .str 1 98, .nilslice, .sliceU 4208 0 1 9] 0 false),
  (4905, .cells 107 [Iz 1, Iz 1, Iz 0, Iz 10, Iz 100, Iz 2, Iz 1, Iz 0, .str 37 62228021012443361616823398888568113041575052876842322236365300642395623339188598244272244, .nilslice, .nilslice, .sliceU 4210 0 2 3, .nilptr, Iz 1, Iz 0, Iz 0, .nilslice] 0 true),
  (35877, .cells 5 (strBytes 193 92002721978100410575123210370184955650938070722457583457436087023926243887336161696509533095693820553768694160768823194581769136484342312599616611059982225829622676008614591830819778417254754130832299704149562998815775357599032396103260031624542063932377713436850410452707996861280633723609476857195124644613975251489061170324049137665582624875363323076775043225084651388662083588443616814368215837160646698468058194018043824099011666542179638214411533514981769216) 0 false)]
def ck12a : LH := []
def ck12b : LH := []
def ck12 : Ck := ⟨[.ptr 4112 0, Iz 0, Iz 1, .str 37 62228021012443361616823398888568113041575052876842322236365300642395623339188598244272244], 37703, ck12k ++ ck12a, .tup [Iz 0, Iz 2], 37703, ck12k ++ ck12b⟩
noncomputable def tb12 : List (Nat × List Ck) := [(10, [ck0, ck9]), (5, [ck1, ck2]), (6, [ck3, ck4, ck5, ck10, ck11]), (8, [ck6, ck7, ck8])]
theorem tb12_ok : CkRs Tryz.prog tb12 := ⟨⟨fk10, (ck_cons ck0r (ck_cons ck9r ck_nil))⟩, ⟨⟨fk5, (ck_cons ck1r (ck_cons ck2r ck_nil))⟩, ⟨⟨fk6, (ck_cons ck3r (ck_cons ck4r (ck_cons ck5r (ck_cons ck10r (ck_cons ck11r ck_nil)))))⟩, ⟨⟨fk8, (ck_cons ck6r (ck_cons ck7r (ck_cons ck8r ck_nil)))⟩, trivial⟩⟩⟩⟩
noncomputable def ov12 : Nat → Option (List AV → H → R) := ovC ovT tb12
theorem ov12_ok : OvOK Tryz.prog ov12 := ovC_ok (P := Tryz.prog) (base := ovT) (l := tb12) ov_ok tb12_ok
theorem ck12o : ckOk (evCall Tryz.prog hint ov12 100000 200 5) ck12 = true := by kernel_rfl
theorem ck12r : CkR Tryz.prog 5 ck12 := ck_call Tryz.checked.mixed ov12_ok ck12o
def ck13k : LH := [(0, .cells 430 (strBytes 32 4088518913827626597285369242834745541130067489702375943734699084159095931136) 34 true),
  (1, .cells 431 (strBytes 64 315684040783403026461198565492879320519372303033823910828724750665742568755751545437592878574175936176031276695822391845783248645128493468529036736594176) 66 true),
  (2, .cells 537 [.int .u64 (.ofNat 1), .int .u64 (.ofNat 10), .int .u64 (.ofNat 100), .int .u64 (.ofNat 1000), .int .u64 (.ofNat 10000), .int .u64 (.ofNat 100000), .int .u64 (.ofNat 1000000), .int .u64 (.ofNat 10000000), .int .u64 (.ofNat 100000000), .int .u64 (.ofNat 1000000000), .int .u64 (.ofNat 10000000000), .int .u64 (.ofNat 100000000000), .int .u64 (.ofNat 1000000000000), .int .u64 (.ofNat 10000000000000), .int .u64 (.ofNat 100000000000000), .int .u64 (.ofNat 1000000000000000), .int .u64 (.ofNat 10000000000000000), .int .u64 (.ofNat 100000000000000000), .int .u64 (.ofNat 1000000000000000000), .int .u64 (.ofNat 10000000000000000000)] 22 true),
  (4096, .mp [(.str 8 3471826091003228532, .agg [.sliceU 35877 0 193 1, Iz 193, .bool true])] [0] 1),
  (4097, .cells 83 [Iz 2097152, .map 4096, .int .i64 (.negSucc 0), Iz 10] 0 true),
  (35877, .cells 5 (strBytes 193 92002721978100410575123210370184955650938070722457583457436087023926243887336161696509533095693820553768694160768823194581769136484342312599616611059982225829622676008614591830819778417254754130832299704149562998815775357599032396103260031624542063932377713436850410452707996861280633723609476857195124644613975251489061170324049137665582624875363323076775043225084651388662083588443616814368215837160646698468058194018043824099011666542179638214411533514981769216) 0 false)]
def ck13a : LH := []
def ck13b : LH := []
def ck13 : Ck := ⟨[.ptr 4097 0, .str 2 12660, Iz 59999, Iz 2], 37703, ck13k ++ ck13a, .tup [.nilptr, Iz 2], 37704, ck13k ++ ck13b⟩
noncomputable def tb13 : List (Nat × List Ck) := [(10, [ck0, ck9]), (5, [ck1, ck2, ck12]), (6, [ck3, ck4, ck5, ck10, ck11]), (8, [ck6, ck7, ck8])]
theorem tb13_ok : CkRs Tryz.prog tb13 := ⟨⟨fk10, (ck_cons ck0r (ck_cons ck9r ck_nil))⟩, ⟨⟨fk5, (ck_cons ck1r (ck_cons ck2r (ck_cons ck12r ck_nil)))⟩, ⟨⟨fk6, (ck_cons ck3r (ck_cons ck4r (ck_cons ck5r (ck_cons ck10r (ck_cons ck11r ck_nil)))))⟩, ⟨⟨fk8, (ck_cons ck6r (ck_cons ck7r (ck_cons ck8r ck_nil)))⟩, trivial⟩⟩⟩⟩
noncomputable def ov13 : Nat → Option (List AV → H → R) := ovC ovT tb13
theorem ov13_ok : OvOK Tryz.prog ov13 := ovC_ok (P := Tryz.prog) (base := ovT) (l := tb13) ov_ok tb13_ok
theorem ck13o : ckOk (evCall Tryz.prog hint ov13 100000 200 10) ck13 = true := by kernel_rfl
theorem ck13r : CkR Tryz.prog 10 ck13 := ck_call Tryz.checked.mixed ov13_ok ck13o
def ck14k : LH := [(0, .cells 430 (strBytes 32 4088518913827626597285369242834745541130067489702375943734699084159095931136) 34 true),
  (1, .cells 431 (strBytes 64 315684040783403026461198565492879320519372303033823910828724750665742568755751545437592878574175936176031276695822391845783248645128493468529036736594176) 66 true),
  (2, .cells 537 [.int .u64 (.ofNat 1), .int .u64 (.ofNat 10), .int .u64 (.ofNat 100), .int .u64 (.ofNat 1000), .int .u64 (.ofNat 10000), .int .u64 (.ofNat 100000), .int .u64 (.ofNat 1000000), .int .u64 (.ofNat 10000000), .int .u64 (.ofNat 100000000), .int .u64 (.ofNat 1000000000), .int .u64 (.ofNat 10000000000), .int .u64 (.ofNat 100000000000), .int .u64 (.ofNat 1000000000000), .int .u64 (.ofNat 10000000000000), .int .u64 (.ofNat 100000000000000), .int .u64 (.ofNat 1000000000000000), .int .u64 (.ofNat 10000000000000000), .int .u64 (.ofNat 100000000000000000), .int .u64 (.ofNat 1000000000000000000), .int .u64 (.ofNat 10000000000000000000)] 22 true),
  (37704, .mp [] [] 0),
  (37705, .cells 83 [Iz 2097152, .map 37704, .int .i64 (.negSucc 0), Iz 0] 0 true)]
def ck14a : LH := []
def ck14b : LH := [(37708, .cells 111 [.ptr 37705 0, .str 2 12660, Iz 60000, Iz 0, .ptr 37717 0, .bool false] 0 true),
  (37717, .cells 230 [.ptr 37705 0, .str 8 3471826091003228532, Iz 20000, Iz 0, Iz 0, .bool false] 0 true),
  (37718, .mp [] [] 0),
  (37719, .cells 115 [.bool true, .nilslice] 0 true),
  (37720, .cells 55 [.ptr 37708 0, Iz 2, .map 37718, .ptr 37719 0, Iz 1, .bool false, .nilmap] 0 true)]
def ck14 : Ck := ⟨[.ptr 37705 0, .str 2 12660, Iz 60000, Iz 2], 37706, ck14k ++ ck14a, .tup [.ptr 37720 0, Iz 0], 37721, ck14k ++ ck14b⟩
noncomputable def tb14 : List (Nat × List Ck) := [(10, [ck0, ck9, ck13]), (5, [ck1, ck2, ck12]), (6, [ck3, ck4, ck5, ck10, ck11]), (8, [ck6, ck7, ck8])]
theorem tb14_ok : CkRs Tryz.prog tb14 := ⟨⟨fk10, (ck_cons ck0r (ck_cons ck9r (ck_cons ck13r ck_nil)))⟩, ⟨⟨fk5, (ck_cons ck1r (ck_cons ck2r (ck_cons ck12r ck_nil)))⟩, ⟨⟨fk6, (ck_cons ck3r (ck_cons ck4r (ck_cons ck5r (ck_cons ck10r (ck_cons ck11r ck_nil)))))⟩, ⟨⟨fk8, (ck_cons ck6r (ck_cons ck7r (ck_cons ck8r ck_nil)))⟩, trivial⟩⟩⟩⟩
noncomputable def ov14 : Nat → Option (List AV → H → R) := ovC ovT tb14
theorem ov14_ok : OvOK Tryz.prog ov14 := ovC_ok (P := Tryz.prog) (base := ovT) (l := tb14) ov_ok tb14_ok
theorem ck14o : ckOk (evCall Tryz.prog hint ov14 100000 200 10) ck14 = true := by kernel_rfl
theorem ck14r : CkR Tryz.prog 10 ck14 := ck_call Tryz.checked.mixed ov14_ok ck14o
end Go.Proofs.YtkmlcncemcaidaaGreatDoor
