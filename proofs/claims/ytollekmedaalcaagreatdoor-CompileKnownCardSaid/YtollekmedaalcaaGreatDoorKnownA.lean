/-
  THE PROGRAM OF THE SEAT FOR THE EVALUATOR: which functions without a body stand for what.
-/
import Derived.Test.YtollekmedaalcaaGreatDoorEvG
import Derived.Test.YtollekmedaalcaaGreatDoorChecked
import Derived.KernelRfl
namespace Go.Proofs.YtollekmedaalcaaGreatDoor
open Go Go.Ev Go.ChangeShapes Go.WideShapes Go.ChangeAt Go.RowKit
set_option maxRecDepth 100000

/- which temporaries of a function outlive the region that makes them (a help for speed; nothing leans on it) -/
def hintT : List Nat := [
  0, 0, 0, 18709431730943, 18891781063300573364175, 47394613135340207824930114277888219028651983, 525, 133095, 71311869, 4328785983, 
  39614081257133312288864862719, 63, 14680287, 2047, 4399187920335, 17180008911, 2323857407727403519, 590331841355016306739, 63, 5, 2314850208472645887, 
  1924548017911, 7, 1008809615066014071, 51, 2097615, 511, 19, 8590200973, 8143, 132127, 125, 31, 5, 61, 493, 7342023, 5, 619272398680553618042520063, 
  2096191, 5, 61, 17607218552179, 7, 115, 51, 33818687, 5, 5, 51, 51, 35199412996223, 3848525593559, 18462506792664462255, 123149060524727, 34376516123, 
  59, 8251, 1663, 347, 1, 15410460231767, 2267228424668247, 925015, 63, 1199040616599659743231, 27, 943, 493, 131853, 37, 4371, 743, 147, 1879048539, 31, 
  135717, 29, 37, 71, 71, 12339, 230343, 132127, 262397, 5, 3, 13, 29, 31, 70368744441815, 943, 18451247673345443967, 7, 1023, 2047, 134226543, 71, 
  4294985967, 4399120260079, 9223372036855300335, 2085, 5, 5, 1971, 7, 511, 21, 943, 55, 19, 151, 71, 1140865467, 71, 67655, 3671131, 268439291, 
  29362363, 95, 19, 7, 23, 7, 19, 31, 562949953421823, 664163851722788184575, 576460752303912959, 8519731, 19, 27, 962072683367, 1, 71, 230343, 
  2164392991, 19, 9511602687884396531, 1337, 19, 13, 1037, 3, 13, 31, 4503599627370875, 32281802129000107855, 1837, 8247, 1126449731995695, 51, 4047, 
  1051119, 10389748581714196192695981537524975, 1007, 51, 55, 1971, 7, 4402343607567, 1663, 63058092305028447, 151, 72128246283772359, 435, 5, 435, 37, 
  5, 35684819, 435, 435, 15, 12339, 8741, 2119, 5, 135717, 37, 37, 18014467263039475, 201523251, 2067, 3, 5, 562950492537331, 66597, 1037, 27, 
  34368128127, 20074741295808457490431, 7, 271, 39, 51, 1152921504607111047, 5, 5, 19, 37, 5, 1, 592232699067107069, 74771234572253, 4194365, 29, 37, 61, 
  15, 5, 2203318223039, 268568563, 8393715, 1971, 7, 71, 19, 19, 5, 19, 16655, 283, 13, 23, 1, 3, 79, 87, 5, 5, 627, 5, 16371, 0, 5, 134218269, 13, 
  148726874094291914749, 779466807489215024060935678754772638073530679287, 8388631, 435, 435, 19, 15, 162300207430725273929173163970935, 19, 5, 131117, 
  0, 310090655633132905852571635, 576460752303423515, 0, 0, 243, 295147905187951149555, 5, 5, 5, 307, 4803766310142973, 29, 575, 7, 264341, 435, 
  2361223211019022121975, 67655, 17592186061555, 5, 4647925921687801725, 4196339, 19, 3, 4194317, 342940827983130038935213662705449189363, 2097213, 29, 
  199, 5, 0, 4296024637, 37, 31, 356855489955875965406276516708302315299293183, 1056837, 7, 23, 5, 13, 131059, 36174879, 51, 115, 1043, 19, 19, 0, 5, 
  295147905187942764531, 253, 19, 943, 5, 19, 13, 13, 5, 5, 5, 5, 5, 5, 0, 0, 509, 19, 269, 5, 5, 19, 5, 5, 5, 0, 29, 0, 0, 0, 0, 0, 0, 0, 0, 0, 0, 0, 0, 
  0, 0, 0, 0, 0, 0, 0, 0, 0, 0, 0, 0]
noncomputable def hint (f : Nat) : Nat := (hintT[f]?).getD 0
noncomputable def g234 : List AV → H → R := fun a h => extA Tryz.prog 234 5 a h .ok
theorem x234 : ExtF Tryz.prog 234 Tryz.f234 add64Entry := ⟨Tryz.func234, by kernel_rfl, by kernel_rfl, by kernel_rfl, by kernel_rfl⟩
theorem c234 : CallR Tryz.prog 234 g234 := ext_add x234
noncomputable def g249 : List AV → H → R := fun a h => extA Tryz.prog 249 3 a h .ok
theorem x249 : ExtF Tryz.prog 249 Tryz.f249 Extern.AbiNoEscape.same := ⟨Tryz.func249, by kernel_rfl, by kernel_rfl, by kernel_rfl, by kernel_rfl⟩
theorem c249 : CallR Tryz.prog 249 g249 := ext_same x249
noncomputable def g313 : List AV → H → R := fun a h => extA Tryz.prog 313 6 a h .ok
theorem x313 : ExtF Tryz.prog 313 Tryz.f313 (Extern.BytealgMakeNoZero.makeNoZero Tryz.f313.params Tryz.f313.resultTypes) := ⟨Tryz.func313, by kernel_rfl, by kernel_rfl, by kernel_rfl, by kernel_rfl⟩
theorem c313 : CallR Tryz.prog 313 g313 := ext_mnz x313 rfl
noncomputable def g314 : List AV → H → R := fun a h => extA Tryz.prog 314 4 a h .ok
theorem x314 : ExtF Tryz.prog 314 Tryz.f314 Extern.BytealgIndexByte.indexByte := ⟨Tryz.func314, by kernel_rfl, by kernel_rfl, by kernel_rfl, by kernel_rfl⟩
theorem c314 : CallR Tryz.prog 314 g314 := ext_index x314
noncomputable def ovT (f : Nat) : Option (List AV → H → R) := match f with
  | 234 => some g234
  | 249 => some g249
  | 313 => some g313
  | 314 => some g314
  | _ => none
theorem ov_ok : OvOK Tryz.prog ovT := by
  intro f g h
  unfold ovT at h
  split at h
  · cases h; exact c234
  · cases h; exact c249
  · cases h; exact c313
  · cases h; exact c314
  · cases h
end Go.Proofs.YtollekmedaalcaaGreatDoor
