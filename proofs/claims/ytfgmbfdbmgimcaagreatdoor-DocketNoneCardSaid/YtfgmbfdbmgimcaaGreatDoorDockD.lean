/-
  THE ROW of DocketNone holds.
-/
import Derived.Test.YtfgmbfdbmgimcaaGreatDoorDockC
import Derived.Test.YtfgmbfdbmgimcaaGreatDoorDockJ
namespace Go.Proofs.YtfgmbfdbmgimcaaGreatDoor
open Go Go.Ev Go.ChangeShapes Go.WideShapes Go.ChangeAt Go.RowKit
set_option maxRecDepth 100000
theorem none_holds : Rows.DocketNoneSaid :=
  OpenClaim.holds_of_wide 4 Tryz.f4 rfl rfl rfl rfl rfl rfl rfl ⟨rfl, rfl, rfl, rfl, rfl⟩ rfl rfl rfl rfl rfl (by kernel_rfl) Tryz.func4 jf
    (of_decide_eq_true (by kernel_rfl)) (by unfold Func.isWrapper; first | (rw [if_pos (by decide +kernel)]; kernel_rfl) | (rw [if_neg (by decide +kernel)]; exact ⟨rfl, rfl⟩))
    (fun os started H enc _ => none_lifted os started H enc)
end Go.Proofs.YtfgmbfdbmgimcaaGreatDoor
