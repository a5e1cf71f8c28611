/-
  THE LAW assizelaw29.DocketNone, COMPUTED: the evaluator answers true, whatever its arguments are.
-/
import Derived.Test.YtfgmbfdbmgimcaaGreatDoorDockA
namespace Go.Proofs.YtfgmbfdbmgimcaaGreatDoor
open Go Go.Ev
set_option maxRecDepth 100000
theorem none_ev : ∀ a b c : Nat, okTrue (evCall Tryz.prog hint ovT 100000 200 4 [.bad, .bad] (hT a b c)) = true := fun a b c => by kernel_rfl
end Go.Proofs.YtfgmbfdbmgimcaaGreatDoor
