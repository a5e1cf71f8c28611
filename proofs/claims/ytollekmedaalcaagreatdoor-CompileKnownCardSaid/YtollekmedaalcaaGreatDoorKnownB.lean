/-
  THE LAW 'assizelaw10.CompileKnown', COMPUTED: the evaluator answers true.
-/
import Derived.Test.YtollekmedaalcaaGreatDoorKnownA
namespace Go.Proofs.YtollekmedaalcaaGreatDoor
open Go Go.Ev
set_option maxRecDepth 100000
theorem known_ev : okTrue (evCall Tryz.prog hint ovT 100000 200 3 [] h4096) = true := by kernel_rfl
end Go.Proofs.YtollekmedaalcaaGreatDoor
