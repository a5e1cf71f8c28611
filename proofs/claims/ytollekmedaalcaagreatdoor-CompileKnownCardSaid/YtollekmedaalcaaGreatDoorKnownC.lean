/-
  THE LAW CompileKnown, LIFTED: from the run to what the row asks.
-/
import Derived.Test.YtollekmedaalcaaGreatDoorKnownB
import Derived.Test.YtollekmedaalcaaGreatDoorRows
import Derived.LaidMore
import Derived.OpenShut
namespace Go.Proofs.YtollekmedaalcaaGreatDoor
open Go Go.Ev Go.ChangeShapes Go.WideShapes Go.ChangeAt Go.RowKit
set_option maxRecDepth 100000
theorem known_calls (W : World) : Calls Tryz.prog 3 #[] W fun e W' => e = .returned (.bool true) ∧ ∀ may, W.keptBut W' may :=
  closed_calls (hint := hint) (ov := ovT) (lf := 100000) (n := 200) Tryz.checked.mixed ov_ok known_ev W

theorem own : ownKnob Tryz.prog.godebug = none := by kernel_rfl
/- the door's own heap meets the condition on the listed variables -/
theorem door_met (os : Os) (args : Array Value) : laidMetH Tryz.prog Rows.compileKnownRow.laid ((World.doorLaid Tryz.prog 400 os).forCall (fun _ _ => 0) ⟨#[], args, []⟩).memory :=
  laidMetH_of_parts3 (fuel := 8) (laidMet_of_run' 8 (by kernel_rfl) (by kernel_rfl)) (by kernel_rfl) (by kernel_rfl)
theorem known_lifted (os : Os) (started : os.Started) (H : Type) (enc : TypeId × Value → H) :
    ReturnsInHanded {} Tryz.checked os 3 .any (fun w args => (Rows.compileKnownSpec.pre enc Tryz.prog Tryz.f3 [] false w args ∧ laidMetH Tryz.prog Rows.compileKnownRow.laid w) ∧ sizedMet enc Tryz.prog Tryz.f3 (OpenSpec.ofChange Rows.compileKnownSpec) false w args)
      (Rows.compileKnownSpec.post enc Tryz.prog Tryz.f3 false true false false) := by
  refine returnsInHanded_of_change_and (C := Tryz.checked) (X := fun w _ => laidMetH Tryz.prog Rows.compileKnownRow.laid w) (fun _ _ _ hh h => h.of_heap hh) own started (by kernel_rfl) Tryz.func3
    (ChangeSpec.witness_shaped (enc := enc) (C := Tryz.checked) (os := os) (X := fun w _ => laidMetH Tryz.prog Rows.compileKnownRow.laid w) false (World.doorLaid Tryz.prog 400 os) #[] 8 rfl (World.shaped_of_RefB (by kernel_rfl) (by kernel_rfl)) (by kernel_rfl) (by kernel_rfl) (by kernel_rfl) (door_met os _)) ?_
  intro W base args ds gs before _ hW _ _ _ _
  have hargs : args = #[] := by
    have hW' := hW
    obtain ⟨p, q, hA, _⟩ := hW'
    have hA : DataW.TrodAll enc Tryz.prog W 0 (fun _ => true) true Tryz.f3.params.toList args.toList ds p := hA
    rw [Tryz.params3] at hA
    exact (trodAll_none hA).1
  subst hargs
  refine (known_calls W).mono fun e W' ⟨he, hk⟩ => ?_
  exact ⟨_, he, closed_post (t := 4) Tryz.params3 (by kernel_rfl) Tryz.underlying4 rfl rfl hW hk⟩
end Go.Proofs.YtollekmedaalcaaGreatDoor
