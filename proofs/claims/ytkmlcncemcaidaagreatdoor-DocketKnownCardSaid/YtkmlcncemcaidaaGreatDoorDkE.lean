/-
  WHAT IS PROVED: the docket chapter's examples are answered as it says: the law 'assizelaw29.DocketKnown' returns true, whatever the world it begins in.
  Conditions: those of the row's own cells (the listed package variables as the program's text lays them).
  How: a proved evaluator of the model's code (the texts ..Ev) computes the law, in every world and for every order that Go leaves open; the greater calls are computed each by itself.
-/
import Derived.Test.YtkmlcncemcaidaaGreatDoorDkD
import Derived.Test.YtkmlcncemcaidaaGreatDoorTie
import Derived.Test.YtkmlcncemcaidaaGreatDoorCards
import Derived.SevenTiedAt
namespace Go.Proofs.YtkmlcncemcaidaaGreatDoor
open Go Go.Ev Go.ChangeShapes Go.WideShapes Go.ChangeAt Go.RowKit
set_option maxRecDepth 100000
theorem ew : Rows.docketKnownRow.wfByText (OpenSpec.ofChange Rows.docketKnownSpec) = true := by kernel_rfl
theorem em : Tryz.pinned.checked.prog.mainIs = some (true, "b5bda2b3829ca7d47fd15bd082293703cee64141e114825d226e7f086c7a3ae3".toList) := by kernel_rfl
theorem ef : Tryz.prog.funcNamed "assize/assizelaw29.DocketKnown" = some 3 := by kernel_rfl
theorem el : true = Tryz.pinned.checked.prog.looks [] := by kernel_rfl
theorem eg0 : Tryz.prog.funcs.any Func.goes = false := by kernel_rfl
theorem eg : false = Rows.docketKnownRow.goesBy Tryz.pinned.checked.prog := goesBy_no rfl eg0
theorem docketKnown_card_holds : Rows.DocketKnownCardSaid :=
  Claim7.holds_tied_plain_at .later [] [.data, .data, .data] true (true, "b5bda2b3829ca7d47fd15bd082293703cee64141e114825d226e7f086c7a3ae3") true
    law_holds (fun _ h => by cases h) ew (fun _ h => by cases h) docketKnown_row_tie rfl ⟨rfl, rfl⟩ em rfl
    (fun f fn hf hfn => by
      obtain rfl : f = 3 := Option.some.inj (ef.symm.trans hf) |>.symm
      obtain rfl : fn = Tryz.f3 := (Option.some.inj (Tryz.func3.symm.trans hfn)).symm
      exact ⟨el, fun j t ht => by
        rw [Tryz.params3] at ht
        simp at ht⟩)
    eg
#print axioms docketKnown_card_holds
end Go.Proofs.YtkmlcncemcaidaaGreatDoor
