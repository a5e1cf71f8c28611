/-
  WHAT IS PROVED: a docket that is nil, or that nobody made, answers ErrNil, and tells nothing: the law 'assizelaw29.DocketNone' returns true, whatever its arguments are and whatever the world it begins in.
  Conditions: those of the row's own cells (the listed package variables as the program's text lays them).
  How: a proved evaluator of the model's code (the texts ..Ev) computes the law at arguments of which nothing is known, in every world and for every order that Go leaves open.
-/
import Derived.Test.YtfgmbfdbmgimcaaGreatDoorDockD
import Derived.Test.YtfgmbfdbmgimcaaGreatDoorTie
import Derived.Test.YtfgmbfdbmgimcaaGreatDoorCards
import Derived.SevenTiedAt
namespace Go.Proofs.YtfgmbfdbmgimcaaGreatDoor
open Go Go.Ev Go.ChangeShapes Go.WideShapes Go.ChangeAt Go.RowKit
set_option maxRecDepth 100000
theorem ew : Rows.docketNoneRow.wfByText (OpenSpec.ofChange Rows.docketNoneSpec) = true := by kernel_rfl
theorem em : Tryz.pinned.checked.prog.mainIs = some (true, "17c23daa953181f5fba6e2c6897e3466bc54392525a779e6c24e558115f8773c".toList) := by kernel_rfl
theorem ef : Tryz.prog.funcNamed "assize/assizelaw29.DocketNone" = some 4 := by kernel_rfl
theorem el : true = Tryz.pinned.checked.prog.looks [] := by kernel_rfl
theorem es3 : Tryz.prog.wantsStandIn 3 = false := by kernel_rfl
theorem es9 : Tryz.prog.wantsStandIn 9 = false := by kernel_rfl
theorem eg0 : Tryz.prog.funcs.any Func.goes = false := by kernel_rfl
theorem eg : false = Rows.docketNoneRow.goesBy Tryz.pinned.checked.prog := goesBy_no rfl eg0
theorem docketNone_card_holds : Rows.DocketNoneCardSaid :=
  Claim7.holds_tied_plain_at .later [] [.data, .data, .data] true (true, "17c23daa953181f5fba6e2c6897e3466bc54392525a779e6c24e558115f8773c") true
    none_holds (fun _ h => by cases h) ew (fun _ h => by cases h) docketNone_row_tie rfl ⟨rfl, rfl⟩ em rfl
    (fun f fn hf hfn => by
      obtain rfl : f = 4 := Option.some.inj (ef.symm.trans hf) |>.symm
      obtain rfl : fn = Tryz.f4 := (Option.some.inj (Tryz.func4.symm.trans hfn)).symm
      exact ⟨el, fun j t ht => by
        rw [Tryz.params4] at ht
        have h3 : t = 3 ∨ t = 9 := by
          rcases j with _ | _ | j
          · left; simpa using ht.symm
          · right; simpa using ht.symm
          · simp at ht
        rcases h3 with rfl | rfl
        · exact es3
        · exact es9⟩)
    eg
#print axioms docketNone_card_holds
end Go.Proofs.YtfgmbfdbmgimcaaGreatDoor
