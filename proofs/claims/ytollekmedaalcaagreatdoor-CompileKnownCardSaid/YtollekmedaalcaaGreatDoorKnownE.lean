/-
  WHAT IS PROVED: the chapter's examples of 'assize/compile' are answered as it says: the law 'assizelaw10.CompileKnown' returns true, whatever the world it begins in.
  Conditions: those of the row's own cells (the listed package variables as the program's text lays them).
  How: the law takes nothing; a proved evaluator of the model's code (the texts ..Ev) computes it, in every world and for every order that Go leaves open.
-/
import Derived.Test.YtollekmedaalcaaGreatDoorKnownD
import Derived.Test.YtollekmedaalcaaGreatDoorTie
import Derived.Test.YtollekmedaalcaaGreatDoorCards
import Derived.SevenTiedAt
namespace Go.Proofs.YtollekmedaalcaaGreatDoor
open Go Go.Ev Go.ChangeShapes Go.WideShapes Go.ChangeAt Go.RowKit
set_option maxRecDepth 100000
theorem compileKnown_card_holds : Rows.CompileKnownCardSaid :=
  Claim7.holds_tied_plain_at .later [] [.data, .data, .data] true (true, "65cc8652aaf0b39089d3363d757f42c41cd4739115b8b4ec97c7913bf6b9072f") true
    known_holds (fun _ h => by cases h) (by kernel_rfl) (fun _ h => by cases h) compileKnown_row_tie rfl ⟨rfl, rfl⟩ (by kernel_rfl) rfl
    (fun f fn hf hfn => by
      obtain rfl : f = 3 := Option.some.inj ((show Tryz.prog.funcNamed "assize/assizelaw10.CompileKnown" = some 3 by kernel_rfl).symm.trans hf) |>.symm
      obtain rfl : fn = Tryz.f3 := (Option.some.inj (Tryz.func3.symm.trans hfn)).symm
      exact ⟨by kernel_rfl, fun j t ht => by
        rw [Tryz.params3] at ht
        simp at ht⟩)
    (by kernel_rfl)
#print axioms compileKnown_card_holds
end Go.Proofs.YtollekmedaalcaaGreatDoor
