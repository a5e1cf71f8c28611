/-
  DERIVED. GIVEN WITH THE SEED: THE CARDS: each row of YtkmlcncemcaidaaGreatDoorRows.lean that lists a variable, with what it lists TIED to the program's text (the seventh form; the later family's looks); each row that meets fmt, with fmt's text TOLD by the authors' own Lean function (tested against real Go, not proved from fmt's source: count such statements apart). THE CARD IS WHAT COUNTS. Prove the row's statement (the work); the ties are given (YtkmlcncemcaidaaGreatDoorTie.lean); close each card by the builder's one call (the guide's Derived/Test/ToyasCard.lean, 'card_holds'). Laid BY PROGRAM, IN A SANDBOX (cutbox-door.mjs). By AI agents, Wed Nov 11 2026. No macro, syntax, notation, axiom, sorry.
-/
import Derived.Test.YtkmlcncemcaidaaGreatDoorRows
import GoSem.ClaimSeven
namespace Go.Proofs.YtkmlcncemcaidaaGreatDoor
namespace Rows

/-- THE TIED CARD OF 'assizelaw29.DocketKnown'. -/
def docketKnownCard : Claim7 := { stood := { row := docketKnownRow, standIns := [], harness := (true, "b5bda2b3829ca7d47fd15bd082293703cee64141e114825d226e7f086c7a3ae3"), looks := true }, kinds := [], alts := [], laidByText := true, laidKinds := [.data, .data, .data], laidTests := true, laidLooks := .later }
def DocketKnownCardSaid : Prop := Claim7.holds Tryz.pinned (.plain (OpenSpec.ofChange docketKnownSpec)) docketKnownCard

/-- THE SECOND FORM's CARD OF 'assizelaw29.DocketKnown'. -/
def docketKnownUptoCard : Claim7 := { stood := { row := docketKnownUptoRow, standIns := [], harness := (true, "b5bda2b3829ca7d47fd15bd082293703cee64141e114825d226e7f086c7a3ae3"), looks := true }, kinds := [], alts := [], laidByText := true, laidKinds := [.data, .data, .data], laidTests := true, laidLooks := .later }
def DocketKnownUptoCardSaid : Prop := Claim7.holds Tryz.pinned (.plain (OpenSpec.upto docketKnownSpec)) docketKnownUptoCard
end Rows
end Go.Proofs.YtkmlcncemcaidaaGreatDoor
