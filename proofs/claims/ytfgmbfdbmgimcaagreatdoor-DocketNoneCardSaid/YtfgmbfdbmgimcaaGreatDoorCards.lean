/-
  DERIVED. GIVEN WITH THE SEED: THE CARDS: each row of YtfgmbfdbmgimcaaGreatDoorRows.lean that lists a variable, with what it lists TIED to the program's text (the seventh form; the later family's looks); each row that meets fmt, with fmt's text TOLD by the authors' own Lean function (tested against real Go, not proved from fmt's source: count such statements apart). THE CARD IS WHAT COUNTS. Prove the row's statement (the work); the ties are given (YtfgmbfdbmgimcaaGreatDoorTie.lean); close each card by the builder's one call (the guide's Derived/Test/ToyasCard.lean, 'card_holds'). Laid BY PROGRAM, IN A SANDBOX (cutbox-door.mjs). By AI agents, Wed Nov 11 2026. No macro, syntax, notation, axiom, sorry.
-/
import Derived.Test.YtfgmbfdbmgimcaaGreatDoorRows
import GoSem.ClaimSeven
namespace Go.Proofs.YtfgmbfdbmgimcaaGreatDoor
namespace Rows

/-- THE TIED CARD OF 'assizelaw29.DocketKnown'. -/
def docketKnownCard : Claim7 := { stood := { row := docketKnownRow, standIns := [], harness := (true, "17c23daa953181f5fba6e2c6897e3466bc54392525a779e6c24e558115f8773c"), looks := true }, kinds := [], alts := [], laidByText := true, laidKinds := [.data, .data, .data], laidTests := true, laidLooks := .later }
def DocketKnownCardSaid : Prop := Claim7.holds Tryz.pinned (.plain (OpenSpec.ofChange docketKnownSpec)) docketKnownCard

/-- THE TIED CARD OF 'assizelaw29.DocketNone'. -/
def docketNoneCard : Claim7 := { stood := { row := docketNoneRow, standIns := [], harness := (true, "17c23daa953181f5fba6e2c6897e3466bc54392525a779e6c24e558115f8773c"), looks := true }, kinds := [], alts := [], laidByText := true, laidKinds := [.data, .data, .data], laidTests := true, laidLooks := .later }
def DocketNoneCardSaid : Prop := Claim7.holds Tryz.pinned (.plain (OpenSpec.ofChange docketNoneSpec)) docketNoneCard

/-- THE SECOND FORM's CARD OF 'assizelaw29.DocketKnown'. -/
def docketKnownUptoCard : Claim7 := { stood := { row := docketKnownUptoRow, standIns := [], harness := (true, "17c23daa953181f5fba6e2c6897e3466bc54392525a779e6c24e558115f8773c"), looks := true }, kinds := [], alts := [], laidByText := true, laidKinds := [.data, .data, .data], laidTests := true, laidLooks := .later }
def DocketKnownUptoCardSaid : Prop := Claim7.holds Tryz.pinned (.plain (OpenSpec.upto docketKnownSpec)) docketKnownUptoCard

/-- THE SECOND FORM's CARD OF 'assizelaw29.DocketNone'. -/
def docketNoneUptoCard : Claim7 := { stood := { row := docketNoneUptoRow, standIns := [], harness := (true, "17c23daa953181f5fba6e2c6897e3466bc54392525a779e6c24e558115f8773c"), looks := true }, kinds := [], alts := [], laidByText := true, laidKinds := [.data, .data, .data], laidTests := true, laidLooks := .later }
def DocketNoneUptoCardSaid : Prop := Claim7.holds Tryz.pinned (.plain (OpenSpec.upto docketNoneSpec)) docketNoneUptoCard
end Rows
end Go.Proofs.YtfgmbfdbmgimcaaGreatDoor
