/-
  DERIVED. GIVEN WITH THE SEED: THE CARDS: each row of YtollekmedaalcaaGreatDoorRows.lean that lists a variable, with what it lists TIED to the program's text (the seventh form; the later family's looks); each row that meets fmt, with fmt's text TOLD by the authors' own Lean function (tested against real Go, not proved from fmt's source: count such statements apart). THE CARD IS WHAT COUNTS. Prove the row's statement (the work); the ties are given (YtollekmedaalcaaGreatDoorTie.lean); close each card by the builder's one call (the guide's Derived/Test/ToyasCard.lean, 'card_holds'). Laid BY PROGRAM, IN A SANDBOX (cutbox-door.mjs). By AI agents, Wed Nov 11 2026. No macro, syntax, notation, axiom, sorry.
-/
import Derived.Test.YtollekmedaalcaaGreatDoorRows
import GoSem.ClaimSeven
namespace Go.Proofs.YtollekmedaalcaaGreatDoor
namespace Rows

/-- THE TIED CARD OF 'assizelaw10.CompileKnown'. -/
def compileKnownCard : Claim7 := { stood := { row := compileKnownRow, standIns := [], harness := (true, "65cc8652aaf0b39089d3363d757f42c41cd4739115b8b4ec97c7913bf6b9072f"), looks := true }, kinds := [], alts := [], laidByText := true, laidKinds := [.data, .data, .data], laidTests := true, laidLooks := .later }
def CompileKnownCardSaid : Prop := Claim7.holds Tryz.pinned (.plain (OpenSpec.ofChange compileKnownSpec)) compileKnownCard

/-- THE TIED CARD OF 'assizelaw10.CompileTells'. -/
def compileTellsCard : Claim7 := { stood := { row := compileTellsRow, standIns := [], harness := (true, "65cc8652aaf0b39089d3363d757f42c41cd4739115b8b4ec97c7913bf6b9072f"), looks := true }, kinds := [], alts := [], laidByText := true, laidKinds := [.data, .data, .data], laidTests := true, laidLooks := .later }
def CompileTellsCardSaid : Prop := Claim7.holds Tryz.pinned (.plain (OpenSpec.ofChange compileTellsSpec)) compileTellsCard

/-- THE TIED CARD OF 'assizelaw10.CompileMay'. -/
def compileMayCard : Claim7 := { stood := { row := compileMayRow, standIns := [], harness := (true, "65cc8652aaf0b39089d3363d757f42c41cd4739115b8b4ec97c7913bf6b9072f"), looks := true }, kinds := [], alts := [], laidByText := true, laidKinds := [.data, .data, .data], laidTests := true, laidLooks := .later }
def CompileMayCardSaid : Prop := Claim7.holds Tryz.pinned (.plain (OpenSpec.ofChange compileMaySpec)) compileMayCard

/-- THE SECOND FORM's CARD OF 'assizelaw10.CompileKnown'. -/
def compileKnownUptoCard : Claim7 := { stood := { row := compileKnownUptoRow, standIns := [], harness := (true, "65cc8652aaf0b39089d3363d757f42c41cd4739115b8b4ec97c7913bf6b9072f"), looks := true }, kinds := [], alts := [], laidByText := true, laidKinds := [.data, .data, .data], laidTests := true, laidLooks := .later }
def CompileKnownUptoCardSaid : Prop := Claim7.holds Tryz.pinned (.plain (OpenSpec.upto compileKnownSpec)) compileKnownUptoCard

/-- THE SECOND FORM's CARD OF 'assizelaw10.CompileTells'. -/
def compileTellsUptoCard : Claim7 := { stood := { row := compileTellsUptoRow, standIns := [], harness := (true, "65cc8652aaf0b39089d3363d757f42c41cd4739115b8b4ec97c7913bf6b9072f"), looks := true }, kinds := [], alts := [], laidByText := true, laidKinds := [.data, .data, .data], laidTests := true, laidLooks := .later }
def CompileTellsUptoCardSaid : Prop := Claim7.holds Tryz.pinned (.plain (OpenSpec.upto compileTellsSpec)) compileTellsUptoCard

/-- THE SECOND FORM's CARD OF 'assizelaw10.CompileMay'. -/
def compileMayUptoCard : Claim7 := { stood := { row := compileMayUptoRow, standIns := [], harness := (true, "65cc8652aaf0b39089d3363d757f42c41cd4739115b8b4ec97c7913bf6b9072f"), looks := true }, kinds := [], alts := [], laidByText := true, laidKinds := [.data, .data, .data], laidTests := true, laidLooks := .later }
def CompileMayUptoCardSaid : Prop := Claim7.holds Tryz.pinned (.plain (OpenSpec.upto compileMaySpec)) compileMayUptoCard
end Rows
end Go.Proofs.YtollekmedaalcaaGreatDoor
