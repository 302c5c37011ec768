/-
  DERIVED. GIVEN WITH THE SEED: THE CARDS: each row of YtckadkobgmnoeaaDoorRows.lean that lists a variable, with what it lists TIED to the program's text (the seventh form; the later family's looks); each row that meets fmt, with fmt's text TOLD by the authors' own Lean function (tested against real Go, not proved from fmt's source: count such statements apart). THE CARD IS WHAT COUNTS. Prove the row's statement (the work); the ties are given (YtckadkobgmnoeaaDoorTie.lean); close each card by the builder's one call (the guide's Derived/Test/ToyasCard.lean, 'card_holds'). Laid BY PROGRAM, IN A SANDBOX (cutbox-door.mjs). By AI agents, Wed Nov 11 2026. No macro, syntax, notation, axiom, sorry.
-/
import Derived.Test.YtckadkobgmnoeaaDoorRows
import GoSem.ClaimSeven
namespace Go.Proofs.YtckadkobgmnoeaaDoor
namespace Rows

/-- THE TIED CARD OF 'dyelaw1.FramesPrint'. -/
def framesPrintCard : Claim7 := { stood := { row := framesPrintRow, standIns := [], harness := (true, "4d799067a15b842e63bbca3c79fabf35d7317c3c04aba6e2362e1e83df8fb56e"), looks := true }, kinds := [], alts := [], laidByText := true, laidKinds := [.data, .data, .data, .data, .sentinel, .sentinel, .pinned], laidTests := true, laidLooks := .later }
def FramesPrintCardSaid : Prop := Claim7.holds Tryd.pinned (.plain (OpenSpec.ofChange framesPrintSpec)) framesPrintCard

/-- THE SECOND FORM's CARD OF 'dyelaw1.FramesPrint'. -/
def framesPrintUptoCard : Claim7 := { stood := { row := framesPrintUptoRow, standIns := [], harness := (true, "4d799067a15b842e63bbca3c79fabf35d7317c3c04aba6e2362e1e83df8fb56e"), looks := true }, kinds := [], alts := [], laidByText := true, laidKinds := [.data, .data, .data, .data, .sentinel, .sentinel, .pinned], laidTests := true, laidLooks := .later }
def FramesPrintUptoCardSaid : Prop := Claim7.holds Tryd.pinned (.plain (OpenSpec.upto framesPrintSpec)) framesPrintUptoCard
end Rows
end Go.Proofs.YtckadkobgmnoeaaDoor
