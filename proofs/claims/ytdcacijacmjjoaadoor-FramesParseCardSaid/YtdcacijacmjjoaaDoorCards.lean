/-
  DERIVED. GIVEN WITH THE SEED: THE CARDS: each row of YtdcacijacmjjoaaDoorRows.lean that lists a variable, with what it lists TIED to the program's text (the seventh form; the later family's looks); each row that meets fmt, with fmt's text TOLD by the authors' own Lean function (tested against real Go, not proved from fmt's source: count such statements apart). THE CARD IS WHAT COUNTS. Prove the row's statement (the work); the ties are given (YtdcacijacmjjoaaDoorTie.lean); close each card by the builder's one call (the guide's Derived/Test/ToyasCard.lean, 'card_holds'). Laid BY PROGRAM, IN A SANDBOX (cutbox-door.mjs). By AI agents, Wed Nov 11 2026. No macro, syntax, notation, axiom, sorry.
-/
import Derived.Test.YtdcacijacmjjoaaDoorRows
import GoSem.ClaimSeven
namespace Go.Proofs.YtdcacijacmjjoaaDoor
namespace Rows

/-- THE TIED CARD OF 'dyelaw1.FramesParse'. -/
def framesParseCard : Claim7 := { stood := { row := framesParseRow, standIns := [], harness := (true, "0720fddb0bb104a31522f968542117e3641e69ef244e93189f068101bf6afa56"), looks := true }, kinds := [], alts := [], laidByText := true, laidKinds := [.data, .data, .data, .data, .sentinel, .sentinel, .pinned], laidTests := true, laidLooks := .later }
def FramesParseCardSaid : Prop := Claim7.holds Tryd.pinned (.plain (OpenSpec.ofChange framesParseSpec)) framesParseCard

/-- THE SECOND FORM's CARD OF 'dyelaw1.FramesParse'. -/
def framesParseUptoCard : Claim7 := { stood := { row := framesParseUptoRow, standIns := [], harness := (true, "0720fddb0bb104a31522f968542117e3641e69ef244e93189f068101bf6afa56"), looks := true }, kinds := [], alts := [], laidByText := true, laidKinds := [.data, .data, .data, .data, .sentinel, .sentinel, .pinned], laidTests := true, laidLooks := .later }
def FramesParseUptoCardSaid : Prop := Claim7.holds Tryd.pinned (.plain (OpenSpec.upto framesParseSpec)) framesParseUptoCard
end Rows
end Go.Proofs.YtdcacijacmjjoaaDoor
