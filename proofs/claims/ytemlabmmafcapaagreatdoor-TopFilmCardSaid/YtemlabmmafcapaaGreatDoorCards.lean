/-
  DERIVED. GIVEN WITH THE SEED: THE CARDS: each row of YtemlabmmafcapaaGreatDoorRows.lean that lists a variable, with what it lists TIED to the program's text (the seventh form; the later family's looks); each row that meets fmt, with fmt's text TOLD by the authors' own Lean function (tested against real Go, not proved from fmt's source: count such statements apart). THE CARD IS WHAT COUNTS. Prove the row's statement (the work); the ties are given (YtemlabmmafcapaaGreatDoorTie.lean); close each card by the builder's one call (the guide's Derived/Test/ToyasCard.lean, 'card_holds'). Laid BY PROGRAM, IN A SANDBOX (cutbox-door.mjs). By AI agents, Wed Nov 11 2026. No macro, syntax, notation, axiom, sorry.
-/
import Derived.Test.YtemlabmmafcapaaGreatDoorRows
import GoSem.ClaimSeven
namespace Go.Proofs.YtemlabmmafcapaaGreatDoor
namespace Rows

/-- THE TIED CARD OF 'dyetop.TopFilm'. -/
def topFilmCard : Claim7 := { stood := { row := topFilmRow, standIns := [], harness := (true, "7e72c777459a9af3be7ff79c4fdc3e941e013be9d653d3fb2572b78462bb6c5c"), looks := true }, kinds := [], alts := [], laidByText := true, laidKinds := [.data, .data, .data, .data, .sentinel, .sentinel, .pinned], laidTests := true, laidLooks := .later }
def TopFilmCardSaid : Prop := Claim7.holds Tryz.pinned (.plain (OpenSpec.ofChange topFilmSpec)) topFilmCard

/-- THE SECOND FORM's CARD OF 'dyetop.TopFilm'. -/
def topFilmUptoCard : Claim7 := { stood := { row := topFilmUptoRow, standIns := [], harness := (true, "7e72c777459a9af3be7ff79c4fdc3e941e013be9d653d3fb2572b78462bb6c5c"), looks := true }, kinds := [], alts := [], laidByText := true, laidKinds := [.data, .data, .data, .data, .sentinel, .sentinel, .pinned], laidTests := true, laidLooks := .later }
def TopFilmUptoCardSaid : Prop := Claim7.holds Tryz.pinned (.plain (OpenSpec.upto topFilmSpec)) topFilmUptoCard
end Rows
end Go.Proofs.YtemlabmmafcapaaGreatDoor
