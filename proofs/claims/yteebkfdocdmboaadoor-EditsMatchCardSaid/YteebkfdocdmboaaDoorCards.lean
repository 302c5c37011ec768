/-
  DERIVED. GIVEN WITH THE SEED: THE CARDS: each row of YteebkfdocdmboaaDoorRows.lean that lists a variable, with what it lists TIED to the program's text (the seventh form; the later family's looks); each row that meets fmt, with fmt's text TOLD by the authors' own Lean function (tested against real Go, not proved from fmt's source: count such statements apart). THE CARD IS WHAT COUNTS. Prove the row's statement (the work); the ties are given (YteebkfdocdmboaaDoorTie.lean); close each card by the builder's one call (the guide's Derived/Test/ToyasCard.lean, 'card_holds'). Laid BY PROGRAM, IN A SANDBOX (cutbox-door.mjs). By AI agents, Wed Nov 11 2026. No macro, syntax, notation, axiom, sorry.
-/
import Derived.Test.YteebkfdocdmboaaDoorRows
import GoSem.ClaimSeven
namespace Go.Proofs.YteebkfdocdmboaaDoor
namespace Rows

/-- THE TIED CARD OF 'dyelaw1.EditsMatch'. -/
def editsMatchCard : Claim7 := { stood := { row := editsMatchRow, standIns := [], harness := (true, "a31e1433b5d0672c8e870639789254739cdd3f4cc381392962cef5ccf65a3767"), looks := false }, kinds := [], alts := [], laidByText := true, laidKinds := [.data, .pinned], laidTests := true, laidLooks := .later }
def EditsMatchCardSaid : Prop := Claim7.holds Tryd.pinned (.plain (OpenSpec.ofChange editsMatchSpec)) editsMatchCard

/-- THE SECOND FORM's CARD OF 'dyelaw1.EditsMatch'. -/
def editsMatchUptoCard : Claim7 := { stood := { row := editsMatchUptoRow, standIns := [], harness := (true, "a31e1433b5d0672c8e870639789254739cdd3f4cc381392962cef5ccf65a3767"), looks := false }, kinds := [], alts := [], laidByText := true, laidKinds := [.data, .pinned], laidTests := true, laidLooks := .later }
def EditsMatchUptoCardSaid : Prop := Claim7.holds Tryd.pinned (.plain (OpenSpec.upto editsMatchSpec)) editsMatchUptoCard
end Rows
end Go.Proofs.YteebkfdocdmboaaDoor
