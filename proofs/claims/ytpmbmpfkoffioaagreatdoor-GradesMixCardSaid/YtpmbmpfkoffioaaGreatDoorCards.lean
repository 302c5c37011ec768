/-
  DERIVED. GIVEN WITH THE SEED: THE CARDS: each row of YtpmbmpfkoffioaaGreatDoorRows.lean that lists a variable, with what it lists TIED to the program's text (the seventh form; the later family's looks); each row that meets fmt, with fmt's text TOLD by the authors' own Lean function (tested against real Go, not proved from fmt's source: count such statements apart). THE CARD IS WHAT COUNTS. Prove the row's statement (the work); the ties are given (YtpmbmpfkoffioaaGreatDoorTie.lean); close each card by the builder's one call (the guide's Derived/Test/ToyasCard.lean, 'card_holds'). Laid BY PROGRAM, IN A SANDBOX (cutbox-door.mjs). By AI agents, Wed Nov 11 2026. No macro, syntax, notation, axiom, sorry.
-/
import Derived.Test.YtpmbmpfkoffioaaGreatDoorRows
import GoSem.ClaimSeven
namespace Go.Proofs.YtpmbmpfkoffioaaGreatDoor
namespace Rows

/-- THE TIED CARD OF 'dyelaw1.GradesMix'. -/
def gradesMixCard : Claim7 := { stood := { row := gradesMixRow, standIns := [], harness := (true, "eabe016ddc4c5fba1b2e60e36a8c0ad3441eb83f9029776ce7cdfe08653381ef"), looks := false }, kinds := [], alts := [], laidByText := true, laidKinds := [.data, .data, .data, .data, .pinned, .pinned], laidTests := true, laidLooks := .later }
def GradesMixCardSaid : Prop := Claim7.holds Tryz.pinned (.plain (OpenSpec.ofChange gradesMixSpec)) gradesMixCard

/-- THE SECOND FORM's CARD OF 'dyelaw1.GradesMix'. -/
def gradesMixUptoCard : Claim7 := { stood := { row := gradesMixUptoRow, standIns := [], harness := (true, "eabe016ddc4c5fba1b2e60e36a8c0ad3441eb83f9029776ce7cdfe08653381ef"), looks := false }, kinds := [], alts := [], laidByText := true, laidKinds := [.data, .data, .data, .data, .pinned, .pinned], laidTests := true, laidLooks := .later }
def GradesMixUptoCardSaid : Prop := Claim7.holds Tryz.pinned (.plain (OpenSpec.upto gradesMixSpec)) gradesMixUptoCard
end Rows
end Go.Proofs.YtpmbmpfkoffioaaGreatDoor
