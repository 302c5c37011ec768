/-
  DERIVED. GIVEN WITH THE SEED: THE CARDS: each row of YtilninaminaadaaGreatDoorRows.lean that lists a variable, with what it lists TIED to the program's text (the seventh form; the later family's looks); each row that meets fmt, with fmt's text TOLD by the authors' own Lean function (tested against real Go, not proved from fmt's source: count such statements apart). THE CARD IS WHAT COUNTS. Prove the row's statement (the work); the ties are given (YtilninaminaadaaGreatDoorTie.lean); close each card by the builder's one call (the guide's Derived/Test/ToyasCard.lean, 'card_holds'). Laid BY PROGRAM, IN A SANDBOX (cutbox-door.mjs). By AI agents, Wed Nov 11 2026. No macro, syntax, notation, axiom, sorry.
-/
import Derived.Test.YtilninaminaadaaGreatDoorRows
import GoSem.ClaimSeven
namespace Go.Proofs.YtilninaminaadaaGreatDoor
namespace Rows

/-- THE TIED CARD OF 'dyelaw1.ReviewsMatch'. -/
def reviewsMatchCard : Claim7 := { stood := { row := reviewsMatchRow, standIns := [], harness := (true, "2c76fa173fdc5ca222f27b1a37601310bd0ac30d60710c2ce47a05338a823978"), looks := true }, kinds := [], alts := [], laidByText := true, laidKinds := [.data, .data, .data, .data, .sentinel, .sentinel, .pinned], laidTests := true, laidLooks := .later }
def ReviewsMatchCardSaid : Prop := Claim7.holds Tryz.pinned (.plain (OpenSpec.ofChange reviewsMatchSpec)) reviewsMatchCard

/-- THE TIED CARD OF 'dyelaw1.ReviewsParse'. -/
def reviewsParseCard : Claim7 := { stood := { row := reviewsParseRow, standIns := [], harness := (true, "2c76fa173fdc5ca222f27b1a37601310bd0ac30d60710c2ce47a05338a823978"), looks := true }, kinds := [], alts := [], laidByText := true, laidKinds := [.data, .data, .data, .data, .sentinel, .sentinel, .pinned], laidTests := true, laidLooks := .later }
def ReviewsParseCardSaid : Prop := Claim7.holds Tryz.pinned (.plain (OpenSpec.ofChange reviewsParseSpec)) reviewsParseCard

/-- THE SECOND FORM's CARD OF 'dyelaw1.ReviewsMatch'. -/
def reviewsMatchUptoCard : Claim7 := { stood := { row := reviewsMatchUptoRow, standIns := [], harness := (true, "2c76fa173fdc5ca222f27b1a37601310bd0ac30d60710c2ce47a05338a823978"), looks := true }, kinds := [], alts := [], laidByText := true, laidKinds := [.data, .data, .data, .data, .sentinel, .sentinel, .pinned], laidTests := true, laidLooks := .later }
def ReviewsMatchUptoCardSaid : Prop := Claim7.holds Tryz.pinned (.plain (OpenSpec.upto reviewsMatchSpec)) reviewsMatchUptoCard

/-- THE SECOND FORM's CARD OF 'dyelaw1.ReviewsParse'. -/
def reviewsParseUptoCard : Claim7 := { stood := { row := reviewsParseUptoRow, standIns := [], harness := (true, "2c76fa173fdc5ca222f27b1a37601310bd0ac30d60710c2ce47a05338a823978"), looks := true }, kinds := [], alts := [], laidByText := true, laidKinds := [.data, .data, .data, .data, .sentinel, .sentinel, .pinned], laidTests := true, laidLooks := .later }
def ReviewsParseUptoCardSaid : Prop := Claim7.holds Tryz.pinned (.plain (OpenSpec.upto reviewsParseSpec)) reviewsParseUptoCard
end Rows
end Go.Proofs.YtilninaminaadaaGreatDoor
