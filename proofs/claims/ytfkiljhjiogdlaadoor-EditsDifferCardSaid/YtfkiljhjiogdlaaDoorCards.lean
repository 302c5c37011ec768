/-
  DERIVED. GIVEN WITH THE SEED: THE CARDS: each row of YtfkiljhjiogdlaaDoorRows.lean that lists a variable, with what it lists TIED to the program's text (the seventh form; the later family's looks); each row that meets fmt, with fmt's text TOLD by the authors' own Lean function (tested against real Go, not proved from fmt's source: count such statements apart). THE CARD IS WHAT COUNTS. Prove the row's statement (the work); the ties are given (YtfkiljhjiogdlaaDoorTie.lean); close each card by the builder's one call (the guide's Derived/Test/ToyasCard.lean, 'card_holds'). Laid BY PROGRAM, IN A SANDBOX (cutbox-door.mjs). By AI agents, Wed Nov 11 2026. No macro, syntax, notation, axiom, sorry.
-/
import Derived.Test.YtfkiljhjiogdlaaDoorRows
import GoSem.ClaimSeven
namespace Go.Proofs.YtfkiljhjiogdlaaDoor
namespace Rows

/-- THE TIED CARD OF 'dyelaw1.EditsDiffer'. -/
def editsDifferCard : Claim7 := { stood := { row := editsDifferRow, standIns := [], harness := (true, "6309b169d10ec0d2237dd84a629aab343b75cf246320c9bc030fe9438f2fe92f"), looks := false }, kinds := [], alts := [], laidByText := true, laidKinds := [.data, .pinned], laidTests := true, laidLooks := .later }
def EditsDifferCardSaid : Prop := Claim7.holds Tryd.pinned (.plain (OpenSpec.ofChange editsDifferSpec)) editsDifferCard

/-- THE TIED CARD OF 'dyelaw1.EditsMatch'. -/
def editsMatchCard : Claim7 := { stood := { row := editsMatchRow, standIns := [], harness := (true, "6309b169d10ec0d2237dd84a629aab343b75cf246320c9bc030fe9438f2fe92f"), looks := false }, kinds := [], alts := [], laidByText := true, laidKinds := [.data, .pinned], laidTests := true, laidLooks := .later }
def EditsMatchCardSaid : Prop := Claim7.holds Tryd.pinned (.plain (OpenSpec.ofChange editsMatchSpec)) editsMatchCard

/-- THE SECOND FORM's CARD OF 'dyelaw1.EditsDiffer'. -/
def editsDifferUptoCard : Claim7 := { stood := { row := editsDifferUptoRow, standIns := [], harness := (true, "6309b169d10ec0d2237dd84a629aab343b75cf246320c9bc030fe9438f2fe92f"), looks := false }, kinds := [], alts := [], laidByText := true, laidKinds := [.data, .pinned], laidTests := true, laidLooks := .later }
def EditsDifferUptoCardSaid : Prop := Claim7.holds Tryd.pinned (.plain (OpenSpec.upto editsDifferSpec)) editsDifferUptoCard

/-- THE SECOND FORM's CARD OF 'dyelaw1.EditsMatch'. -/
def editsMatchUptoCard : Claim7 := { stood := { row := editsMatchUptoRow, standIns := [], harness := (true, "6309b169d10ec0d2237dd84a629aab343b75cf246320c9bc030fe9438f2fe92f"), looks := false }, kinds := [], alts := [], laidByText := true, laidKinds := [.data, .pinned], laidTests := true, laidLooks := .later }
def EditsMatchUptoCardSaid : Prop := Claim7.holds Tryd.pinned (.plain (OpenSpec.upto editsMatchSpec)) editsMatchUptoCard
end Rows
end Go.Proofs.YtfkiljhjiogdlaaDoor
