/-
  DERIVED. GIVEN WITH THE SEED: THE CARDS: each row of YtjicgbpnplmpbaaDoorRows.lean that lists a variable, with what it lists TIED to the program's text (the seventh form; the later family's looks); each row that meets fmt, with fmt's text TOLD by the authors' own Lean function (tested against real Go, not proved from fmt's source: count such statements apart). THE CARD IS WHAT COUNTS. Prove the row's statement (the work); the ties are given (YtjicgbpnplmpbaaDoorTie.lean); close each card by the builder's one call (the guide's Derived/Test/ToyasCard.lean, 'card_holds'). Laid BY PROGRAM, IN A SANDBOX (cutbox-door.mjs). By AI agents, Wed Nov 11 2026. No macro, syntax, notation, axiom, sorry.
-/
import Derived.Test.YtjicgbpnplmpbaaDoorRows
import GoSem.ClaimSeven
namespace Go.Proofs.YtjicgbpnplmpbaaDoor
namespace Rows

/-- THE TIED CARD OF 'dyelaw1.FramesCheck'. -/
def framesCheckCard : Claim7 := { stood := { row := framesCheckRow, standIns := [], harness := (true, "3aef33645914cb1945c517dd9939153d26ed31636a0be49ab38b92928e077f2f"), looks := false }, kinds := [], alts := [], laidByText := true, laidKinds := [.data, .data, .data], laidTests := true, laidLooks := .later }
def FramesCheckCardSaid : Prop := Claim7.holds Tryd.pinned (.plain (OpenSpec.ofChange framesCheckSpec)) framesCheckCard

/-- THE TIED CARD OF 'dyelaw1.SketchesMatch'. -/
def sketchesMatchCard : Claim7 := { stood := { row := sketchesMatchRow, standIns := [], harness := (true, "3aef33645914cb1945c517dd9939153d26ed31636a0be49ab38b92928e077f2f"), looks := false }, kinds := [], alts := [], laidByText := true, laidKinds := [.data, .pinned], laidTests := true, laidLooks := .later }
def SketchesMatchCardSaid : Prop := Claim7.holds Tryd.pinned (.plain (OpenSpec.ofChange sketchesMatchSpec)) sketchesMatchCard

/-- THE TIED CARD OF 'dyelaw1.EditsAreTrimmed'. -/
def editsAreTrimmedCard : Claim7 := { stood := { row := editsAreTrimmedRow, standIns := [], harness := (true, "3aef33645914cb1945c517dd9939153d26ed31636a0be49ab38b92928e077f2f"), looks := false }, kinds := [], alts := [], laidByText := true, laidKinds := [.data, .pinned], laidTests := true, laidLooks := .later }
def EditsAreTrimmedCardSaid : Prop := Claim7.holds Tryd.pinned (.plain (OpenSpec.ofChange editsAreTrimmedSpec)) editsAreTrimmedCard

/-- THE TIED CARD OF 'dyelaw1.CodesMatch'. -/
def codesMatchCard : Claim7 := { stood := { row := codesMatchRow, standIns := [], harness := (true, "3aef33645914cb1945c517dd9939153d26ed31636a0be49ab38b92928e077f2f"), looks := false }, kinds := [], alts := [], laidByText := true, laidKinds := [.data, .data, .data], laidTests := true, laidLooks := .later }
def CodesMatchCardSaid : Prop := Claim7.holds Tryd.pinned (.plain (OpenSpec.ofChange codesMatchSpec)) codesMatchCard

/-- THE SECOND FORM's CARD OF 'dyelaw1.FramesCheck'. -/
def framesCheckUptoCard : Claim7 := { stood := { row := framesCheckUptoRow, standIns := [], harness := (true, "3aef33645914cb1945c517dd9939153d26ed31636a0be49ab38b92928e077f2f"), looks := false }, kinds := [], alts := [], laidByText := true, laidKinds := [.data, .data, .data], laidTests := true, laidLooks := .later }
def FramesCheckUptoCardSaid : Prop := Claim7.holds Tryd.pinned (.plain (OpenSpec.upto framesCheckSpec)) framesCheckUptoCard

/-- THE SECOND FORM's CARD OF 'dyelaw1.SketchesMatch'. -/
def sketchesMatchUptoCard : Claim7 := { stood := { row := sketchesMatchUptoRow, standIns := [], harness := (true, "3aef33645914cb1945c517dd9939153d26ed31636a0be49ab38b92928e077f2f"), looks := false }, kinds := [], alts := [], laidByText := true, laidKinds := [.data, .pinned], laidTests := true, laidLooks := .later }
def SketchesMatchUptoCardSaid : Prop := Claim7.holds Tryd.pinned (.plain (OpenSpec.upto sketchesMatchSpec)) sketchesMatchUptoCard

/-- THE SECOND FORM's CARD OF 'dyelaw1.EditsAreTrimmed'. -/
def editsAreTrimmedUptoCard : Claim7 := { stood := { row := editsAreTrimmedUptoRow, standIns := [], harness := (true, "3aef33645914cb1945c517dd9939153d26ed31636a0be49ab38b92928e077f2f"), looks := false }, kinds := [], alts := [], laidByText := true, laidKinds := [.data, .pinned], laidTests := true, laidLooks := .later }
def EditsAreTrimmedUptoCardSaid : Prop := Claim7.holds Tryd.pinned (.plain (OpenSpec.upto editsAreTrimmedSpec)) editsAreTrimmedUptoCard

/-- THE SECOND FORM's CARD OF 'dyelaw1.CodesMatch'. -/
def codesMatchUptoCard : Claim7 := { stood := { row := codesMatchUptoRow, standIns := [], harness := (true, "3aef33645914cb1945c517dd9939153d26ed31636a0be49ab38b92928e077f2f"), looks := false }, kinds := [], alts := [], laidByText := true, laidKinds := [.data, .data, .data], laidTests := true, laidLooks := .later }
def CodesMatchUptoCardSaid : Prop := Claim7.holds Tryd.pinned (.plain (OpenSpec.upto codesMatchSpec)) codesMatchUptoCard
end Rows
end Go.Proofs.YtjicgbpnplmpbaaDoor
