/-
  DERIVED. GIVEN WITH THE SEED: THE CARDS: each row of YticekgnmiaidjaaGreatDoorRows.lean that lists a variable, with what it lists TIED to the program's text (the seventh form; the later family's looks); each row that meets fmt, with fmt's text TOLD by the authors' own Lean function (tested against real Go, not proved from fmt's source: count such statements apart). THE CARD IS WHAT COUNTS. Prove the row's statement (the work); the ties are given (YticekgnmiaidjaaGreatDoorTie.lean); close each card by the builder's one call (the guide's Derived/Test/ToyasCard.lean, 'card_holds'). Laid BY PROGRAM, IN A SANDBOX (cutbox-door.mjs). By AI agents, Wed Nov 11 2026. No macro, syntax, notation, axiom, sorry.
-/
import Derived.Test.YticekgnmiaidjaaGreatDoorRows
import GoSem.ClaimSeven
namespace Go.Proofs.YticekgnmiaidjaaGreatDoor
namespace Rows

/-- THE TIED CARD OF 'dyelaw1.NeutralIsNothing'. -/
def neutralIsNothingCard : Claim7 := { stood := { row := neutralIsNothingRow, standIns := [], harness := (true, "a0f209dc06543d74a7a9e237f6ca0a1b65fd06a0672139f8c1ab2a8993c1f671"), looks := false }, kinds := [], alts := [], laidByText := true, laidKinds := [.data, .data, .data, .data, .pinned, .pinned], laidTests := true, laidLooks := .later }
def NeutralIsNothingCardSaid : Prop := Claim7.holds Tryz.pinned (.plain (OpenSpec.ofChange neutralIsNothingSpec)) neutralIsNothingCard

/-- THE TIED CARD OF 'dyelaw1.LooksMerge'. -/
def looksMergeCard : Claim7 := { stood := { row := looksMergeRow, standIns := [], harness := (true, "a0f209dc06543d74a7a9e237f6ca0a1b65fd06a0672139f8c1ab2a8993c1f671"), looks := false }, kinds := [], alts := [], laidByText := true, laidKinds := [.data, .data, .data, .data, .data, .pinned, .pinned, .pinned], laidTests := true, laidLooks := .later }
def LooksMergeCardSaid : Prop := Claim7.holds Tryz.pinned (.plain (OpenSpec.ofChange looksMergeSpec)) looksMergeCard

/-- THE TIED CARD OF 'dyelaw1.LooksDiffer'. -/
def looksDifferCard : Claim7 := { stood := { row := looksDifferRow, standIns := [], harness := (true, "a0f209dc06543d74a7a9e237f6ca0a1b65fd06a0672139f8c1ab2a8993c1f671"), looks := false }, kinds := [], alts := [], laidByText := true, laidKinds := [.data, .data, .data, .data, .data, .pinned, .pinned, .pinned], laidTests := true, laidLooks := .later }
def LooksDifferCardSaid : Prop := Claim7.holds Tryz.pinned (.plain (OpenSpec.ofChange looksDifferSpec)) looksDifferCard

/-- THE TIED CARD OF 'dyelaw1.ChangesApply'. -/
def changesApplyCard : Claim7 := { stood := { row := changesApplyRow, standIns := [], harness := (true, "a0f209dc06543d74a7a9e237f6ca0a1b65fd06a0672139f8c1ab2a8993c1f671"), looks := false }, kinds := [], alts := [], laidByText := true, laidKinds := [.data, .data, .data, .data, .data, .pinned, .pinned, .pinned], laidTests := true, laidLooks := .later }
def ChangesApplyCardSaid : Prop := Claim7.holds Tryz.pinned (.plain (OpenSpec.ofChange changesApplySpec)) changesApplyCard

/-- THE SECOND FORM's CARD OF 'dyelaw1.NeutralIsNothing'. -/
def neutralIsNothingUptoCard : Claim7 := { stood := { row := neutralIsNothingUptoRow, standIns := [], harness := (true, "a0f209dc06543d74a7a9e237f6ca0a1b65fd06a0672139f8c1ab2a8993c1f671"), looks := false }, kinds := [], alts := [], laidByText := true, laidKinds := [.data, .data, .data, .data, .pinned, .pinned], laidTests := true, laidLooks := .later }
def NeutralIsNothingUptoCardSaid : Prop := Claim7.holds Tryz.pinned (.plain (OpenSpec.upto neutralIsNothingSpec)) neutralIsNothingUptoCard

/-- THE SECOND FORM's CARD OF 'dyelaw1.LooksMerge'. -/
def looksMergeUptoCard : Claim7 := { stood := { row := looksMergeUptoRow, standIns := [], harness := (true, "a0f209dc06543d74a7a9e237f6ca0a1b65fd06a0672139f8c1ab2a8993c1f671"), looks := false }, kinds := [], alts := [], laidByText := true, laidKinds := [.data, .data, .data, .data, .data, .pinned, .pinned, .pinned], laidTests := true, laidLooks := .later }
def LooksMergeUptoCardSaid : Prop := Claim7.holds Tryz.pinned (.plain (OpenSpec.upto looksMergeSpec)) looksMergeUptoCard

/-- THE SECOND FORM's CARD OF 'dyelaw1.LooksDiffer'. -/
def looksDifferUptoCard : Claim7 := { stood := { row := looksDifferUptoRow, standIns := [], harness := (true, "a0f209dc06543d74a7a9e237f6ca0a1b65fd06a0672139f8c1ab2a8993c1f671"), looks := false }, kinds := [], alts := [], laidByText := true, laidKinds := [.data, .data, .data, .data, .data, .pinned, .pinned, .pinned], laidTests := true, laidLooks := .later }
def LooksDifferUptoCardSaid : Prop := Claim7.holds Tryz.pinned (.plain (OpenSpec.upto looksDifferSpec)) looksDifferUptoCard

/-- THE SECOND FORM's CARD OF 'dyelaw1.ChangesApply'. -/
def changesApplyUptoCard : Claim7 := { stood := { row := changesApplyUptoRow, standIns := [], harness := (true, "a0f209dc06543d74a7a9e237f6ca0a1b65fd06a0672139f8c1ab2a8993c1f671"), looks := false }, kinds := [], alts := [], laidByText := true, laidKinds := [.data, .data, .data, .data, .data, .pinned, .pinned, .pinned], laidTests := true, laidLooks := .later }
def ChangesApplyUptoCardSaid : Prop := Claim7.holds Tryz.pinned (.plain (OpenSpec.upto changesApplySpec)) changesApplyUptoCard
end Rows
end Go.Proofs.YticekgnmiaidjaaGreatDoor
