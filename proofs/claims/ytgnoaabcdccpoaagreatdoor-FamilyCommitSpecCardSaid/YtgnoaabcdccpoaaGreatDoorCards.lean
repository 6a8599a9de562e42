/-
  DERIVED. GIVEN WITH THE SEED: THE CARDS: each row of YtgnoaabcdccpoaaGreatDoorRows.lean that lists a variable, with what it lists TIED to the program's text (the seventh form; the later family's looks); each row that meets fmt, with fmt's text TOLD by the authors' own Lean function (tested against real Go, not proved from fmt's source: count such statements apart). THE CARD IS WHAT COUNTS. Prove the row's statement (the work); the ties are given (YtgnoaabcdccpoaaGreatDoorTie.lean); close each card by the builder's one call (the guide's Derived/Test/ToyasCard.lean, 'card_holds'). Laid BY PROGRAM, IN A SANDBOX (cutbox-door.mjs). By AI agents, Wed Nov 11 2026. No macro, syntax, notation, axiom, sorry.
-/
import Derived.Test.YtgnoaabcdccpoaaGreatDoorRows
import GoSem.ClaimSeven
namespace Go.Proofs.YtgnoaabcdccpoaaGreatDoor
namespace Rows

/-- THE TIED CARD OF 'podiumlaw43.FamilySpec'. -/
def familySpecCard : Claim7 := { stood := { row := familySpecRow, standIns := [], harness := (true, "97b53c10642d6f138096431997d429c80f6734721beaa727991626cffc2dd1f0"), looks := true }, kinds := [], alts := [], laidByText := true, laidKinds := [.data, .data, .data, .pinned], laidTests := true, laidLooks := .later }
def FamilySpecCardSaid : Prop := Claim7.holds Tryz.pinned (.plain (OpenSpec.ofChange familySpecSpec)) familySpecCard

/-- THE TIED CARD OF 'podiumlaw43.FamilyCommitSpec'. -/
def familyCommitSpecCard : Claim7 := { stood := { row := familyCommitSpecRow, standIns := [], harness := (true, "97b53c10642d6f138096431997d429c80f6734721beaa727991626cffc2dd1f0"), looks := true }, kinds := [], alts := [], laidByText := true, laidKinds := [.data, .data, .data, .pinned], laidTests := true, laidLooks := .later }
def FamilyCommitSpecCardSaid : Prop := Claim7.holds Tryz.pinned (.plain (OpenSpec.ofChange familyCommitSpecSpec)) familyCommitSpecCard

/-- THE TIED CARD OF 'podiumlaw43.FamilySame'. -/
def familySameCard : Claim7 := { stood := { row := familySameRow, standIns := [], harness := (true, "97b53c10642d6f138096431997d429c80f6734721beaa727991626cffc2dd1f0"), looks := true }, kinds := [], alts := [], laidByText := true, laidKinds := [.data, .data, .data, .pinned], laidTests := true, laidLooks := .later }
def FamilySameCardSaid : Prop := Claim7.holds Tryz.pinned (.plain (OpenSpec.ofChange familySameSpec)) familySameCard

/-- THE TIED CARD OF 'podiumlaw43.FamilyParts'. -/
def familyPartsCard : Claim7 := { stood := { row := familyPartsRow, standIns := [], harness := (true, "97b53c10642d6f138096431997d429c80f6734721beaa727991626cffc2dd1f0"), looks := true }, kinds := [], alts := [], laidByText := true, laidKinds := [.data, .data, .data, .pinned], laidTests := true, laidLooks := .later }
def FamilyPartsCardSaid : Prop := Claim7.holds Tryz.pinned (.plain (OpenSpec.ofChange familyPartsSpec)) familyPartsCard

/-- THE TIED CARD OF 'podiumlaw43.FamilyMore'. -/
def familyMoreCard : Claim7 := { stood := { row := familyMoreRow, standIns := [], harness := (true, "97b53c10642d6f138096431997d429c80f6734721beaa727991626cffc2dd1f0"), looks := true }, kinds := [], alts := [], laidByText := true, laidKinds := [.data, .data, .data, .pinned], laidTests := true, laidLooks := .later }
def FamilyMoreCardSaid : Prop := Claim7.holds Tryz.pinned (.plain (OpenSpec.ofChange familyMoreSpec)) familyMoreCard

/-- THE TIED CARD OF 'podiumlaw43.FamilyAlone'. -/
def familyAloneCard : Claim7 := { stood := { row := familyAloneRow, standIns := [], harness := (true, "97b53c10642d6f138096431997d429c80f6734721beaa727991626cffc2dd1f0"), looks := true }, kinds := [], alts := [], laidByText := true, laidKinds := [.data, .data, .data, .pinned], laidTests := true, laidLooks := .later }
def FamilyAloneCardSaid : Prop := Claim7.holds Tryz.pinned (.plain (OpenSpec.ofChange familyAloneSpec)) familyAloneCard

/-- THE SECOND FORM's CARD OF 'podiumlaw43.FamilySpec'. -/
def familySpecUptoCard : Claim7 := { stood := { row := familySpecUptoRow, standIns := [], harness := (true, "97b53c10642d6f138096431997d429c80f6734721beaa727991626cffc2dd1f0"), looks := true }, kinds := [], alts := [], laidByText := true, laidKinds := [.data, .data, .data, .pinned], laidTests := true, laidLooks := .later }
def FamilySpecUptoCardSaid : Prop := Claim7.holds Tryz.pinned (.plain (OpenSpec.upto familySpecSpec)) familySpecUptoCard

/-- THE SECOND FORM's CARD OF 'podiumlaw43.FamilyCommitSpec'. -/
def familyCommitSpecUptoCard : Claim7 := { stood := { row := familyCommitSpecUptoRow, standIns := [], harness := (true, "97b53c10642d6f138096431997d429c80f6734721beaa727991626cffc2dd1f0"), looks := true }, kinds := [], alts := [], laidByText := true, laidKinds := [.data, .data, .data, .pinned], laidTests := true, laidLooks := .later }
def FamilyCommitSpecUptoCardSaid : Prop := Claim7.holds Tryz.pinned (.plain (OpenSpec.upto familyCommitSpecSpec)) familyCommitSpecUptoCard

/-- THE SECOND FORM's CARD OF 'podiumlaw43.FamilySame'. -/
def familySameUptoCard : Claim7 := { stood := { row := familySameUptoRow, standIns := [], harness := (true, "97b53c10642d6f138096431997d429c80f6734721beaa727991626cffc2dd1f0"), looks := true }, kinds := [], alts := [], laidByText := true, laidKinds := [.data, .data, .data, .pinned], laidTests := true, laidLooks := .later }
def FamilySameUptoCardSaid : Prop := Claim7.holds Tryz.pinned (.plain (OpenSpec.upto familySameSpec)) familySameUptoCard

/-- THE SECOND FORM's CARD OF 'podiumlaw43.FamilyParts'. -/
def familyPartsUptoCard : Claim7 := { stood := { row := familyPartsUptoRow, standIns := [], harness := (true, "97b53c10642d6f138096431997d429c80f6734721beaa727991626cffc2dd1f0"), looks := true }, kinds := [], alts := [], laidByText := true, laidKinds := [.data, .data, .data, .pinned], laidTests := true, laidLooks := .later }
def FamilyPartsUptoCardSaid : Prop := Claim7.holds Tryz.pinned (.plain (OpenSpec.upto familyPartsSpec)) familyPartsUptoCard

/-- THE SECOND FORM's CARD OF 'podiumlaw43.FamilyMore'. -/
def familyMoreUptoCard : Claim7 := { stood := { row := familyMoreUptoRow, standIns := [], harness := (true, "97b53c10642d6f138096431997d429c80f6734721beaa727991626cffc2dd1f0"), looks := true }, kinds := [], alts := [], laidByText := true, laidKinds := [.data, .data, .data, .pinned], laidTests := true, laidLooks := .later }
def FamilyMoreUptoCardSaid : Prop := Claim7.holds Tryz.pinned (.plain (OpenSpec.upto familyMoreSpec)) familyMoreUptoCard

/-- THE SECOND FORM's CARD OF 'podiumlaw43.FamilyAlone'. -/
def familyAloneUptoCard : Claim7 := { stood := { row := familyAloneUptoRow, standIns := [], harness := (true, "97b53c10642d6f138096431997d429c80f6734721beaa727991626cffc2dd1f0"), looks := true }, kinds := [], alts := [], laidByText := true, laidKinds := [.data, .data, .data, .pinned], laidTests := true, laidLooks := .later }
def FamilyAloneUptoCardSaid : Prop := Claim7.holds Tryz.pinned (.plain (OpenSpec.upto familyAloneSpec)) familyAloneUptoCard
end Rows
end Go.Proofs.YtgnoaabcdccpoaaGreatDoor
