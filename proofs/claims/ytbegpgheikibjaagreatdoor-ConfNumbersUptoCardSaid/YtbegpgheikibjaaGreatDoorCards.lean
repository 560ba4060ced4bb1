/-
  DERIVED. GIVEN WITH THE SEED: THE CARDS: each row of YtbegpgheikibjaaGreatDoorRows.lean that lists a variable, with what it lists TIED to the program's text (the seventh form; the later family's looks); each row that meets fmt, with fmt's text TOLD by the authors' own Lean function (tested against real Go, not proved from fmt's source: count such statements apart). THE CARD IS WHAT COUNTS. Prove the row's statement (the work); the ties are given (YtbegpgheikibjaaGreatDoorTie.lean); close each card by the builder's one call (the guide's Derived/Test/ToyasCard.lean, 'card_holds'). Laid BY PROGRAM, IN A SANDBOX (cutbox-door.mjs). By AI agents, Wed Nov 11 2026. No macro, syntax, notation, axiom, sorry.
-/
import Derived.Test.YtbegpgheikibjaaGreatDoorRows
import GoSem.ClaimSeven
namespace Go.Proofs.YtbegpgheikibjaaGreatDoor
namespace Rows

/-- THE TIED CARD OF 'tetherlaw05.ConfReads'. -/
def confReadsCard : Claim7 := { stood := { row := confReadsRow, standIns := [], harness := (true, "9af8a66094ca3a44ff7aab46083506e324203b02fdafc38bd60667d6bacf12ab"), looks := true }, kinds := [], alts := [], laidByText := true, laidKinds := [.data, .data, .data, .data, .handle, .sentinel, .sentinel, .sentinel, .pinned], laidTests := true, laidLooks := .later }
def ConfReadsCardSaid : Prop := Claim7.holds Tryz.pinned (.plain (OpenSpec.ofChange confReadsSpec)) confReadsCard

/-- THE TIED CARD OF 'tetherlaw05.ConfTwo'. -/
def confTwoCard : Claim7 := { stood := { row := confTwoRow, standIns := [], harness := (true, "9af8a66094ca3a44ff7aab46083506e324203b02fdafc38bd60667d6bacf12ab"), looks := true }, kinds := [], alts := [], laidByText := true, laidKinds := [.data, .data, .data, .data, .handle, .sentinel, .sentinel, .sentinel, .pinned], laidTests := true, laidLooks := .later }
def ConfTwoCardSaid : Prop := Claim7.holds Tryz.pinned (.plain (OpenSpec.ofChange confTwoSpec)) confTwoCard

/-- THE TIED CARD OF 'tetherlaw05.ConfBlanks'. -/
def confBlanksCard : Claim7 := { stood := { row := confBlanksRow, standIns := [], harness := (true, "9af8a66094ca3a44ff7aab46083506e324203b02fdafc38bd60667d6bacf12ab"), looks := true }, kinds := [], alts := [], laidByText := true, laidKinds := [.data, .data, .data, .data, .handle, .sentinel, .sentinel, .sentinel, .pinned], laidTests := true, laidLooks := .later }
def ConfBlanksCardSaid : Prop := Claim7.holds Tryz.pinned (.plain (OpenSpec.ofChange confBlanksSpec)) confBlanksCard

/-- THE TIED CARD OF 'tetherlaw05.ConfWords'. -/
def confWordsCard : Claim7 := { stood := { row := confWordsRow, standIns := [], harness := (true, "9af8a66094ca3a44ff7aab46083506e324203b02fdafc38bd60667d6bacf12ab"), looks := true }, kinds := [], alts := [], laidByText := true, laidKinds := [.data, .data, .data, .data, .handle, .sentinel, .sentinel, .sentinel, .pinned], laidTests := true, laidLooks := .later }
def ConfWordsCardSaid : Prop := Claim7.holds Tryz.pinned (.plain (OpenSpec.ofChange confWordsSpec)) confWordsCard

/-- THE TIED CARD OF 'tetherlaw05.ConfNumbers'. -/
def confNumbersCard : Claim7 := { stood := { row := confNumbersRow, standIns := [], harness := (true, "9af8a66094ca3a44ff7aab46083506e324203b02fdafc38bd60667d6bacf12ab"), looks := true }, kinds := [], alts := [], laidByText := true, laidKinds := [.data, .data, .data, .data, .handle, .sentinel, .sentinel, .sentinel, .pinned], laidTests := true, laidLooks := .later }
def ConfNumbersCardSaid : Prop := Claim7.holds Tryz.pinned (.plain (OpenSpec.ofChange confNumbersSpec)) confNumbersCard

/-- THE TIED CARD OF 'tetherlaw05.ConfBack'. -/
def confBackCard : Claim7 := { stood := { row := confBackRow, standIns := [], harness := (true, "9af8a66094ca3a44ff7aab46083506e324203b02fdafc38bd60667d6bacf12ab"), looks := true }, kinds := [], alts := [], laidByText := true, laidKinds := [.data, .data, .data, .data, .handle, .sentinel, .sentinel, .sentinel, .pinned], laidTests := true, laidLooks := .later }
def ConfBackCardSaid : Prop := Claim7.holds Tryz.pinned (.plain (OpenSpec.ofChange confBackSpec)) confBackCard

/-- THE SECOND FORM's CARD OF 'tetherlaw05.ConfReads'. -/
def confReadsUptoCard : Claim7 := { stood := { row := confReadsUptoRow, standIns := [], harness := (true, "9af8a66094ca3a44ff7aab46083506e324203b02fdafc38bd60667d6bacf12ab"), looks := true }, kinds := [], alts := [], laidByText := true, laidKinds := [.data, .data, .data, .data, .handle, .sentinel, .sentinel, .sentinel, .pinned], laidTests := true, laidLooks := .later }
def ConfReadsUptoCardSaid : Prop := Claim7.holds Tryz.pinned (.plain (OpenSpec.upto confReadsSpec)) confReadsUptoCard

/-- THE SECOND FORM's CARD OF 'tetherlaw05.ConfTwo'. -/
def confTwoUptoCard : Claim7 := { stood := { row := confTwoUptoRow, standIns := [], harness := (true, "9af8a66094ca3a44ff7aab46083506e324203b02fdafc38bd60667d6bacf12ab"), looks := true }, kinds := [], alts := [], laidByText := true, laidKinds := [.data, .data, .data, .data, .handle, .sentinel, .sentinel, .sentinel, .pinned], laidTests := true, laidLooks := .later }
def ConfTwoUptoCardSaid : Prop := Claim7.holds Tryz.pinned (.plain (OpenSpec.upto confTwoSpec)) confTwoUptoCard

/-- THE SECOND FORM's CARD OF 'tetherlaw05.ConfBlanks'. -/
def confBlanksUptoCard : Claim7 := { stood := { row := confBlanksUptoRow, standIns := [], harness := (true, "9af8a66094ca3a44ff7aab46083506e324203b02fdafc38bd60667d6bacf12ab"), looks := true }, kinds := [], alts := [], laidByText := true, laidKinds := [.data, .data, .data, .data, .handle, .sentinel, .sentinel, .sentinel, .pinned], laidTests := true, laidLooks := .later }
def ConfBlanksUptoCardSaid : Prop := Claim7.holds Tryz.pinned (.plain (OpenSpec.upto confBlanksSpec)) confBlanksUptoCard

/-- THE SECOND FORM's CARD OF 'tetherlaw05.ConfWords'. -/
def confWordsUptoCard : Claim7 := { stood := { row := confWordsUptoRow, standIns := [], harness := (true, "9af8a66094ca3a44ff7aab46083506e324203b02fdafc38bd60667d6bacf12ab"), looks := true }, kinds := [], alts := [], laidByText := true, laidKinds := [.data, .data, .data, .data, .handle, .sentinel, .sentinel, .sentinel, .pinned], laidTests := true, laidLooks := .later }
def ConfWordsUptoCardSaid : Prop := Claim7.holds Tryz.pinned (.plain (OpenSpec.upto confWordsSpec)) confWordsUptoCard

/-- THE SECOND FORM's CARD OF 'tetherlaw05.ConfNumbers'. -/
def confNumbersUptoCard : Claim7 := { stood := { row := confNumbersUptoRow, standIns := [], harness := (true, "9af8a66094ca3a44ff7aab46083506e324203b02fdafc38bd60667d6bacf12ab"), looks := true }, kinds := [], alts := [], laidByText := true, laidKinds := [.data, .data, .data, .data, .handle, .sentinel, .sentinel, .sentinel, .pinned], laidTests := true, laidLooks := .later }
def ConfNumbersUptoCardSaid : Prop := Claim7.holds Tryz.pinned (.plain (OpenSpec.upto confNumbersSpec)) confNumbersUptoCard

/-- THE SECOND FORM's CARD OF 'tetherlaw05.ConfBack'. -/
def confBackUptoCard : Claim7 := { stood := { row := confBackUptoRow, standIns := [], harness := (true, "9af8a66094ca3a44ff7aab46083506e324203b02fdafc38bd60667d6bacf12ab"), looks := true }, kinds := [], alts := [], laidByText := true, laidKinds := [.data, .data, .data, .data, .handle, .sentinel, .sentinel, .sentinel, .pinned], laidTests := true, laidLooks := .later }
def ConfBackUptoCardSaid : Prop := Claim7.holds Tryz.pinned (.plain (OpenSpec.upto confBackSpec)) confBackUptoCard
end Rows
end Go.Proofs.YtbegpgheikibjaaGreatDoor
