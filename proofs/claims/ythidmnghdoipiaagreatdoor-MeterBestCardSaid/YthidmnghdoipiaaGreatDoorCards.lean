/-
  DERIVED. GIVEN WITH THE SEED: THE CARDS: each row of YthidmnghdoipiaaGreatDoorRows.lean that lists a variable, with what it lists TIED to the program's text (the seventh form; the later family's looks); each row that meets fmt, with fmt's text TOLD by the authors' own Lean function (tested against real Go, not proved from fmt's source: count such statements apart). THE CARD IS WHAT COUNTS. Prove the row's statement (the work); the ties are given (YthidmnghdoipiaaGreatDoorTie.lean); close each card by the builder's one call (the guide's Derived/Test/ToyasCard.lean, 'card_holds'). Laid BY PROGRAM, IN A SANDBOX (cutbox-door.mjs). By AI agents, Wed Nov 11 2026. No macro, syntax, notation, axiom, sorry.
-/
import Derived.Test.YthidmnghdoipiaaGreatDoorRows
import GoSem.ClaimSeven
namespace Go.Proofs.YthidmnghdoipiaaGreatDoor
namespace Rows

/-- THE TIED CARD OF 'tetherlaw25.MeterPlays'. -/
def meterPlaysCard : Claim7 := { stood := { row := meterPlaysRow, standIns := [], harness := (true, "d157bb72e7e9986d880fa4c71bb3bb5fb04d12eafdc80e3e49ab3e4f79cdf565"), looks := true }, kinds := [], alts := [], laidByText := true, laidKinds := [.data, .data, .data, .data, .sentinel, .sentinel, .pinned, .pinned], laidTests := true, laidLooks := .later }
def MeterPlaysCardSaid : Prop := Claim7.holds Tryz.pinned (.plain (OpenSpec.ofChange meterPlaysSpec)) meterPlaysCard

/-- THE TIED CARD OF 'tetherlaw25.MeterBest'. -/
def meterBestCard : Claim7 := { stood := { row := meterBestRow, standIns := [], harness := (true, "d157bb72e7e9986d880fa4c71bb3bb5fb04d12eafdc80e3e49ab3e4f79cdf565"), looks := true }, kinds := [], alts := [], laidByText := true, laidKinds := [.data, .data, .data, .data, .sentinel, .sentinel, .pinned, .pinned], laidTests := true, laidLooks := .later }
def MeterBestCardSaid : Prop := Claim7.holds Tryz.pinned (.plain (OpenSpec.ofChange meterBestSpec)) meterBestCard

/-- THE SECOND FORM's CARD OF 'tetherlaw25.MeterPlays'. -/
def meterPlaysUptoCard : Claim7 := { stood := { row := meterPlaysUptoRow, standIns := [], harness := (true, "d157bb72e7e9986d880fa4c71bb3bb5fb04d12eafdc80e3e49ab3e4f79cdf565"), looks := true }, kinds := [], alts := [], laidByText := true, laidKinds := [.data, .data, .data, .data, .sentinel, .sentinel, .pinned, .pinned], laidTests := true, laidLooks := .later }
def MeterPlaysUptoCardSaid : Prop := Claim7.holds Tryz.pinned (.plain (OpenSpec.upto meterPlaysSpec)) meterPlaysUptoCard

/-- THE SECOND FORM's CARD OF 'tetherlaw25.MeterBest'. -/
def meterBestUptoCard : Claim7 := { stood := { row := meterBestUptoRow, standIns := [], harness := (true, "d157bb72e7e9986d880fa4c71bb3bb5fb04d12eafdc80e3e49ab3e4f79cdf565"), looks := true }, kinds := [], alts := [], laidByText := true, laidKinds := [.data, .data, .data, .data, .sentinel, .sentinel, .pinned, .pinned], laidTests := true, laidLooks := .later }
def MeterBestUptoCardSaid : Prop := Claim7.holds Tryz.pinned (.plain (OpenSpec.upto meterBestSpec)) meterBestUptoCard
end Rows
end Go.Proofs.YthidmnghdoipiaaGreatDoor
