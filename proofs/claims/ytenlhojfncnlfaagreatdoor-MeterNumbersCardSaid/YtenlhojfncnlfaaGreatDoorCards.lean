/-
  DERIVED. GIVEN WITH THE SEED: THE CARDS: each row of YtenlhojfncnlfaaGreatDoorRows.lean that lists a variable, with what it lists TIED to the program's text (the seventh form; the later family's looks); each row that meets fmt, with fmt's text TOLD by the authors' own Lean function (tested against real Go, not proved from fmt's source: count such statements apart). THE CARD IS WHAT COUNTS. Prove the row's statement (the work); the ties are given (YtenlhojfncnlfaaGreatDoorTie.lean); close each card by the builder's one call (the guide's Derived/Test/ToyasCard.lean, 'card_holds'). Laid BY PROGRAM, IN A SANDBOX (cutbox-door.mjs). By AI agents, Wed Nov 11 2026. No macro, syntax, notation, axiom, sorry.
-/
import Derived.Test.YtenlhojfncnlfaaGreatDoorRows
import GoSem.ClaimSeven
namespace Go.Proofs.YtenlhojfncnlfaaGreatDoor
namespace Rows

/-- THE TIED CARD OF 'tetherlaw25.MeterNumbers'. -/
def meterNumbersCard : Claim7 := { stood := { row := meterNumbersRow, standIns := [], harness := (true, "b73cb500302e129084da68bac30b9b4a1f39844c2dbea4ec96c41c82efc55d7c"), looks := true }, kinds := [], alts := [], laidByText := true, laidKinds := [.data, .data, .data, .data, .sentinel, .sentinel, .pinned, .pinned], laidTests := true, laidLooks := .later }
def MeterNumbersCardSaid : Prop := Claim7.holds Tryz.pinned (.plain (OpenSpec.ofChange meterNumbersSpec)) meterNumbersCard

/-- THE TIED CARD OF 'tetherlaw25.MeterBest'. -/
def meterBestCard : Claim7 := { stood := { row := meterBestRow, standIns := [], harness := (true, "b73cb500302e129084da68bac30b9b4a1f39844c2dbea4ec96c41c82efc55d7c"), looks := true }, kinds := [], alts := [], laidByText := true, laidKinds := [.data, .data, .data, .data, .sentinel, .sentinel, .pinned, .pinned], laidTests := true, laidLooks := .later }
def MeterBestCardSaid : Prop := Claim7.holds Tryz.pinned (.plain (OpenSpec.ofChange meterBestSpec)) meterBestCard

/-- THE SECOND FORM's CARD OF 'tetherlaw25.MeterNumbers'. -/
def meterNumbersUptoCard : Claim7 := { stood := { row := meterNumbersUptoRow, standIns := [], harness := (true, "b73cb500302e129084da68bac30b9b4a1f39844c2dbea4ec96c41c82efc55d7c"), looks := true }, kinds := [], alts := [], laidByText := true, laidKinds := [.data, .data, .data, .data, .sentinel, .sentinel, .pinned, .pinned], laidTests := true, laidLooks := .later }
def MeterNumbersUptoCardSaid : Prop := Claim7.holds Tryz.pinned (.plain (OpenSpec.upto meterNumbersSpec)) meterNumbersUptoCard

/-- THE SECOND FORM's CARD OF 'tetherlaw25.MeterBest'. -/
def meterBestUptoCard : Claim7 := { stood := { row := meterBestUptoRow, standIns := [], harness := (true, "b73cb500302e129084da68bac30b9b4a1f39844c2dbea4ec96c41c82efc55d7c"), looks := true }, kinds := [], alts := [], laidByText := true, laidKinds := [.data, .data, .data, .data, .sentinel, .sentinel, .pinned, .pinned], laidTests := true, laidLooks := .later }
def MeterBestUptoCardSaid : Prop := Claim7.holds Tryz.pinned (.plain (OpenSpec.upto meterBestSpec)) meterBestUptoCard
end Rows
end Go.Proofs.YtenlhojfncnlfaaGreatDoor
