/-
  DERIVED. GIVEN WITH THE SEED: THE CARDS: each row of YthidmnghdoipiaaDoorRows.lean that lists a variable, with what it lists TIED to the program's text (the seventh form; the later family's looks); each row that meets fmt, with fmt's text TOLD by the authors' own Lean function (tested against real Go, not proved from fmt's source: count such statements apart). THE CARD IS WHAT COUNTS. Prove the row's statement (the work); the ties are given (YthidmnghdoipiaaDoorTie.lean); close each card by the builder's one call (the guide's Derived/Test/ToyasCard.lean, 'card_holds'). Laid BY PROGRAM, IN A SANDBOX (cutbox-door.mjs). By AI agents, Wed Nov 11 2026. No macro, syntax, notation, axiom, sorry.
-/
import Derived.Test.YthidmnghdoipiaaDoorRows
import GoSem.ClaimSeven
namespace Go.Proofs.YthidmnghdoipiaaDoor
namespace Rows

/-- THE TIED CARD OF 'tetherlaw25.MeterBounds'. -/
def meterBoundsCard : Claim7 := { stood := { row := meterBoundsRow, standIns := [], harness := (true, "fff975b24aa3e2b414d2d4f55e60866645f3efe467b950b43960f853e332b1be"), looks := true }, kinds := [], alts := [], laidByText := true, laidKinds := [.data, .data, .data, .data, .sentinel, .sentinel, .pinned, .pinned], laidTests := true, laidLooks := .later }
def MeterBoundsCardSaid : Prop := Claim7.holds Tryd.pinned (.plain (OpenSpec.ofChange meterBoundsSpec)) meterBoundsCard

/-- THE SECOND FORM's CARD OF 'tetherlaw25.MeterBounds'. -/
def meterBoundsUptoCard : Claim7 := { stood := { row := meterBoundsUptoRow, standIns := [], harness := (true, "fff975b24aa3e2b414d2d4f55e60866645f3efe467b950b43960f853e332b1be"), looks := true }, kinds := [], alts := [], laidByText := true, laidKinds := [.data, .data, .data, .data, .sentinel, .sentinel, .pinned, .pinned], laidTests := true, laidLooks := .later }
def MeterBoundsUptoCardSaid : Prop := Claim7.holds Tryd.pinned (.plain (OpenSpec.upto meterBoundsSpec)) meterBoundsUptoCard
end Rows
end Go.Proofs.YthidmnghdoipiaaDoor
