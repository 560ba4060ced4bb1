/-
  DERIVED. GIVEN WITH THE SEED: THE CARDS: each row of YtenlhojfncnlfaaDoorRows.lean that lists a variable, with what it lists TIED to the program's text (the seventh form; the later family's looks); each row that meets fmt, with fmt's text TOLD by the authors' own Lean function (tested against real Go, not proved from fmt's source: count such statements apart). THE CARD IS WHAT COUNTS. Prove the row's statement (the work); the ties are given (YtenlhojfncnlfaaDoorTie.lean); close each card by the builder's one call (the guide's Derived/Test/ToyasCard.lean, 'card_holds'). Laid BY PROGRAM, IN A SANDBOX (cutbox-door.mjs). By AI agents, Wed Nov 11 2026. No macro, syntax, notation, axiom, sorry.
-/
import Derived.Test.YtenlhojfncnlfaaDoorRows
import GoSem.ClaimSeven
namespace Go.Proofs.YtenlhojfncnlfaaDoor
namespace Rows

/-- THE TIED CARD OF 'tetherlaw25.MeterOrders'. -/
def meterOrdersCard : Claim7 := { stood := { row := meterOrdersRow, standIns := [], harness := (true, "5acff43c4491c790ffbb12bc899c8abddb247e784c866da1a31cf37aa44d0475"), looks := true }, kinds := [], alts := [], laidByText := true, laidKinds := [.data, .data, .data, .data, .sentinel, .sentinel, .pinned, .pinned], laidTests := true, laidLooks := .later }
def MeterOrdersCardSaid : Prop := Claim7.holds Tryd.pinned (.plain (OpenSpec.ofChange meterOrdersSpec)) meterOrdersCard

/-- THE SECOND FORM's CARD OF 'tetherlaw25.MeterOrders'. -/
def meterOrdersUptoCard : Claim7 := { stood := { row := meterOrdersUptoRow, standIns := [], harness := (true, "5acff43c4491c790ffbb12bc899c8abddb247e784c866da1a31cf37aa44d0475"), looks := true }, kinds := [], alts := [], laidByText := true, laidKinds := [.data, .data, .data, .data, .sentinel, .sentinel, .pinned, .pinned], laidTests := true, laidLooks := .later }
def MeterOrdersUptoCardSaid : Prop := Claim7.holds Tryd.pinned (.plain (OpenSpec.upto meterOrdersSpec)) meterOrdersUptoCard
end Rows
end Go.Proofs.YtenlhojfncnlfaaDoor
