/-
  DERIVED. GIVEN WITH THE SEED: THE CARDS: each row of YtcmcbhanohcifaaDoorRows.lean that lists a variable, with what it lists TIED to the program's text (the seventh form; the later family's looks); each row that meets fmt, with fmt's text TOLD by the authors' own Lean function (tested against real Go, not proved from fmt's source: count such statements apart). THE CARD IS WHAT COUNTS. Prove the row's statement (the work); the ties are given (YtcmcbhanohcifaaDoorTie.lean); close each card by the builder's one call (the guide's Derived/Test/ToyasCard.lean, 'card_holds'). Laid BY PROGRAM, IN A SANDBOX (cutbox-door.mjs). By AI agents, Wed Nov 11 2026. No macro, syntax, notation, axiom, sorry.
-/
import Derived.Test.YtcmcbhanohcifaaDoorRows
import GoSem.ClaimSeven
namespace Go.Proofs.YtcmcbhanohcifaaDoor
namespace Rows

/-- THE TIED CARD OF 'tetherlaw25.MeterBounds'. -/
def meterBoundsCard : Claim7 := { stood := { row := meterBoundsRow, standIns := [], harness := (true, "490dd84ae1c0abc621d87b7f450128de3387f3c02d66258168c74a65f13cef78"), looks := true }, kinds := [], alts := [], laidByText := true, laidKinds := [.data, .data, .data, .data, .sentinel, .sentinel, .pinned, .pinned], laidTests := true, laidLooks := .later }
def MeterBoundsCardSaid : Prop := Claim7.holds Tryd.pinned (.plain (OpenSpec.ofChange meterBoundsSpec)) meterBoundsCard

/-- THE TIED CARD OF 'tetherlaw25.MeterNil'. -/
def meterNilCard : Claim7 := { stood := { row := meterNilRow, standIns := [], harness := (true, "490dd84ae1c0abc621d87b7f450128de3387f3c02d66258168c74a65f13cef78"), looks := true }, kinds := [], alts := [], laidByText := true, laidKinds := [.data, .data, .data, .data, .sentinel, .sentinel, .pinned, .pinned], laidTests := true, laidLooks := .later }
def MeterNilCardSaid : Prop := Claim7.holds Tryd.pinned (.plain (OpenSpec.ofChange meterNilSpec)) meterNilCard

/-- THE TIED CARD OF 'tetherlaw25.MeterOrders'. -/
def meterOrdersCard : Claim7 := { stood := { row := meterOrdersRow, standIns := [], harness := (true, "490dd84ae1c0abc621d87b7f450128de3387f3c02d66258168c74a65f13cef78"), looks := true }, kinds := [], alts := [], laidByText := true, laidKinds := [.data, .data, .data, .data, .sentinel, .sentinel, .pinned, .pinned], laidTests := true, laidLooks := .later }
def MeterOrdersCardSaid : Prop := Claim7.holds Tryd.pinned (.plain (OpenSpec.ofChange meterOrdersSpec)) meterOrdersCard

/-- THE SECOND FORM's CARD OF 'tetherlaw25.MeterBounds'. -/
def meterBoundsUptoCard : Claim7 := { stood := { row := meterBoundsUptoRow, standIns := [], harness := (true, "490dd84ae1c0abc621d87b7f450128de3387f3c02d66258168c74a65f13cef78"), looks := true }, kinds := [], alts := [], laidByText := true, laidKinds := [.data, .data, .data, .data, .sentinel, .sentinel, .pinned, .pinned], laidTests := true, laidLooks := .later }
def MeterBoundsUptoCardSaid : Prop := Claim7.holds Tryd.pinned (.plain (OpenSpec.upto meterBoundsSpec)) meterBoundsUptoCard

/-- THE SECOND FORM's CARD OF 'tetherlaw25.MeterNil'. -/
def meterNilUptoCard : Claim7 := { stood := { row := meterNilUptoRow, standIns := [], harness := (true, "490dd84ae1c0abc621d87b7f450128de3387f3c02d66258168c74a65f13cef78"), looks := true }, kinds := [], alts := [], laidByText := true, laidKinds := [.data, .data, .data, .data, .sentinel, .sentinel, .pinned, .pinned], laidTests := true, laidLooks := .later }
def MeterNilUptoCardSaid : Prop := Claim7.holds Tryd.pinned (.plain (OpenSpec.upto meterNilSpec)) meterNilUptoCard

/-- THE SECOND FORM's CARD OF 'tetherlaw25.MeterOrders'. -/
def meterOrdersUptoCard : Claim7 := { stood := { row := meterOrdersUptoRow, standIns := [], harness := (true, "490dd84ae1c0abc621d87b7f450128de3387f3c02d66258168c74a65f13cef78"), looks := true }, kinds := [], alts := [], laidByText := true, laidKinds := [.data, .data, .data, .data, .sentinel, .sentinel, .pinned, .pinned], laidTests := true, laidLooks := .later }
def MeterOrdersUptoCardSaid : Prop := Claim7.holds Tryd.pinned (.plain (OpenSpec.upto meterOrdersSpec)) meterOrdersUptoCard
end Rows
end Go.Proofs.YtcmcbhanohcifaaDoor
