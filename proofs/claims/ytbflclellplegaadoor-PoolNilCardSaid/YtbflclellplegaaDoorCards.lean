/-
  DERIVED. GIVEN WITH THE SEED: THE CARDS: each row of YtbflclellplegaaDoorRows.lean that lists a variable, with what it lists TIED to the program's text (the seventh form; the later family's looks); each row that meets fmt, with fmt's text TOLD by the authors' own Lean function (tested against real Go, not proved from fmt's source: count such statements apart). THE CARD IS WHAT COUNTS. Prove the row's statement (the work); the ties are given (YtbflclellplegaaDoorTie.lean); close each card by the builder's one call (the guide's Derived/Test/ToyasCard.lean, 'card_holds'). Laid BY PROGRAM, IN A SANDBOX (cutbox-door.mjs). By AI agents, Wed Nov 11 2026. No macro, syntax, notation, axiom, sorry.
-/
import Derived.Test.YtbflclellplegaaDoorRows
import GoSem.ClaimSeven
namespace Go.Proofs.YtbflclellplegaaDoor
namespace Rows

/-- THE TIED CARD OF 'tetherlaw16.PoolTexts'. -/
def poolTextsCard : Claim7 := { stood := { row := poolTextsRow, standIns := [], harness := (true, "561109e51cf4e8b9b1ba9cbb400bd33bf62b56cac184e4f9dce91c8314cc0719"), looks := true }, kinds := [], alts := [], laidByText := true, laidKinds := [.data, .data, .data, .data, .sentinel, .sentinel, .pinned], laidTests := true, laidLooks := .later }
def PoolTextsCardSaid : Prop := Claim7.holds Tryd.pinned (.plain (OpenSpec.ofChange poolTextsSpec)) poolTextsCard

/-- THE TIED CARD OF 'tetherlaw16.PoolEach'. -/
def poolEachCard : Claim7 := { stood := { row := poolEachRow, standIns := [], harness := (true, "561109e51cf4e8b9b1ba9cbb400bd33bf62b56cac184e4f9dce91c8314cc0719"), looks := true }, kinds := [], alts := [], laidByText := true, laidKinds := [.data, .data, .data, .data, .sentinel, .sentinel, .pinned], laidTests := true, laidLooks := .later }
def PoolEachCardSaid : Prop := Claim7.holds Tryd.pinned (.plain (OpenSpec.ofChange poolEachSpec)) poolEachCard

/-- THE TIED CARD OF 'tetherlaw16.PoolNil'. -/
def poolNilCard : Claim7 := { stood := { row := poolNilRow, standIns := [], harness := (true, "561109e51cf4e8b9b1ba9cbb400bd33bf62b56cac184e4f9dce91c8314cc0719"), looks := true }, kinds := [], alts := [], laidByText := true, laidKinds := [.data, .data, .data, .data, .sentinel, .sentinel, .pinned], laidTests := true, laidLooks := .later }
def PoolNilCardSaid : Prop := Claim7.holds Tryd.pinned (.plain (OpenSpec.ofChange poolNilSpec)) poolNilCard

/-- THE SECOND FORM's CARD OF 'tetherlaw16.PoolTexts'. -/
def poolTextsUptoCard : Claim7 := { stood := { row := poolTextsUptoRow, standIns := [], harness := (true, "561109e51cf4e8b9b1ba9cbb400bd33bf62b56cac184e4f9dce91c8314cc0719"), looks := true }, kinds := [], alts := [], laidByText := true, laidKinds := [.data, .data, .data, .data, .sentinel, .sentinel, .pinned], laidTests := true, laidLooks := .later }
def PoolTextsUptoCardSaid : Prop := Claim7.holds Tryd.pinned (.plain (OpenSpec.upto poolTextsSpec)) poolTextsUptoCard

/-- THE SECOND FORM's CARD OF 'tetherlaw16.PoolEach'. -/
def poolEachUptoCard : Claim7 := { stood := { row := poolEachUptoRow, standIns := [], harness := (true, "561109e51cf4e8b9b1ba9cbb400bd33bf62b56cac184e4f9dce91c8314cc0719"), looks := true }, kinds := [], alts := [], laidByText := true, laidKinds := [.data, .data, .data, .data, .sentinel, .sentinel, .pinned], laidTests := true, laidLooks := .later }
def PoolEachUptoCardSaid : Prop := Claim7.holds Tryd.pinned (.plain (OpenSpec.upto poolEachSpec)) poolEachUptoCard

/-- THE SECOND FORM's CARD OF 'tetherlaw16.PoolNil'. -/
def poolNilUptoCard : Claim7 := { stood := { row := poolNilUptoRow, standIns := [], harness := (true, "561109e51cf4e8b9b1ba9cbb400bd33bf62b56cac184e4f9dce91c8314cc0719"), looks := true }, kinds := [], alts := [], laidByText := true, laidKinds := [.data, .data, .data, .data, .sentinel, .sentinel, .pinned], laidTests := true, laidLooks := .later }
def PoolNilUptoCardSaid : Prop := Claim7.holds Tryd.pinned (.plain (OpenSpec.upto poolNilSpec)) poolNilUptoCard
end Rows
end Go.Proofs.YtbflclellplegaaDoor
