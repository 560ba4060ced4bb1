/-
  DERIVED. GIVEN WITH THE SEED: THE CARDS: each row of YtnadimjglkodkaaGreatDoorRows.lean that lists a variable, with what it lists TIED to the program's text (the seventh form; the later family's looks); each row that meets fmt, with fmt's text TOLD by the authors' own Lean function (tested against real Go, not proved from fmt's source: count such statements apart). THE CARD IS WHAT COUNTS. Prove the row's statement (the work); the ties are given (YtnadimjglkodkaaGreatDoorTie.lean); close each card by the builder's one call (the guide's Derived/Test/ToyasCard.lean, 'card_holds'). Laid BY PROGRAM, IN A SANDBOX (cutbox-door.mjs). By AI agents, Wed Nov 11 2026. No macro, syntax, notation, axiom, sorry.
-/
import Derived.Test.YtnadimjglkodkaaGreatDoorRows
import GoSem.ClaimSeven
namespace Go.Proofs.YtnadimjglkodkaaGreatDoor
namespace Rows

/-- THE TIED CARD OF 'tetherlaw16.PoolSticky'. -/
def poolStickyCard : Claim7 := { stood := { row := poolStickyRow, standIns := [], harness := (true, "05417026803ad52f13540090a6213592fdb4524ca6d3bdfbbf65e098f88f56a3"), looks := true }, kinds := [], alts := [], laidByText := true, laidKinds := [.data, .data, .data, .data, .sentinel, .sentinel, .pinned], laidTests := true, laidLooks := .later }
def PoolStickyCardSaid : Prop := Claim7.holds Tryz.pinned (.plain (OpenSpec.ofChange poolStickySpec)) poolStickyCard

/-- THE TIED CARD OF 'tetherlaw16.PoolPlays'. -/
def poolPlaysCard : Claim7 := { stood := { row := poolPlaysRow, standIns := [], harness := (true, "05417026803ad52f13540090a6213592fdb4524ca6d3bdfbbf65e098f88f56a3"), looks := true }, kinds := [], alts := [], laidByText := true, laidKinds := [.data, .data, .data, .data, .sentinel, .sentinel, .pinned], laidTests := true, laidLooks := .later }
def PoolPlaysCardSaid : Prop := Claim7.holds Tryz.pinned (.plain (OpenSpec.ofChange poolPlaysSpec)) poolPlaysCard

/-- THE TIED CARD OF 'tetherlaw06.SecretReads'. -/
def secretReadsCard : Claim7 := { stood := { row := secretReadsRow, standIns := [], harness := (true, "05417026803ad52f13540090a6213592fdb4524ca6d3bdfbbf65e098f88f56a3"), looks := true }, kinds := [], alts := [], laidByText := true, laidKinds := [.data, .data, .data, .data, .handle, .sentinel, .sentinel, .sentinel, .pinned], laidTests := true, laidLooks := .later }
def SecretReadsCardSaid : Prop := Claim7.holds Tryz.pinned (.plain (OpenSpec.ofChange secretReadsSpec)) secretReadsCard

/-- THE TIED CARD OF 'tetherlaw06.SecretWrites'. -/
def secretWritesCard : Claim7 := { stood := { row := secretWritesRow, standIns := [], harness := (true, "05417026803ad52f13540090a6213592fdb4524ca6d3bdfbbf65e098f88f56a3"), looks := true }, kinds := [], alts := [], laidByText := true, laidKinds := [.data, .data, .data, .data, .handle, .sentinel, .sentinel, .sentinel, .pinned], laidTests := true, laidLooks := .later }
def SecretWritesCardSaid : Prop := Claim7.holds Tryz.pinned (.plain (OpenSpec.ofChange secretWritesSpec)) secretWritesCard

/-- THE SECOND FORM's CARD OF 'tetherlaw16.PoolSticky'. -/
def poolStickyUptoCard : Claim7 := { stood := { row := poolStickyUptoRow, standIns := [], harness := (true, "05417026803ad52f13540090a6213592fdb4524ca6d3bdfbbf65e098f88f56a3"), looks := true }, kinds := [], alts := [], laidByText := true, laidKinds := [.data, .data, .data, .data, .sentinel, .sentinel, .pinned], laidTests := true, laidLooks := .later }
def PoolStickyUptoCardSaid : Prop := Claim7.holds Tryz.pinned (.plain (OpenSpec.upto poolStickySpec)) poolStickyUptoCard

/-- THE SECOND FORM's CARD OF 'tetherlaw16.PoolPlays'. -/
def poolPlaysUptoCard : Claim7 := { stood := { row := poolPlaysUptoRow, standIns := [], harness := (true, "05417026803ad52f13540090a6213592fdb4524ca6d3bdfbbf65e098f88f56a3"), looks := true }, kinds := [], alts := [], laidByText := true, laidKinds := [.data, .data, .data, .data, .sentinel, .sentinel, .pinned], laidTests := true, laidLooks := .later }
def PoolPlaysUptoCardSaid : Prop := Claim7.holds Tryz.pinned (.plain (OpenSpec.upto poolPlaysSpec)) poolPlaysUptoCard

/-- THE SECOND FORM's CARD OF 'tetherlaw06.SecretReads'. -/
def secretReadsUptoCard : Claim7 := { stood := { row := secretReadsUptoRow, standIns := [], harness := (true, "05417026803ad52f13540090a6213592fdb4524ca6d3bdfbbf65e098f88f56a3"), looks := true }, kinds := [], alts := [], laidByText := true, laidKinds := [.data, .data, .data, .data, .handle, .sentinel, .sentinel, .sentinel, .pinned], laidTests := true, laidLooks := .later }
def SecretReadsUptoCardSaid : Prop := Claim7.holds Tryz.pinned (.plain (OpenSpec.upto secretReadsSpec)) secretReadsUptoCard

/-- THE SECOND FORM's CARD OF 'tetherlaw06.SecretWrites'. -/
def secretWritesUptoCard : Claim7 := { stood := { row := secretWritesUptoRow, standIns := [], harness := (true, "05417026803ad52f13540090a6213592fdb4524ca6d3bdfbbf65e098f88f56a3"), looks := true }, kinds := [], alts := [], laidByText := true, laidKinds := [.data, .data, .data, .data, .handle, .sentinel, .sentinel, .sentinel, .pinned], laidTests := true, laidLooks := .later }
def SecretWritesUptoCardSaid : Prop := Claim7.holds Tryz.pinned (.plain (OpenSpec.upto secretWritesSpec)) secretWritesUptoCard
end Rows
end Go.Proofs.YtnadimjglkodkaaGreatDoor
