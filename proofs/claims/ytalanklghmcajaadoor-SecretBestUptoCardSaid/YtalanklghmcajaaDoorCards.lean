/-
  DERIVED. GIVEN WITH THE SEED: THE CARDS: each row of YtalanklghmcajaaDoorRows.lean that lists a variable, with what it lists TIED to the program's text (the seventh form; the later family's looks); each row that meets fmt, with fmt's text TOLD by the authors' own Lean function (tested against real Go, not proved from fmt's source: count such statements apart). THE CARD IS WHAT COUNTS. Prove the row's statement (the work); the ties are given (YtalanklghmcajaaDoorTie.lean); close each card by the builder's one call (the guide's Derived/Test/ToyasCard.lean, 'card_holds'). Laid BY PROGRAM, IN A SANDBOX (cutbox-door.mjs). By AI agents, Wed Nov 11 2026. No macro, syntax, notation, axiom, sorry.
-/
import Derived.Test.YtalanklghmcajaaDoorRows
import GoSem.ClaimSeven
namespace Go.Proofs.YtalanklghmcajaaDoor
namespace Rows

/-- THE TIED CARD OF 'tetherlaw06.SecretBest'. -/
def secretBestCard : Claim7 := { stood := { row := secretBestRow, standIns := [], harness := (true, "e0bc15ac8917da59af5bb47747b02a366f521dd8e0de7f8971f1dbd82b67efec"), looks := true }, kinds := [], alts := [], laidByText := true, laidKinds := [.data, .data, .data, .data, .handle, .sentinel, .sentinel, .sentinel, .pinned], laidTests := true, laidLooks := .later }
def SecretBestCardSaid : Prop := Claim7.holds Tryd.pinned (.plain (OpenSpec.ofChange secretBestSpec)) secretBestCard

/-- THE SECOND FORM's CARD OF 'tetherlaw06.SecretBest'. -/
def secretBestUptoCard : Claim7 := { stood := { row := secretBestUptoRow, standIns := [], harness := (true, "e0bc15ac8917da59af5bb47747b02a366f521dd8e0de7f8971f1dbd82b67efec"), looks := true }, kinds := [], alts := [], laidByText := true, laidKinds := [.data, .data, .data, .data, .handle, .sentinel, .sentinel, .sentinel, .pinned], laidTests := true, laidLooks := .later }
def SecretBestUptoCardSaid : Prop := Claim7.holds Tryd.pinned (.plain (OpenSpec.upto secretBestSpec)) secretBestUptoCard
end Rows
end Go.Proofs.YtalanklghmcajaaDoor
