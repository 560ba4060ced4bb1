/-
  DERIVED. GIVEN WITH THE SEED: THE CARDS: each row of YtalanklghmcajaaGreatDoorRows.lean that lists a variable, with what it lists TIED to the program's text (the seventh form; the later family's looks); each row that meets fmt, with fmt's text TOLD by the authors' own Lean function (tested against real Go, not proved from fmt's source: count such statements apart). THE CARD IS WHAT COUNTS. Prove the row's statement (the work); the ties are given (YtalanklghmcajaaGreatDoorTie.lean); close each card by the builder's one call (the guide's Derived/Test/ToyasCard.lean, 'card_holds'). Laid BY PROGRAM, IN A SANDBOX (cutbox-door.mjs). By AI agents, Wed Nov 11 2026. No macro, syntax, notation, axiom, sorry.
-/
import Derived.Test.YtalanklghmcajaaGreatDoorRows
import GoSem.ClaimSeven
namespace Go.Proofs.YtalanklghmcajaaGreatDoor
namespace Rows

/-- THE TIED CARD OF 'tetherlaw06.SecretAddrs'. -/
def secretAddrsCard : Claim7 := { stood := { row := secretAddrsRow, standIns := [], harness := (true, "09b2004b6a45fde026207a423bf6c2e67111ffb4a69ce2bf23224d451967ca43"), looks := true }, kinds := [], alts := [], laidByText := true, laidKinds := [.data, .data, .data, .data, .handle, .sentinel, .sentinel, .sentinel, .pinned], laidTests := true, laidLooks := .later }
def SecretAddrsCardSaid : Prop := Claim7.holds Tryz.pinned (.plain (OpenSpec.ofChange secretAddrsSpec)) secretAddrsCard

/-- THE TIED CARD OF 'tetherlaw06.SecretFinds'. -/
def secretFindsCard : Claim7 := { stood := { row := secretFindsRow, standIns := [], harness := (true, "09b2004b6a45fde026207a423bf6c2e67111ffb4a69ce2bf23224d451967ca43"), looks := true }, kinds := [], alts := [], laidByText := true, laidKinds := [.data, .data, .data, .data, .handle, .sentinel, .sentinel, .sentinel, .pinned], laidTests := true, laidLooks := .later }
def SecretFindsCardSaid : Prop := Claim7.holds Tryz.pinned (.plain (OpenSpec.ofChange secretFindsSpec)) secretFindsCard

/-- THE SECOND FORM's CARD OF 'tetherlaw06.SecretAddrs'. -/
def secretAddrsUptoCard : Claim7 := { stood := { row := secretAddrsUptoRow, standIns := [], harness := (true, "09b2004b6a45fde026207a423bf6c2e67111ffb4a69ce2bf23224d451967ca43"), looks := true }, kinds := [], alts := [], laidByText := true, laidKinds := [.data, .data, .data, .data, .handle, .sentinel, .sentinel, .sentinel, .pinned], laidTests := true, laidLooks := .later }
def SecretAddrsUptoCardSaid : Prop := Claim7.holds Tryz.pinned (.plain (OpenSpec.upto secretAddrsSpec)) secretAddrsUptoCard

/-- THE SECOND FORM's CARD OF 'tetherlaw06.SecretFinds'. -/
def secretFindsUptoCard : Claim7 := { stood := { row := secretFindsUptoRow, standIns := [], harness := (true, "09b2004b6a45fde026207a423bf6c2e67111ffb4a69ce2bf23224d451967ca43"), looks := true }, kinds := [], alts := [], laidByText := true, laidKinds := [.data, .data, .data, .data, .handle, .sentinel, .sentinel, .sentinel, .pinned], laidTests := true, laidLooks := .later }
def SecretFindsUptoCardSaid : Prop := Claim7.holds Tryz.pinned (.plain (OpenSpec.upto secretFindsSpec)) secretFindsUptoCard
end Rows
end Go.Proofs.YtalanklghmcajaaGreatDoor
