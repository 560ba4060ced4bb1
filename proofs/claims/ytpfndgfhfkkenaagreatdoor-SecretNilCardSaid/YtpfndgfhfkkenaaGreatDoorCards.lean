/-
  DERIVED. GIVEN WITH THE SEED: THE CARDS: each row of YtpfndgfhfkkenaaGreatDoorRows.lean that lists a variable, with what it lists TIED to the program's text (the seventh form; the later family's looks); each row that meets fmt, with fmt's text TOLD by the authors' own Lean function (tested against real Go, not proved from fmt's source: count such statements apart). THE CARD IS WHAT COUNTS. Prove the row's statement (the work); the ties are given (YtpfndgfhfkkenaaGreatDoorTie.lean); close each card by the builder's one call (the guide's Derived/Test/ToyasCard.lean, 'card_holds'). Laid BY PROGRAM, IN A SANDBOX (cutbox-door.mjs). By AI agents, Wed Nov 11 2026. No macro, syntax, notation, axiom, sorry.
-/
import Derived.Test.YtpfndgfhfkkenaaGreatDoorRows
import GoSem.ClaimSeven
namespace Go.Proofs.YtpfndgfhfkkenaaGreatDoor
namespace Rows

/-- THE TIED CARD OF 'tetherlaw06.SecretNil'. -/
def secretNilCard : Claim7 := { stood := { row := secretNilRow, standIns := [], harness := (true, "b230ba95f039487cd26495417b2566b204e5c885b44026717d339544a7b2a1a6"), looks := true }, kinds := [], alts := [], laidByText := true, laidKinds := [.data, .data, .data, .data, .handle, .sentinel, .sentinel, .sentinel, .pinned], laidTests := true, laidLooks := .later }
def SecretNilCardSaid : Prop := Claim7.holds Tryz.pinned (.plain (OpenSpec.ofChange secretNilSpec)) secretNilCard

/-- THE TIED CARD OF 'tetherlaw06.SecretAddrs'. -/
def secretAddrsCard : Claim7 := { stood := { row := secretAddrsRow, standIns := [], harness := (true, "b230ba95f039487cd26495417b2566b204e5c885b44026717d339544a7b2a1a6"), looks := true }, kinds := [], alts := [], laidByText := true, laidKinds := [.data, .data, .data, .data, .handle, .sentinel, .sentinel, .sentinel, .pinned], laidTests := true, laidLooks := .later }
def SecretAddrsCardSaid : Prop := Claim7.holds Tryz.pinned (.plain (OpenSpec.ofChange secretAddrsSpec)) secretAddrsCard

/-- THE SECOND FORM's CARD OF 'tetherlaw06.SecretNil'. -/
def secretNilUptoCard : Claim7 := { stood := { row := secretNilUptoRow, standIns := [], harness := (true, "b230ba95f039487cd26495417b2566b204e5c885b44026717d339544a7b2a1a6"), looks := true }, kinds := [], alts := [], laidByText := true, laidKinds := [.data, .data, .data, .data, .handle, .sentinel, .sentinel, .sentinel, .pinned], laidTests := true, laidLooks := .later }
def SecretNilUptoCardSaid : Prop := Claim7.holds Tryz.pinned (.plain (OpenSpec.upto secretNilSpec)) secretNilUptoCard

/-- THE SECOND FORM's CARD OF 'tetherlaw06.SecretAddrs'. -/
def secretAddrsUptoCard : Claim7 := { stood := { row := secretAddrsUptoRow, standIns := [], harness := (true, "b230ba95f039487cd26495417b2566b204e5c885b44026717d339544a7b2a1a6"), looks := true }, kinds := [], alts := [], laidByText := true, laidKinds := [.data, .data, .data, .data, .handle, .sentinel, .sentinel, .sentinel, .pinned], laidTests := true, laidLooks := .later }
def SecretAddrsUptoCardSaid : Prop := Claim7.holds Tryz.pinned (.plain (OpenSpec.upto secretAddrsSpec)) secretAddrsUptoCard
end Rows
end Go.Proofs.YtpfndgfhfkkenaaGreatDoor
