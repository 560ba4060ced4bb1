/-
  DERIVED. GIVEN WITH THE SEED: THE CARDS: each row of YtnadimjglkodkaaDoorRows.lean that lists a variable, with what it lists TIED to the program's text (the seventh form; the later family's looks); each row that meets fmt, with fmt's text TOLD by the authors' own Lean function (tested against real Go, not proved from fmt's source: count such statements apart). THE CARD IS WHAT COUNTS. Prove the row's statement (the work); the ties are given (YtnadimjglkodkaaDoorTie.lean); close each card by the builder's one call (the guide's Derived/Test/ToyasCard.lean, 'card_holds'). Laid BY PROGRAM, IN A SANDBOX (cutbox-door.mjs). By AI agents, Wed Nov 11 2026. No macro, syntax, notation, axiom, sorry.
-/
import Derived.Test.YtnadimjglkodkaaDoorRows
import GoSem.ClaimSeven
namespace Go.Proofs.YtnadimjglkodkaaDoor
namespace Rows

/-- THE TIED CARD OF 'tetherlaw16.PoolTexts'. -/
def poolTextsCard : Claim7 := { stood := { row := poolTextsRow, standIns := [], harness := (true, "fc4e27027ee8dfcf6ff73008480ee19661e2358b311c5329b0fde5f500d66760"), looks := true }, kinds := [], alts := [], laidByText := true, laidKinds := [.data, .data, .data, .data, .sentinel, .sentinel, .pinned], laidTests := true, laidLooks := .later }
def PoolTextsCardSaid : Prop := Claim7.holds Tryd.pinned (.plain (OpenSpec.ofChange poolTextsSpec)) poolTextsCard

/-- THE TIED CARD OF 'tetherlaw16.PoolEach'. -/
def poolEachCard : Claim7 := { stood := { row := poolEachRow, standIns := [], harness := (true, "fc4e27027ee8dfcf6ff73008480ee19661e2358b311c5329b0fde5f500d66760"), looks := true }, kinds := [], alts := [], laidByText := true, laidKinds := [.data, .data, .data, .data, .sentinel, .sentinel, .pinned], laidTests := true, laidLooks := .later }
def PoolEachCardSaid : Prop := Claim7.holds Tryd.pinned (.plain (OpenSpec.ofChange poolEachSpec)) poolEachCard

/-- THE TIED CARD OF 'tetherlaw16.PoolNil'. -/
def poolNilCard : Claim7 := { stood := { row := poolNilRow, standIns := [], harness := (true, "fc4e27027ee8dfcf6ff73008480ee19661e2358b311c5329b0fde5f500d66760"), looks := true }, kinds := [], alts := [], laidByText := true, laidKinds := [.data, .data, .data, .data, .sentinel, .sentinel, .pinned], laidTests := true, laidLooks := .later }
def PoolNilCardSaid : Prop := Claim7.holds Tryd.pinned (.plain (OpenSpec.ofChange poolNilSpec)) poolNilCard

/-- THE TIED CARD OF 'tetherlaw06.SecretRemarks'. -/
def secretRemarksCard : Claim7 := { stood := { row := secretRemarksRow, standIns := [], harness := (true, "fc4e27027ee8dfcf6ff73008480ee19661e2358b311c5329b0fde5f500d66760"), looks := true }, kinds := [], alts := [], laidByText := true, laidKinds := [.data, .data, .data, .data, .handle, .sentinel, .sentinel, .sentinel, .pinned], laidTests := true, laidLooks := .later }
def SecretRemarksCardSaid : Prop := Claim7.holds Tryd.pinned (.plain (OpenSpec.ofChange secretRemarksSpec)) secretRemarksCard

/-- THE SECOND FORM's CARD OF 'tetherlaw16.PoolTexts'. -/
def poolTextsUptoCard : Claim7 := { stood := { row := poolTextsUptoRow, standIns := [], harness := (true, "fc4e27027ee8dfcf6ff73008480ee19661e2358b311c5329b0fde5f500d66760"), looks := true }, kinds := [], alts := [], laidByText := true, laidKinds := [.data, .data, .data, .data, .sentinel, .sentinel, .pinned], laidTests := true, laidLooks := .later }
def PoolTextsUptoCardSaid : Prop := Claim7.holds Tryd.pinned (.plain (OpenSpec.upto poolTextsSpec)) poolTextsUptoCard

/-- THE SECOND FORM's CARD OF 'tetherlaw16.PoolEach'. -/
def poolEachUptoCard : Claim7 := { stood := { row := poolEachUptoRow, standIns := [], harness := (true, "fc4e27027ee8dfcf6ff73008480ee19661e2358b311c5329b0fde5f500d66760"), looks := true }, kinds := [], alts := [], laidByText := true, laidKinds := [.data, .data, .data, .data, .sentinel, .sentinel, .pinned], laidTests := true, laidLooks := .later }
def PoolEachUptoCardSaid : Prop := Claim7.holds Tryd.pinned (.plain (OpenSpec.upto poolEachSpec)) poolEachUptoCard

/-- THE SECOND FORM's CARD OF 'tetherlaw16.PoolNil'. -/
def poolNilUptoCard : Claim7 := { stood := { row := poolNilUptoRow, standIns := [], harness := (true, "fc4e27027ee8dfcf6ff73008480ee19661e2358b311c5329b0fde5f500d66760"), looks := true }, kinds := [], alts := [], laidByText := true, laidKinds := [.data, .data, .data, .data, .sentinel, .sentinel, .pinned], laidTests := true, laidLooks := .later }
def PoolNilUptoCardSaid : Prop := Claim7.holds Tryd.pinned (.plain (OpenSpec.upto poolNilSpec)) poolNilUptoCard

/-- THE SECOND FORM's CARD OF 'tetherlaw06.SecretRemarks'. -/
def secretRemarksUptoCard : Claim7 := { stood := { row := secretRemarksUptoRow, standIns := [], harness := (true, "fc4e27027ee8dfcf6ff73008480ee19661e2358b311c5329b0fde5f500d66760"), looks := true }, kinds := [], alts := [], laidByText := true, laidKinds := [.data, .data, .data, .data, .handle, .sentinel, .sentinel, .sentinel, .pinned], laidTests := true, laidLooks := .later }
def SecretRemarksUptoCardSaid : Prop := Claim7.holds Tryd.pinned (.plain (OpenSpec.upto secretRemarksSpec)) secretRemarksUptoCard
end Rows
end Go.Proofs.YtnadimjglkodkaaDoor
