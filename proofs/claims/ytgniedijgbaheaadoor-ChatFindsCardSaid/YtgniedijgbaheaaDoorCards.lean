/-
  DERIVED. GIVEN WITH THE SEED: THE CARDS: each row of YtgniedijgbaheaaDoorRows.lean that lists a variable, with what it lists TIED to the program's text (the seventh form; the later family's looks); each row that meets fmt, with fmt's text TOLD by the authors' own Lean function (tested against real Go, not proved from fmt's source: count such statements apart). THE CARD IS WHAT COUNTS. Prove the row's statement (the work); the ties are given (YtgniedijgbaheaaDoorTie.lean); close each card by the builder's one call (the guide's Derived/Test/ToyasCard.lean, 'card_holds'). Laid BY PROGRAM, IN A SANDBOX (cutbox-door.mjs). By AI agents, Wed Nov 11 2026. No macro, syntax, notation, axiom, sorry.
-/
import Derived.Test.YtgniedijgbaheaaDoorRows
import GoSem.ClaimSeven
namespace Go.Proofs.YtgniedijgbaheaaDoor
namespace Rows

/-- THE TIED CARD OF 'tetherlaw07.ChatFinds'. -/
def chatFindsCard : Claim7 := { stood := { row := chatFindsRow, standIns := [], harness := (true, "3def9ccecb265729eafe7d9fb0f6f7bdc7d8cb0f58ac364cfac824ce48fcb4ec"), looks := true }, kinds := [], alts := [], laidByText := true, laidKinds := [.data, .data, .data, .sentinel, .sentinel], laidTests := true, laidLooks := .later }
def ChatFindsCardSaid : Prop := Claim7.holds Tryd.pinned (.plain (OpenSpec.ofChange chatFindsSpec)) chatFindsCard

/-- THE TIED CARD OF 'tetherlaw07.ChatPieces'. -/
def chatPiecesCard : Claim7 := { stood := { row := chatPiecesRow, standIns := [], harness := (true, "3def9ccecb265729eafe7d9fb0f6f7bdc7d8cb0f58ac364cfac824ce48fcb4ec"), looks := true }, kinds := [], alts := [], laidByText := true, laidKinds := [.data, .data, .data, .sentinel, .sentinel], laidTests := true, laidLooks := .later }
def ChatPiecesCardSaid : Prop := Claim7.holds Tryd.pinned (.plain (OpenSpec.ofChange chatPiecesSpec)) chatPiecesCard

/-- THE TIED CARD OF 'tetherlaw07.ChatNil'. -/
def chatNilCard : Claim7 := { stood := { row := chatNilRow, standIns := [], harness := (true, "3def9ccecb265729eafe7d9fb0f6f7bdc7d8cb0f58ac364cfac824ce48fcb4ec"), looks := true }, kinds := [], alts := [], laidByText := true, laidKinds := [.data, .data, .data, .sentinel, .sentinel], laidTests := true, laidLooks := .later }
def ChatNilCardSaid : Prop := Claim7.holds Tryd.pinned (.plain (OpenSpec.ofChange chatNilSpec)) chatNilCard

/-- THE TIED CARD OF 'tetherlaw07.ChatBack'. -/
def chatBackCard : Claim7 := { stood := { row := chatBackRow, standIns := [], harness := (true, "3def9ccecb265729eafe7d9fb0f6f7bdc7d8cb0f58ac364cfac824ce48fcb4ec"), looks := true }, kinds := [], alts := [], laidByText := true, laidKinds := [.data, .data, .data, .sentinel, .sentinel], laidTests := true, laidLooks := .later }
def ChatBackCardSaid : Prop := Claim7.holds Tryd.pinned (.plain (OpenSpec.ofChange chatBackSpec)) chatBackCard

/-- THE SECOND FORM's CARD OF 'tetherlaw07.ChatFinds'. -/
def chatFindsUptoCard : Claim7 := { stood := { row := chatFindsUptoRow, standIns := [], harness := (true, "3def9ccecb265729eafe7d9fb0f6f7bdc7d8cb0f58ac364cfac824ce48fcb4ec"), looks := true }, kinds := [], alts := [], laidByText := true, laidKinds := [.data, .data, .data, .sentinel, .sentinel], laidTests := true, laidLooks := .later }
def ChatFindsUptoCardSaid : Prop := Claim7.holds Tryd.pinned (.plain (OpenSpec.upto chatFindsSpec)) chatFindsUptoCard

/-- THE SECOND FORM's CARD OF 'tetherlaw07.ChatPieces'. -/
def chatPiecesUptoCard : Claim7 := { stood := { row := chatPiecesUptoRow, standIns := [], harness := (true, "3def9ccecb265729eafe7d9fb0f6f7bdc7d8cb0f58ac364cfac824ce48fcb4ec"), looks := true }, kinds := [], alts := [], laidByText := true, laidKinds := [.data, .data, .data, .sentinel, .sentinel], laidTests := true, laidLooks := .later }
def ChatPiecesUptoCardSaid : Prop := Claim7.holds Tryd.pinned (.plain (OpenSpec.upto chatPiecesSpec)) chatPiecesUptoCard

/-- THE SECOND FORM's CARD OF 'tetherlaw07.ChatNil'. -/
def chatNilUptoCard : Claim7 := { stood := { row := chatNilUptoRow, standIns := [], harness := (true, "3def9ccecb265729eafe7d9fb0f6f7bdc7d8cb0f58ac364cfac824ce48fcb4ec"), looks := true }, kinds := [], alts := [], laidByText := true, laidKinds := [.data, .data, .data, .sentinel, .sentinel], laidTests := true, laidLooks := .later }
def ChatNilUptoCardSaid : Prop := Claim7.holds Tryd.pinned (.plain (OpenSpec.upto chatNilSpec)) chatNilUptoCard

/-- THE SECOND FORM's CARD OF 'tetherlaw07.ChatBack'. -/
def chatBackUptoCard : Claim7 := { stood := { row := chatBackUptoRow, standIns := [], harness := (true, "3def9ccecb265729eafe7d9fb0f6f7bdc7d8cb0f58ac364cfac824ce48fcb4ec"), looks := true }, kinds := [], alts := [], laidByText := true, laidKinds := [.data, .data, .data, .sentinel, .sentinel], laidTests := true, laidLooks := .later }
def ChatBackUptoCardSaid : Prop := Claim7.holds Tryd.pinned (.plain (OpenSpec.upto chatBackSpec)) chatBackUptoCard
end Rows
end Go.Proofs.YtgniedijgbaheaaDoor
