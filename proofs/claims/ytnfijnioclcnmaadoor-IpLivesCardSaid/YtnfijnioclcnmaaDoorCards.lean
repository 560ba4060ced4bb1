/-
  DERIVED. GIVEN WITH THE SEED: THE CARDS: each row of YtnfijnioclcnmaaDoorRows.lean that lists a variable, with what it lists TIED to the program's text (the seventh form; the later family's looks); each row that meets fmt, with fmt's text TOLD by the authors' own Lean function (tested against real Go, not proved from fmt's source: count such statements apart). THE CARD IS WHAT COUNTS. Prove the row's statement (the work); the ties are given (YtnfijnioclcnmaaDoorTie.lean); close each card by the builder's one call (the guide's Derived/Test/ToyasCard.lean, 'card_holds'). Laid BY PROGRAM, IN A SANDBOX (cutbox-door.mjs). By AI agents, Wed Nov 11 2026. No macro, syntax, notation, axiom, sorry.
-/
import Derived.Test.YtnfijnioclcnmaaDoorRows
import GoSem.ClaimSeven
namespace Go.Proofs.YtnfijnioclcnmaaDoor
namespace Rows

/-- THE TIED CARD OF 'tetherlaw18.IpTurned'. -/
def ipTurnedCard : Claim7 := { stood := { row := ipTurnedRow, standIns := [], harness := (true, "9f5e40c4ab07e8b6637b783dab0b0024ec096ab1322a1f1a18ad9e91c74dded5"), looks := false }, kinds := [], alts := [], laidByText := true, laidKinds := [.data, .data, .data], laidTests := true, laidLooks := .later }
def IpTurnedCardSaid : Prop := Claim7.holds Tryd.pinned (.plain (OpenSpec.ofChange ipTurnedSpec)) ipTurnedCard

/-- THE TIED CARD OF 'tetherlaw18.IpSums'. -/
def ipSumsCard : Claim7 := { stood := { row := ipSumsRow, standIns := [], harness := (true, "9f5e40c4ab07e8b6637b783dab0b0024ec096ab1322a1f1a18ad9e91c74dded5"), looks := false }, kinds := [], alts := [], laidByText := true, laidKinds := [.data, .data, .data], laidTests := true, laidLooks := .later }
def IpSumsCardSaid : Prop := Claim7.holds Tryd.pinned (.plain (OpenSpec.ofChange ipSumsSpec)) ipSumsCard

/-- THE TIED CARD OF 'tetherlaw18.IpTrims'. -/
def ipTrimsCard : Claim7 := { stood := { row := ipTrimsRow, standIns := [], harness := (true, "9f5e40c4ab07e8b6637b783dab0b0024ec096ab1322a1f1a18ad9e91c74dded5"), looks := false }, kinds := [], alts := [], laidByText := true, laidKinds := [.data, .data, .data], laidTests := true, laidLooks := .later }
def IpTrimsCardSaid : Prop := Claim7.holds Tryd.pinned (.plain (OpenSpec.ofChange ipTrimsSpec)) ipTrimsCard

/-- THE TIED CARD OF 'tetherlaw18.IpLives'. -/
def ipLivesCard : Claim7 := { stood := { row := ipLivesRow, standIns := [], harness := (true, "9f5e40c4ab07e8b6637b783dab0b0024ec096ab1322a1f1a18ad9e91c74dded5"), looks := false }, kinds := [], alts := [], laidByText := true, laidKinds := [.data, .data, .data], laidTests := true, laidLooks := .later }
def IpLivesCardSaid : Prop := Claim7.holds Tryd.pinned (.plain (OpenSpec.ofChange ipLivesSpec)) ipLivesCard

/-- THE SECOND FORM's CARD OF 'tetherlaw18.IpTurned'. -/
def ipTurnedUptoCard : Claim7 := { stood := { row := ipTurnedUptoRow, standIns := [], harness := (true, "9f5e40c4ab07e8b6637b783dab0b0024ec096ab1322a1f1a18ad9e91c74dded5"), looks := false }, kinds := [], alts := [], laidByText := true, laidKinds := [.data, .data, .data], laidTests := true, laidLooks := .later }
def IpTurnedUptoCardSaid : Prop := Claim7.holds Tryd.pinned (.plain (OpenSpec.upto ipTurnedSpec)) ipTurnedUptoCard

/-- THE SECOND FORM's CARD OF 'tetherlaw18.IpSums'. -/
def ipSumsUptoCard : Claim7 := { stood := { row := ipSumsUptoRow, standIns := [], harness := (true, "9f5e40c4ab07e8b6637b783dab0b0024ec096ab1322a1f1a18ad9e91c74dded5"), looks := false }, kinds := [], alts := [], laidByText := true, laidKinds := [.data, .data, .data], laidTests := true, laidLooks := .later }
def IpSumsUptoCardSaid : Prop := Claim7.holds Tryd.pinned (.plain (OpenSpec.upto ipSumsSpec)) ipSumsUptoCard

/-- THE SECOND FORM's CARD OF 'tetherlaw18.IpTrims'. -/
def ipTrimsUptoCard : Claim7 := { stood := { row := ipTrimsUptoRow, standIns := [], harness := (true, "9f5e40c4ab07e8b6637b783dab0b0024ec096ab1322a1f1a18ad9e91c74dded5"), looks := false }, kinds := [], alts := [], laidByText := true, laidKinds := [.data, .data, .data], laidTests := true, laidLooks := .later }
def IpTrimsUptoCardSaid : Prop := Claim7.holds Tryd.pinned (.plain (OpenSpec.upto ipTrimsSpec)) ipTrimsUptoCard

/-- THE SECOND FORM's CARD OF 'tetherlaw18.IpLives'. -/
def ipLivesUptoCard : Claim7 := { stood := { row := ipLivesUptoRow, standIns := [], harness := (true, "9f5e40c4ab07e8b6637b783dab0b0024ec096ab1322a1f1a18ad9e91c74dded5"), looks := false }, kinds := [], alts := [], laidByText := true, laidKinds := [.data, .data, .data], laidTests := true, laidLooks := .later }
def IpLivesUptoCardSaid : Prop := Claim7.holds Tryd.pinned (.plain (OpenSpec.upto ipLivesSpec)) ipLivesUptoCard
end Rows
end Go.Proofs.YtnfijnioclcnmaaDoor
