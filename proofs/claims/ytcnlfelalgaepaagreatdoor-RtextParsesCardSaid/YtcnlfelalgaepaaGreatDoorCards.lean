/-
  DERIVED. GIVEN WITH THE SEED: THE CARDS: each row of YtcnlfelalgaepaaGreatDoorRows.lean that lists a variable, with what it lists TIED to the program's text (the seventh form; the later family's looks); each row that meets fmt, with fmt's text TOLD by the authors' own Lean function (tested against real Go, not proved from fmt's source: count such statements apart). THE CARD IS WHAT COUNTS. Prove the row's statement (the work); the ties are given (YtcnlfelalgaepaaGreatDoorTie.lean); close each card by the builder's one call (the guide's Derived/Test/ToyasCard.lean, 'card_holds'). Laid BY PROGRAM, IN A SANDBOX (cutbox-door.mjs). By AI agents, Wed Nov 11 2026. No macro, syntax, notation, axiom, sorry.
-/
import Derived.Test.YtcnlfelalgaepaaGreatDoorRows
import GoSem.ClaimSeven
namespace Go.Proofs.YtcnlfelalgaepaaGreatDoor
namespace Rows

/-- THE TIED CARD OF 'ddilaw06.RtextWords'. -/
def rtextWordsCard : Claim7 := { stood := { row := rtextWordsRow, standIns := [], harness := (true, "ada92b910dd5b00a41b7a00fbcd0552056cf14db9d710932810f843fe3fdc08b"), looks := true }, kinds := [], alts := [], laidByText := true, laidKinds := [.data, .data, .data, .data, .sentinel, .sentinel, .pinned], laidTests := true, laidLooks := .later }
def RtextWordsCardSaid : Prop := Claim7.holds Tryz.pinned (.plain (OpenSpec.ofChange rtextWordsSpec)) rtextWordsCard

/-- THE TIED CARD OF 'ddilaw06.RtextParses'. -/
def rtextParsesCard : Claim7 := { stood := { row := rtextParsesRow, standIns := [], harness := (true, "ada92b910dd5b00a41b7a00fbcd0552056cf14db9d710932810f843fe3fdc08b"), looks := true }, kinds := [], alts := [], laidByText := true, laidKinds := [.data, .data, .data, .data, .sentinel, .sentinel, .pinned], laidTests := true, laidLooks := .later }
def RtextParsesCardSaid : Prop := Claim7.holds Tryz.pinned (.plain (OpenSpec.ofChange rtextParsesSpec)) rtextParsesCard

/-- THE TIED CARD OF 'ddilaw06.RtextBack'. -/
def rtextBackCard : Claim7 := { stood := { row := rtextBackRow, standIns := [], harness := (true, "ada92b910dd5b00a41b7a00fbcd0552056cf14db9d710932810f843fe3fdc08b"), looks := true }, kinds := [], alts := [], laidByText := true, laidKinds := [.data, .data, .data, .data, .sentinel, .sentinel, .pinned], laidTests := true, laidLooks := .later }
def RtextBackCardSaid : Prop := Claim7.holds Tryz.pinned (.plain (OpenSpec.ofChange rtextBackSpec)) rtextBackCard

/-- THE SECOND FORM's CARD OF 'ddilaw06.RtextWords'. -/
def rtextWordsUptoCard : Claim7 := { stood := { row := rtextWordsUptoRow, standIns := [], harness := (true, "ada92b910dd5b00a41b7a00fbcd0552056cf14db9d710932810f843fe3fdc08b"), looks := true }, kinds := [], alts := [], laidByText := true, laidKinds := [.data, .data, .data, .data, .sentinel, .sentinel, .pinned], laidTests := true, laidLooks := .later }
def RtextWordsUptoCardSaid : Prop := Claim7.holds Tryz.pinned (.plain (OpenSpec.upto rtextWordsSpec)) rtextWordsUptoCard

/-- THE SECOND FORM's CARD OF 'ddilaw06.RtextParses'. -/
def rtextParsesUptoCard : Claim7 := { stood := { row := rtextParsesUptoRow, standIns := [], harness := (true, "ada92b910dd5b00a41b7a00fbcd0552056cf14db9d710932810f843fe3fdc08b"), looks := true }, kinds := [], alts := [], laidByText := true, laidKinds := [.data, .data, .data, .data, .sentinel, .sentinel, .pinned], laidTests := true, laidLooks := .later }
def RtextParsesUptoCardSaid : Prop := Claim7.holds Tryz.pinned (.plain (OpenSpec.upto rtextParsesSpec)) rtextParsesUptoCard

/-- THE SECOND FORM's CARD OF 'ddilaw06.RtextBack'. -/
def rtextBackUptoCard : Claim7 := { stood := { row := rtextBackUptoRow, standIns := [], harness := (true, "ada92b910dd5b00a41b7a00fbcd0552056cf14db9d710932810f843fe3fdc08b"), looks := true }, kinds := [], alts := [], laidByText := true, laidKinds := [.data, .data, .data, .data, .sentinel, .sentinel, .pinned], laidTests := true, laidLooks := .later }
def RtextBackUptoCardSaid : Prop := Claim7.holds Tryz.pinned (.plain (OpenSpec.upto rtextBackSpec)) rtextBackUptoCard
end Rows
end Go.Proofs.YtcnlfelalgaepaaGreatDoor
