/-
  DERIVED. GIVEN WITH THE SEED: THE CARDS: each row of YtkpfaedepmgflaaGreatDoorRows.lean that lists a variable, with what it lists TIED to the program's text (the seventh form; the later family's looks); each row that meets fmt, with fmt's text TOLD by the authors' own Lean function (tested against real Go, not proved from fmt's source: count such statements apart). THE CARD IS WHAT COUNTS. Prove the row's statement (the work); the ties are given (YtkpfaedepmgflaaGreatDoorTie.lean); close each card by the builder's one call (the guide's Derived/Test/ToyasCard.lean, 'card_holds'). Laid BY PROGRAM, IN A SANDBOX (cutbox-door.mjs). By AI agents, Wed Nov 11 2026. No macro, syntax, notation, axiom, sorry.
-/
import Derived.Test.YtkpfaedepmgflaaGreatDoorRows
import GoSem.ClaimSeven
namespace Go.Proofs.YtkpfaedepmgflaaGreatDoor
namespace Rows

/-- THE TIED CARD OF 'ddilaw06.RtextQuotes'. -/
def rtextQuotesCard : Claim7 := { stood := { row := rtextQuotesRow, standIns := [], harness := (true, "26adcb6aac047e3699600063fc18249f6d83d8223014cf5340f88ea056463e3d"), looks := true }, kinds := [], alts := [], laidByText := true, laidKinds := [.data, .data, .data, .data, .sentinel, .sentinel, .pinned], laidTests := true, laidLooks := .later }
def RtextQuotesCardSaid : Prop := Claim7.holds Tryz.pinned (.plain (OpenSpec.ofChange rtextQuotesSpec)) rtextQuotesCard

/-- THE TIED CARD OF 'ddilaw06.RtextNumbers'. -/
def rtextNumbersCard : Claim7 := { stood := { row := rtextNumbersRow, standIns := [], harness := (true, "26adcb6aac047e3699600063fc18249f6d83d8223014cf5340f88ea056463e3d"), looks := true }, kinds := [], alts := [], laidByText := true, laidKinds := [.data, .data, .data, .data, .sentinel, .sentinel, .pinned], laidTests := true, laidLooks := .later }
def RtextNumbersCardSaid : Prop := Claim7.holds Tryz.pinned (.plain (OpenSpec.ofChange rtextNumbersSpec)) rtextNumbersCard

/-- THE TIED CARD OF 'ddilaw06.RtextWords'. -/
def rtextWordsCard : Claim7 := { stood := { row := rtextWordsRow, standIns := [], harness := (true, "26adcb6aac047e3699600063fc18249f6d83d8223014cf5340f88ea056463e3d"), looks := true }, kinds := [], alts := [], laidByText := true, laidKinds := [.data, .data, .data, .data, .sentinel, .sentinel, .pinned], laidTests := true, laidLooks := .later }
def RtextWordsCardSaid : Prop := Claim7.holds Tryz.pinned (.plain (OpenSpec.ofChange rtextWordsSpec)) rtextWordsCard

/-- THE TIED CARD OF 'ddilaw06.RtextParses'. -/
def rtextParsesCard : Claim7 := { stood := { row := rtextParsesRow, standIns := [], harness := (true, "26adcb6aac047e3699600063fc18249f6d83d8223014cf5340f88ea056463e3d"), looks := true }, kinds := [], alts := [], laidByText := true, laidKinds := [.data, .data, .data, .data, .sentinel, .sentinel, .pinned], laidTests := true, laidLooks := .later }
def RtextParsesCardSaid : Prop := Claim7.holds Tryz.pinned (.plain (OpenSpec.ofChange rtextParsesSpec)) rtextParsesCard

/-- THE TIED CARD OF 'ddilaw06.RtextBack'. -/
def rtextBackCard : Claim7 := { stood := { row := rtextBackRow, standIns := [], harness := (true, "26adcb6aac047e3699600063fc18249f6d83d8223014cf5340f88ea056463e3d"), looks := true }, kinds := [], alts := [], laidByText := true, laidKinds := [.data, .data, .data, .data, .sentinel, .sentinel, .pinned], laidTests := true, laidLooks := .later }
def RtextBackCardSaid : Prop := Claim7.holds Tryz.pinned (.plain (OpenSpec.ofChange rtextBackSpec)) rtextBackCard

/-- THE TIED CARD OF 'ddilaw06.RtextSpans'. -/
def rtextSpansCard : Claim7 := { stood := { row := rtextSpansRow, standIns := [], harness := (true, "26adcb6aac047e3699600063fc18249f6d83d8223014cf5340f88ea056463e3d"), looks := true }, kinds := [], alts := [], laidByText := true, laidKinds := [.data, .data, .data, .data, .sentinel, .sentinel, .pinned], laidTests := true, laidLooks := .later }
def RtextSpansCardSaid : Prop := Claim7.holds Tryz.pinned (.plain (OpenSpec.ofChange rtextSpansSpec)) rtextSpansCard

/-- THE TIED CARD OF 'ddilaw06.RtextQuoted'. -/
def rtextQuotedCard : Claim7 := { stood := { row := rtextQuotedRow, standIns := [], harness := (true, "26adcb6aac047e3699600063fc18249f6d83d8223014cf5340f88ea056463e3d"), looks := true }, kinds := [], alts := [], laidByText := true, laidKinds := [.data, .data, .data, .data, .sentinel, .sentinel, .pinned], laidTests := true, laidLooks := .later }
def RtextQuotedCardSaid : Prop := Claim7.holds Tryz.pinned (.plain (OpenSpec.ofChange rtextQuotedSpec)) rtextQuotedCard

/-- THE TIED CARD OF 'ddilaw06.RtextUnits'. -/
def rtextUnitsCard : Claim7 := { stood := { row := rtextUnitsRow, standIns := [], harness := (true, "26adcb6aac047e3699600063fc18249f6d83d8223014cf5340f88ea056463e3d"), looks := true }, kinds := [], alts := [], laidByText := true, laidKinds := [.data, .data, .data, .data, .sentinel, .sentinel, .pinned], laidTests := true, laidLooks := .later }
def RtextUnitsCardSaid : Prop := Claim7.holds Tryz.pinned (.plain (OpenSpec.ofChange rtextUnitsSpec)) rtextUnitsCard

/-- THE SECOND FORM's CARD OF 'ddilaw06.RtextQuotes'. -/
def rtextQuotesUptoCard : Claim7 := { stood := { row := rtextQuotesUptoRow, standIns := [], harness := (true, "26adcb6aac047e3699600063fc18249f6d83d8223014cf5340f88ea056463e3d"), looks := true }, kinds := [], alts := [], laidByText := true, laidKinds := [.data, .data, .data, .data, .sentinel, .sentinel, .pinned], laidTests := true, laidLooks := .later }
def RtextQuotesUptoCardSaid : Prop := Claim7.holds Tryz.pinned (.plain (OpenSpec.upto rtextQuotesSpec)) rtextQuotesUptoCard

/-- THE SECOND FORM's CARD OF 'ddilaw06.RtextNumbers'. -/
def rtextNumbersUptoCard : Claim7 := { stood := { row := rtextNumbersUptoRow, standIns := [], harness := (true, "26adcb6aac047e3699600063fc18249f6d83d8223014cf5340f88ea056463e3d"), looks := true }, kinds := [], alts := [], laidByText := true, laidKinds := [.data, .data, .data, .data, .sentinel, .sentinel, .pinned], laidTests := true, laidLooks := .later }
def RtextNumbersUptoCardSaid : Prop := Claim7.holds Tryz.pinned (.plain (OpenSpec.upto rtextNumbersSpec)) rtextNumbersUptoCard

/-- THE SECOND FORM's CARD OF 'ddilaw06.RtextWords'. -/
def rtextWordsUptoCard : Claim7 := { stood := { row := rtextWordsUptoRow, standIns := [], harness := (true, "26adcb6aac047e3699600063fc18249f6d83d8223014cf5340f88ea056463e3d"), looks := true }, kinds := [], alts := [], laidByText := true, laidKinds := [.data, .data, .data, .data, .sentinel, .sentinel, .pinned], laidTests := true, laidLooks := .later }
def RtextWordsUptoCardSaid : Prop := Claim7.holds Tryz.pinned (.plain (OpenSpec.upto rtextWordsSpec)) rtextWordsUptoCard

/-- THE SECOND FORM's CARD OF 'ddilaw06.RtextParses'. -/
def rtextParsesUptoCard : Claim7 := { stood := { row := rtextParsesUptoRow, standIns := [], harness := (true, "26adcb6aac047e3699600063fc18249f6d83d8223014cf5340f88ea056463e3d"), looks := true }, kinds := [], alts := [], laidByText := true, laidKinds := [.data, .data, .data, .data, .sentinel, .sentinel, .pinned], laidTests := true, laidLooks := .later }
def RtextParsesUptoCardSaid : Prop := Claim7.holds Tryz.pinned (.plain (OpenSpec.upto rtextParsesSpec)) rtextParsesUptoCard

/-- THE SECOND FORM's CARD OF 'ddilaw06.RtextBack'. -/
def rtextBackUptoCard : Claim7 := { stood := { row := rtextBackUptoRow, standIns := [], harness := (true, "26adcb6aac047e3699600063fc18249f6d83d8223014cf5340f88ea056463e3d"), looks := true }, kinds := [], alts := [], laidByText := true, laidKinds := [.data, .data, .data, .data, .sentinel, .sentinel, .pinned], laidTests := true, laidLooks := .later }
def RtextBackUptoCardSaid : Prop := Claim7.holds Tryz.pinned (.plain (OpenSpec.upto rtextBackSpec)) rtextBackUptoCard

/-- THE SECOND FORM's CARD OF 'ddilaw06.RtextSpans'. -/
def rtextSpansUptoCard : Claim7 := { stood := { row := rtextSpansUptoRow, standIns := [], harness := (true, "26adcb6aac047e3699600063fc18249f6d83d8223014cf5340f88ea056463e3d"), looks := true }, kinds := [], alts := [], laidByText := true, laidKinds := [.data, .data, .data, .data, .sentinel, .sentinel, .pinned], laidTests := true, laidLooks := .later }
def RtextSpansUptoCardSaid : Prop := Claim7.holds Tryz.pinned (.plain (OpenSpec.upto rtextSpansSpec)) rtextSpansUptoCard

/-- THE SECOND FORM's CARD OF 'ddilaw06.RtextQuoted'. -/
def rtextQuotedUptoCard : Claim7 := { stood := { row := rtextQuotedUptoRow, standIns := [], harness := (true, "26adcb6aac047e3699600063fc18249f6d83d8223014cf5340f88ea056463e3d"), looks := true }, kinds := [], alts := [], laidByText := true, laidKinds := [.data, .data, .data, .data, .sentinel, .sentinel, .pinned], laidTests := true, laidLooks := .later }
def RtextQuotedUptoCardSaid : Prop := Claim7.holds Tryz.pinned (.plain (OpenSpec.upto rtextQuotedSpec)) rtextQuotedUptoCard

/-- THE SECOND FORM's CARD OF 'ddilaw06.RtextUnits'. -/
def rtextUnitsUptoCard : Claim7 := { stood := { row := rtextUnitsUptoRow, standIns := [], harness := (true, "26adcb6aac047e3699600063fc18249f6d83d8223014cf5340f88ea056463e3d"), looks := true }, kinds := [], alts := [], laidByText := true, laidKinds := [.data, .data, .data, .data, .sentinel, .sentinel, .pinned], laidTests := true, laidLooks := .later }
def RtextUnitsUptoCardSaid : Prop := Claim7.holds Tryz.pinned (.plain (OpenSpec.upto rtextUnitsSpec)) rtextUnitsUptoCard
end Rows
end Go.Proofs.YtkpfaedepmgflaaGreatDoor
