/-
  DERIVED. GIVEN WITH THE SEED: THE CARDS: each row of YthnmdocmomkekaaGreatDoorRows.lean that lists a variable, with what it lists TIED to the program's text (the seventh form; the later family's looks); each row that meets fmt, with fmt's text TOLD by the authors' own Lean function (tested against real Go, not proved from fmt's source: count such statements apart). THE CARD IS WHAT COUNTS. Prove the row's statement (the work); the ties are given (YthnmdocmomkekaaGreatDoorTie.lean); close each card by the builder's one call (the guide's Derived/Test/ToyasCard.lean, 'card_holds'). Laid BY PROGRAM, IN A SANDBOX (cutbox-door.mjs). By AI agents, Wed Nov 11 2026. No macro, syntax, notation, axiom, sorry.
-/
import Derived.Test.YthnmdocmomkekaaGreatDoorRows
import GoSem.ClaimSeven
namespace Go.Proofs.YthnmdocmomkekaaGreatDoor
namespace Rows

/-- THE TIED CARD OF 'ddilaw09.MasterScans'. -/
def masterScansCard : Claim7 := { stood := { row := masterScansRow, standIns := [], harness := (true, "b62fc1f6b28d78a3ddeb2b05fbb9475eaf5a671c7f2466e55475cf4098240cef"), looks := true }, kinds := [], alts := [], laidByText := true, laidKinds := [.data, .data, .data, .data, .sentinel, .sentinel, .pinned], laidTests := true, laidLooks := .later }
def MasterScansCardSaid : Prop := Claim7.holds Tryz.pinned (.plain (OpenSpec.ofChange masterScansSpec)) masterScansCard

/-- THE TIED CARD OF 'ddilaw09.MasterParses'. -/
def masterParsesCard : Claim7 := { stood := { row := masterParsesRow, standIns := [], harness := (true, "b62fc1f6b28d78a3ddeb2b05fbb9475eaf5a671c7f2466e55475cf4098240cef"), looks := true }, kinds := [], alts := [], laidByText := true, laidKinds := [.data, .data, .data, .data, .sentinel, .sentinel, .pinned], laidTests := true, laidLooks := .later }
def MasterParsesCardSaid : Prop := Claim7.holds Tryz.pinned (.plain (OpenSpec.ofChange masterParsesSpec)) masterParsesCard

/-- THE TIED CARD OF 'ddilaw09.MasterPrints'. -/
def masterPrintsCard : Claim7 := { stood := { row := masterPrintsRow, standIns := [], harness := (true, "b62fc1f6b28d78a3ddeb2b05fbb9475eaf5a671c7f2466e55475cf4098240cef"), looks := true }, kinds := [], alts := [], laidByText := true, laidKinds := [.data, .data, .data, .data, .sentinel, .sentinel, .pinned], laidTests := true, laidLooks := .later }
def MasterPrintsCardSaid : Prop := Claim7.holds Tryz.pinned (.plain (OpenSpec.ofChange masterPrintsSpec)) masterPrintsCard

/-- THE TIED CARD OF 'ddilaw09.MasterBack'. -/
def masterBackCard : Claim7 := { stood := { row := masterBackRow, standIns := [], harness := (true, "b62fc1f6b28d78a3ddeb2b05fbb9475eaf5a671c7f2466e55475cf4098240cef"), looks := true }, kinds := [], alts := [], laidByText := true, laidKinds := [.data, .data, .data, .data, .sentinel, .sentinel, .pinned], laidTests := true, laidLooks := .later }
def MasterBackCardSaid : Prop := Claim7.holds Tryz.pinned (.plain (OpenSpec.ofChange masterBackSpec)) masterBackCard

/-- THE TIED CARD OF 'ddilaw09.MasterLines'. -/
def masterLinesCard : Claim7 := { stood := { row := masterLinesRow, standIns := [], harness := (true, "b62fc1f6b28d78a3ddeb2b05fbb9475eaf5a671c7f2466e55475cf4098240cef"), looks := true }, kinds := [], alts := [], laidByText := true, laidKinds := [.data, .data, .data, .data, .sentinel, .sentinel, .pinned], laidTests := true, laidLooks := .later }
def MasterLinesCardSaid : Prop := Claim7.holds Tryz.pinned (.plain (OpenSpec.ofChange masterLinesSpec)) masterLinesCard

/-- THE TIED CARD OF 'ddilaw09.MasterJoined'. -/
def masterJoinedCard : Claim7 := { stood := { row := masterJoinedRow, standIns := [], harness := (true, "b62fc1f6b28d78a3ddeb2b05fbb9475eaf5a671c7f2466e55475cf4098240cef"), looks := true }, kinds := [], alts := [], laidByText := true, laidKinds := [.data, .data, .data, .data, .sentinel, .sentinel, .pinned], laidTests := true, laidLooks := .later }
def MasterJoinedCardSaid : Prop := Claim7.holds Tryz.pinned (.plain (OpenSpec.ofChange masterJoinedSpec)) masterJoinedCard

/-- THE TIED CARD OF 'ddilaw09.MasterDirectives'. -/
def masterDirectivesCard : Claim7 := { stood := { row := masterDirectivesRow, standIns := [], harness := (true, "b62fc1f6b28d78a3ddeb2b05fbb9475eaf5a671c7f2466e55475cf4098240cef"), looks := true }, kinds := [], alts := [], laidByText := true, laidKinds := [.data, .data, .data, .data, .sentinel, .sentinel, .pinned], laidTests := true, laidLooks := .later }
def MasterDirectivesCardSaid : Prop := Claim7.holds Tryz.pinned (.plain (OpenSpec.ofChange masterDirectivesSpec)) masterDirectivesCard

/-- THE SECOND FORM's CARD OF 'ddilaw09.MasterScans'. -/
def masterScansUptoCard : Claim7 := { stood := { row := masterScansUptoRow, standIns := [], harness := (true, "b62fc1f6b28d78a3ddeb2b05fbb9475eaf5a671c7f2466e55475cf4098240cef"), looks := true }, kinds := [], alts := [], laidByText := true, laidKinds := [.data, .data, .data, .data, .sentinel, .sentinel, .pinned], laidTests := true, laidLooks := .later }
def MasterScansUptoCardSaid : Prop := Claim7.holds Tryz.pinned (.plain (OpenSpec.upto masterScansSpec)) masterScansUptoCard

/-- THE SECOND FORM's CARD OF 'ddilaw09.MasterParses'. -/
def masterParsesUptoCard : Claim7 := { stood := { row := masterParsesUptoRow, standIns := [], harness := (true, "b62fc1f6b28d78a3ddeb2b05fbb9475eaf5a671c7f2466e55475cf4098240cef"), looks := true }, kinds := [], alts := [], laidByText := true, laidKinds := [.data, .data, .data, .data, .sentinel, .sentinel, .pinned], laidTests := true, laidLooks := .later }
def MasterParsesUptoCardSaid : Prop := Claim7.holds Tryz.pinned (.plain (OpenSpec.upto masterParsesSpec)) masterParsesUptoCard

/-- THE SECOND FORM's CARD OF 'ddilaw09.MasterPrints'. -/
def masterPrintsUptoCard : Claim7 := { stood := { row := masterPrintsUptoRow, standIns := [], harness := (true, "b62fc1f6b28d78a3ddeb2b05fbb9475eaf5a671c7f2466e55475cf4098240cef"), looks := true }, kinds := [], alts := [], laidByText := true, laidKinds := [.data, .data, .data, .data, .sentinel, .sentinel, .pinned], laidTests := true, laidLooks := .later }
def MasterPrintsUptoCardSaid : Prop := Claim7.holds Tryz.pinned (.plain (OpenSpec.upto masterPrintsSpec)) masterPrintsUptoCard

/-- THE SECOND FORM's CARD OF 'ddilaw09.MasterBack'. -/
def masterBackUptoCard : Claim7 := { stood := { row := masterBackUptoRow, standIns := [], harness := (true, "b62fc1f6b28d78a3ddeb2b05fbb9475eaf5a671c7f2466e55475cf4098240cef"), looks := true }, kinds := [], alts := [], laidByText := true, laidKinds := [.data, .data, .data, .data, .sentinel, .sentinel, .pinned], laidTests := true, laidLooks := .later }
def MasterBackUptoCardSaid : Prop := Claim7.holds Tryz.pinned (.plain (OpenSpec.upto masterBackSpec)) masterBackUptoCard

/-- THE SECOND FORM's CARD OF 'ddilaw09.MasterLines'. -/
def masterLinesUptoCard : Claim7 := { stood := { row := masterLinesUptoRow, standIns := [], harness := (true, "b62fc1f6b28d78a3ddeb2b05fbb9475eaf5a671c7f2466e55475cf4098240cef"), looks := true }, kinds := [], alts := [], laidByText := true, laidKinds := [.data, .data, .data, .data, .sentinel, .sentinel, .pinned], laidTests := true, laidLooks := .later }
def MasterLinesUptoCardSaid : Prop := Claim7.holds Tryz.pinned (.plain (OpenSpec.upto masterLinesSpec)) masterLinesUptoCard

/-- THE SECOND FORM's CARD OF 'ddilaw09.MasterJoined'. -/
def masterJoinedUptoCard : Claim7 := { stood := { row := masterJoinedUptoRow, standIns := [], harness := (true, "b62fc1f6b28d78a3ddeb2b05fbb9475eaf5a671c7f2466e55475cf4098240cef"), looks := true }, kinds := [], alts := [], laidByText := true, laidKinds := [.data, .data, .data, .data, .sentinel, .sentinel, .pinned], laidTests := true, laidLooks := .later }
def MasterJoinedUptoCardSaid : Prop := Claim7.holds Tryz.pinned (.plain (OpenSpec.upto masterJoinedSpec)) masterJoinedUptoCard

/-- THE SECOND FORM's CARD OF 'ddilaw09.MasterDirectives'. -/
def masterDirectivesUptoCard : Claim7 := { stood := { row := masterDirectivesUptoRow, standIns := [], harness := (true, "b62fc1f6b28d78a3ddeb2b05fbb9475eaf5a671c7f2466e55475cf4098240cef"), looks := true }, kinds := [], alts := [], laidByText := true, laidKinds := [.data, .data, .data, .data, .sentinel, .sentinel, .pinned], laidTests := true, laidLooks := .later }
def MasterDirectivesUptoCardSaid : Prop := Claim7.holds Tryz.pinned (.plain (OpenSpec.upto masterDirectivesSpec)) masterDirectivesUptoCard
end Rows
end Go.Proofs.YthnmdocmomkekaaGreatDoor
