/-
  No cell of these rows narrows 'for every input' (looked for: loops, veiled, ifaces, maps, wideKeys, modest, calm, conditions, laid).
  DERIVED. THE GIVEN ROWS OF THIS SEAT. 4 by the template 'for every input the law returns true; each argument reads behind the call as it read before'; 0 by the template 'total and deterministic' (their statements: YtjeghkeipoccaaaTotals.lean).
  GIVEN WITH THE SEED: the statements are not yours to turn. If you find one false, say at which input.
  Laid BY PROGRAM, IN A SANDBOX (cutbox-rows.mjs): the forced cells as the released guide's own fill.sh prints them over the translation b95f084cb84dbed5… (all of the seat's roots in one cut). By AI agents, Wed Nov 11 2026. No macro, syntax, notation, axiom, sorry.
-/
import Derived.Test.YtjeghkeipoccaaaChecked
import GoSem.Claim
import GoSem.ClaimJoined
import GoSem.ClaimMapViews
import Derived.JoinedTies
import Derived.KernelRfl
namespace Go.Proofs.Ytjeghkeipoccaaa
/- THE CELL 'sum', in the pinned program and in every row, IS THE sha256 OF THE DUMP (.gsa) THAT YtjeghkeipoccaaaProg.lean LOADS. Nothing in Lean hashes anything: it is a label: what it is worth is what the hold of that sum in a sandbox is worth. -/
noncomputable def Try.pinned : Pinned := { name := "ytjeghkeipoccaaa", sum := "b95f084cb84dbed5deabf62348769a80c1212bddee4dfd0a578aea3a9e577c2b", checked := Try.checked }
namespace Rows
def none {H : Type} : Left H := { results := [], args := [] }

/-- 'ddilaw50.ApproveChecks': WHATEVER THE INPUT: true; the input reads as it did. -/
def approveChecksSpec : ChangeSpec := { name := "approveChecks", fn := fun _ => fun
  | [d] => { results := [.lit (.bool true)], args := [d] }
  | _ => none }
def approveChecksRow : OpenClaim := { program := "ytjeghkeipoccaaa", sum := "b95f084cb84dbed5deabf62348769a80c1212bddee4dfd0a578aea3a9e577c2b", func := "ddi/ddilaw50.ApproveChecks", spec := "approveChecks", unfollowed := true, recurses := true, apart := false }
def ApproveChecksSaid : Prop := approveChecksRow.holds Try.pinned (OpenSpec.ofChange approveChecksSpec)

/-- ITS FALSE NEIGHBOUR: 'it returns false'. Refute it at one input. -/
def approveChecksWrong : ChangeSpec := { name := "approveChecks", fn := fun _ => fun
  | [d] => { results := [.lit (.bool false)], args := [d] }
  | _ => none }
def ApproveChecksWrongFalsely : Prop := approveChecksRow.holds Try.pinned (OpenSpec.ofChange approveChecksWrong)

/-- 'ddilaw50.ApproveCalls': WHATEVER THE INPUT: true; the input reads as it did. -/
def approveCallsSpec : ChangeSpec := { name := "approveCalls", fn := fun _ => fun
  | [d1, d2] => { results := [.lit (.bool true)], args := [d1, d2] }
  | _ => none }
def approveCallsRow : OpenClaim := { program := "ytjeghkeipoccaaa", sum := "b95f084cb84dbed5deabf62348769a80c1212bddee4dfd0a578aea3a9e577c2b", func := "ddi/ddilaw50.ApproveCalls", spec := "approveCalls", unfollowed := true, recurses := true, apart := false }
def ApproveCallsSaid : Prop := approveCallsRow.holds Try.pinned (OpenSpec.ofChange approveCallsSpec)

/-- ITS FALSE NEIGHBOUR: 'it returns false'. Refute it at one input. -/
def approveCallsWrong : ChangeSpec := { name := "approveCalls", fn := fun _ => fun
  | [d1, d2] => { results := [.lit (.bool false)], args := [d1, d2] }
  | _ => none }
def ApproveCallsWrongFalsely : Prop := approveCallsRow.holds Try.pinned (OpenSpec.ofChange approveCallsWrong)

/-- 'ddilaw50.ApprovePlays': WHATEVER THE INPUT: true; the input reads as it did. -/
def approvePlaysSpec : ChangeSpec := { name := "approvePlays", fn := fun _ => fun
  | [d] => { results := [.lit (.bool true)], args := [d] }
  | _ => none }
def approvePlaysRow : OpenClaim := { program := "ytjeghkeipoccaaa", sum := "b95f084cb84dbed5deabf62348769a80c1212bddee4dfd0a578aea3a9e577c2b", func := "ddi/ddilaw50.ApprovePlays", spec := "approvePlays", unfollowed := true, recurses := true, apart := false }
def ApprovePlaysSaid : Prop := approvePlaysRow.holds Try.pinned (OpenSpec.ofChange approvePlaysSpec)

/-- ITS FALSE NEIGHBOUR: 'it returns false'. Refute it at one input. -/
def approvePlaysWrong : ChangeSpec := { name := "approvePlays", fn := fun _ => fun
  | [d] => { results := [.lit (.bool false)], args := [d] }
  | _ => none }
def ApprovePlaysWrongFalsely : Prop := approvePlaysRow.holds Try.pinned (OpenSpec.ofChange approvePlaysWrong)

/-- 'ddilaw50.ApproveOnce': WHATEVER THE INPUT: true; the input reads as it did. -/
def approveOnceSpec : ChangeSpec := { name := "approveOnce", fn := fun _ => fun
  | [d] => { results := [.lit (.bool true)], args := [d] }
  | _ => none }
def approveOnceRow : OpenClaim := { program := "ytjeghkeipoccaaa", sum := "b95f084cb84dbed5deabf62348769a80c1212bddee4dfd0a578aea3a9e577c2b", func := "ddi/ddilaw50.ApproveOnce", spec := "approveOnce", unfollowed := true, recurses := true, apart := false }
def ApproveOnceSaid : Prop := approveOnceRow.holds Try.pinned (OpenSpec.ofChange approveOnceSpec)

/-- ITS FALSE NEIGHBOUR: 'it returns false'. Refute it at one input. -/
def approveOnceWrong : ChangeSpec := { name := "approveOnce", fn := fun _ => fun
  | [d] => { results := [.lit (.bool false)], args := [d] }
  | _ => none }
def ApproveOnceWrongFalsely : Prop := approveOnceRow.holds Try.pinned (OpenSpec.ofChange approveOnceWrong)

/- THE SECOND FORM. 'bulk': how many values and letters a reading holds, each counted each time it is reached (what is shared counts as often as it is met; a slice's spare places count too). A statement '..UptoSaid' is the law's where the arguments, and the package variables that the reading takes, are together of bulk at most 1048576: NARROWER than '..Said'. Prove '..Said' where nothing that the law and all that it calls make is longer than what came in: it says more and counts as full. Else prove '..UptoSaid'. A law counts once. -/
mutual
def uptoBulk {H : Type} : DataW H → Nat
  | .lit (.string bytes) => bytes.length + 1
  | .lit _ => 1
  | .nil => 1
  | .ptr d => uptoBulk d + 1
  | .slice elems spare => uptoBulkAll elems + uptoBulkAll spare + 1
  | .agg parts => uptoBulkAll parts + 1
  | .iface _ d => uptoBulk d + 1
  | .map entries => uptoBulkEntries entries + 1
  | .held _ => 1
def uptoBulkAll {H : Type} : List (DataW H) → Nat
  | [] => 0
  | d :: r => uptoBulk d + uptoBulkAll r
def uptoBulkEntries {H : Type} : List (Lit × DataW H) → Nat
  | [] => 0
  | x :: r => uptoBulkEntry x + uptoBulkEntries r
def uptoBulkEntry {H : Type} : Lit × DataW H → Nat
  | (.string bytes, d) => bytes.length + uptoBulk d + 1
  | (_, d) => uptoBulk d + 1
 end
def uptoSmall : (H : Type) → List (DataW H) → Bool := fun _ ds => decide (uptoBulkAll ds ≤ 1048576)
def OpenSpec.upto (s : _root_.Go.ChangeSpec) : _root_.Go.OpenSpec := { _root_.Go.OpenSpec.ofChange s with cond := some uptoSmall }

/-- 'ddilaw50.ApproveChecks', WHERE WHAT IT READS IS OF BULK AT MOST 1048576: true; the input reads as it did. -/
def approveChecksUptoRow : OpenClaim := { program := "ytjeghkeipoccaaa", sum := "b95f084cb84dbed5deabf62348769a80c1212bddee4dfd0a578aea3a9e577c2b", func := "ddi/ddilaw50.ApproveChecks", spec := "approveChecks", unfollowed := true, recurses := true, apart := false, narrowed := true }
def ApproveChecksUptoSaid : Prop := approveChecksUptoRow.holds Try.pinned (OpenSpec.upto approveChecksSpec)

/-- 'ddilaw50.ApproveCalls', WHERE WHAT IT READS IS OF BULK AT MOST 1048576: true; the input reads as it did. -/
def approveCallsUptoRow : OpenClaim := { program := "ytjeghkeipoccaaa", sum := "b95f084cb84dbed5deabf62348769a80c1212bddee4dfd0a578aea3a9e577c2b", func := "ddi/ddilaw50.ApproveCalls", spec := "approveCalls", unfollowed := true, recurses := true, apart := false, narrowed := true }
def ApproveCallsUptoSaid : Prop := approveCallsUptoRow.holds Try.pinned (OpenSpec.upto approveCallsSpec)

/-- 'ddilaw50.ApprovePlays', WHERE WHAT IT READS IS OF BULK AT MOST 1048576: true; the input reads as it did. -/
def approvePlaysUptoRow : OpenClaim := { program := "ytjeghkeipoccaaa", sum := "b95f084cb84dbed5deabf62348769a80c1212bddee4dfd0a578aea3a9e577c2b", func := "ddi/ddilaw50.ApprovePlays", spec := "approvePlays", unfollowed := true, recurses := true, apart := false, narrowed := true }
def ApprovePlaysUptoSaid : Prop := approvePlaysUptoRow.holds Try.pinned (OpenSpec.upto approvePlaysSpec)

/-- 'ddilaw50.ApproveOnce', WHERE WHAT IT READS IS OF BULK AT MOST 1048576: true; the input reads as it did. -/
def approveOnceUptoRow : OpenClaim := { program := "ytjeghkeipoccaaa", sum := "b95f084cb84dbed5deabf62348769a80c1212bddee4dfd0a578aea3a9e577c2b", func := "ddi/ddilaw50.ApproveOnce", spec := "approveOnce", unfollowed := true, recurses := true, apart := false, narrowed := true }
def ApproveOnceUptoSaid : Prop := approveOnceUptoRow.holds Try.pinned (OpenSpec.upto approveOnceSpec)

end Rows
end Go.Proofs.Ytjeghkeipoccaaa
