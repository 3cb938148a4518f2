/-
  No cell of these rows narrows 'for every input' (looked for: loops, veiled, ifaces, maps, wideKeys, modest, calm, conditions, laid).
  DERIVED. THE GIVEN ROWS OF THIS SEAT. 12 by the template 'for every input the law returns true; each argument reads behind the call as it read before'; 0 by the template 'total and deterministic' (their statements: YtghhhpcdakdjjaaTotals.lean).
  GIVEN WITH THE SEED: the statements are not yours to turn. If you find one false, say at which input.
  Laid BY PROGRAM, IN A SANDBOX (cutbox-rows.mjs): the forced cells as the released guide's own fill.sh prints them over the translation 77c95a90222f99e4… (all of the seat's roots in one cut). By AI agents, Wed Nov 11 2026. No macro, syntax, notation, axiom, sorry.
-/
import Derived.Test.YtghhhpcdakdjjaaChecked
import GoSem.Claim
import GoSem.ClaimJoined
import GoSem.ClaimMapViews
import Derived.JoinedTies
import Derived.KernelRfl
namespace Go.Proofs.Ytghhhpcdakdjjaa
/- THE CELL 'sum', in the pinned program and in every row, IS THE sha256 OF THE DUMP (.gsa) THAT YtghhhpcdakdjjaaProg.lean LOADS. Nothing in Lean hashes anything: it is a label: what it is worth is what the hold of that sum in a sandbox is worth. -/
noncomputable def Try.pinned : Pinned := { name := "ytghhhpcdakdjjaa", sum := "77c95a90222f99e4f3b1599ec6d6c378e608e0cae8f70490f15b71f36a35faf9", checked := Try.checked }
namespace Rows
def none {H : Type} : Left H := { results := [], args := [] }

/-- 'ddilaw18.DigestSums': WHATEVER THE INPUT: true; the input reads as it did. -/
def digestSumsSpec : ChangeSpec := { name := "digestSums", fn := fun _ => fun
  | [d] => { results := [.lit (.bool true)], args := [d] }
  | _ => none }
def digestSumsRow : OpenClaim := { program := "ytghhhpcdakdjjaa", sum := "77c95a90222f99e4f3b1599ec6d6c378e608e0cae8f70490f15b71f36a35faf9", func := "ddi/ddilaw18.DigestSums", spec := "digestSums", apart := false }
def DigestSumsSaid : Prop := digestSumsRow.holds Try.pinned (OpenSpec.ofChange digestSumsSpec)

/-- ITS FALSE NEIGHBOUR: 'it returns false'. Refute it at one input. -/
def digestSumsWrong : ChangeSpec := { name := "digestSums", fn := fun _ => fun
  | [d] => { results := [.lit (.bool false)], args := [d] }
  | _ => none }
def DigestSumsWrongFalsely : Prop := digestSumsRow.holds Try.pinned (OpenSpec.ofChange digestSumsWrong)

/-- 'ddilaw18.DigestMacs': WHATEVER THE INPUT: true; the input reads as it did. -/
def digestMacsSpec : ChangeSpec := { name := "digestMacs", fn := fun _ => fun
  | [d1, d2] => { results := [.lit (.bool true)], args := [d1, d2] }
  | _ => none }
def digestMacsRow : OpenClaim := { program := "ytghhhpcdakdjjaa", sum := "77c95a90222f99e4f3b1599ec6d6c378e608e0cae8f70490f15b71f36a35faf9", func := "ddi/ddilaw18.DigestMacs", spec := "digestMacs", apart := false }
def DigestMacsSaid : Prop := digestMacsRow.holds Try.pinned (OpenSpec.ofChange digestMacsSpec)

/-- ITS FALSE NEIGHBOUR: 'it returns false'. Refute it at one input. -/
def digestMacsWrong : ChangeSpec := { name := "digestMacs", fn := fun _ => fun
  | [d1, d2] => { results := [.lit (.bool false)], args := [d1, d2] }
  | _ => none }
def DigestMacsWrongFalsely : Prop := digestMacsRow.holds Try.pinned (OpenSpec.ofChange digestMacsWrong)

/-- 'ddilaw18.DigestTags': WHATEVER THE INPUT: true; the input reads as it did. -/
def digestTagsSpec : ChangeSpec := { name := "digestTags", fn := fun _ => fun
  | [d] => { results := [.lit (.bool true)], args := [d] }
  | _ => none }
def digestTagsRow : OpenClaim := { program := "ytghhhpcdakdjjaa", sum := "77c95a90222f99e4f3b1599ec6d6c378e608e0cae8f70490f15b71f36a35faf9", func := "ddi/ddilaw18.DigestTags", spec := "digestTags", apart := false }
def DigestTagsSaid : Prop := digestTagsRow.holds Try.pinned (OpenSpec.ofChange digestTagsSpec)

/-- ITS FALSE NEIGHBOUR: 'it returns false'. Refute it at one input. -/
def digestTagsWrong : ChangeSpec := { name := "digestTags", fn := fun _ => fun
  | [d] => { results := [.lit (.bool false)], args := [d] }
  | _ => none }
def DigestTagsWrongFalsely : Prop := digestTagsRow.holds Try.pinned (OpenSpec.ofChange digestTagsWrong)

/-- 'ddilaw18.DigestTexts': WHATEVER THE INPUT: true; the input reads as it did. -/
def digestTextsSpec : ChangeSpec := { name := "digestTexts", fn := fun _ => fun
  | [d] => { results := [.lit (.bool true)], args := [d] }
  | _ => none }
def digestTextsRow : OpenClaim := { program := "ytghhhpcdakdjjaa", sum := "77c95a90222f99e4f3b1599ec6d6c378e608e0cae8f70490f15b71f36a35faf9", func := "ddi/ddilaw18.DigestTexts", spec := "digestTexts", apart := false }
def DigestTextsSaid : Prop := digestTextsRow.holds Try.pinned (OpenSpec.ofChange digestTextsSpec)

/-- ITS FALSE NEIGHBOUR: 'it returns false'. Refute it at one input. -/
def digestTextsWrong : ChangeSpec := { name := "digestTexts", fn := fun _ => fun
  | [d] => { results := [.lit (.bool false)], args := [d] }
  | _ => none }
def DigestTextsWrongFalsely : Prop := digestTextsRow.holds Try.pinned (OpenSpec.ofChange digestTextsWrong)

/-- 'ddilaw18.DigestBytes': WHATEVER THE INPUT: true; the input reads as it did. -/
def digestBytesSpec : ChangeSpec := { name := "digestBytes", fn := fun _ => fun
  | [d1, d2, d3, d4] => { results := [.lit (.bool true)], args := [d1, d2, d3, d4] }
  | _ => none }
def digestBytesRow : OpenClaim := { program := "ytghhhpcdakdjjaa", sum := "77c95a90222f99e4f3b1599ec6d6c378e608e0cae8f70490f15b71f36a35faf9", func := "ddi/ddilaw18.DigestBytes", spec := "digestBytes", apart := false }
def DigestBytesSaid : Prop := digestBytesRow.holds Try.pinned (OpenSpec.ofChange digestBytesSpec)

/-- ITS FALSE NEIGHBOUR: 'it returns false'. Refute it at one input. -/
def digestBytesWrong : ChangeSpec := { name := "digestBytes", fn := fun _ => fun
  | [d1, d2, d3, d4] => { results := [.lit (.bool false)], args := [d1, d2, d3, d4] }
  | _ => none }
def DigestBytesWrongFalsely : Prop := digestBytesRow.holds Try.pinned (OpenSpec.ofChange digestBytesWrong)

/-- 'ddilaw18.DigestJoined': WHATEVER THE INPUT: true; the input reads as it did. -/
def digestJoinedSpec : ChangeSpec := { name := "digestJoined", fn := fun _ => fun
  | [d1, d2] => { results := [.lit (.bool true)], args := [d1, d2] }
  | _ => none }
def digestJoinedRow : OpenClaim := { program := "ytghhhpcdakdjjaa", sum := "77c95a90222f99e4f3b1599ec6d6c378e608e0cae8f70490f15b71f36a35faf9", func := "ddi/ddilaw18.DigestJoined", spec := "digestJoined", apart := false }
def DigestJoinedSaid : Prop := digestJoinedRow.holds Try.pinned (OpenSpec.ofChange digestJoinedSpec)

/-- ITS FALSE NEIGHBOUR: 'it returns false'. Refute it at one input. -/
def digestJoinedWrong : ChangeSpec := { name := "digestJoined", fn := fun _ => fun
  | [d1, d2] => { results := [.lit (.bool false)], args := [d1, d2] }
  | _ => none }
def DigestJoinedWrongFalsely : Prop := digestJoinedRow.holds Try.pinned (OpenSpec.ofChange digestJoinedWrong)

/-- 'ddilaw18.DigestMoved': WHATEVER THE INPUT: true; the input reads as it did. -/
def digestMovedSpec : ChangeSpec := { name := "digestMoved", fn := fun _ => fun
  | [d1, d2, d3, d4] => { results := [.lit (.bool true)], args := [d1, d2, d3, d4] }
  | _ => none }
def digestMovedRow : OpenClaim := { program := "ytghhhpcdakdjjaa", sum := "77c95a90222f99e4f3b1599ec6d6c378e608e0cae8f70490f15b71f36a35faf9", func := "ddi/ddilaw18.DigestMoved", spec := "digestMoved", apart := false }
def DigestMovedSaid : Prop := digestMovedRow.holds Try.pinned (OpenSpec.ofChange digestMovedSpec)

/-- ITS FALSE NEIGHBOUR: 'it returns false'. Refute it at one input. -/
def digestMovedWrong : ChangeSpec := { name := "digestMoved", fn := fun _ => fun
  | [d1, d2, d3, d4] => { results := [.lit (.bool false)], args := [d1, d2, d3, d4] }
  | _ => none }
def DigestMovedWrongFalsely : Prop := digestMovedRow.holds Try.pinned (OpenSpec.ofChange digestMovedWrong)

/-- 'ddilaw54.NetOthers': WHATEVER THE INPUT: true; the input reads as it did. -/
def netOthersSpec : ChangeSpec := { name := "netOthers", fn := fun _ => fun
  | [d1, d2, d3] => { results := [.lit (.bool true)], args := [d1, d2, d3] }
  | _ => none }
def netOthersRow : OpenClaim := { program := "ytghhhpcdakdjjaa", sum := "77c95a90222f99e4f3b1599ec6d6c378e608e0cae8f70490f15b71f36a35faf9", func := "ddi/ddilaw54.NetOthers", spec := "netOthers", apart := false }
def NetOthersSaid : Prop := netOthersRow.holds Try.pinned (OpenSpec.ofChange netOthersSpec)

/-- ITS FALSE NEIGHBOUR: 'it returns false'. Refute it at one input. -/
def netOthersWrong : ChangeSpec := { name := "netOthers", fn := fun _ => fun
  | [d1, d2, d3] => { results := [.lit (.bool false)], args := [d1, d2, d3] }
  | _ => none }
def NetOthersWrongFalsely : Prop := netOthersRow.holds Try.pinned (OpenSpec.ofChange netOthersWrong)

/-- 'ddilaw54.NetBack': WHATEVER THE INPUT: true; the input reads as it did. -/
def netBackSpec : ChangeSpec := { name := "netBack", fn := fun _ => fun
  | [d1, d2] => { results := [.lit (.bool true)], args := [d1, d2] }
  | _ => none }
def netBackRow : OpenClaim := { program := "ytghhhpcdakdjjaa", sum := "77c95a90222f99e4f3b1599ec6d6c378e608e0cae8f70490f15b71f36a35faf9", func := "ddi/ddilaw54.NetBack", spec := "netBack", apart := false }
def NetBackSaid : Prop := netBackRow.holds Try.pinned (OpenSpec.ofChange netBackSpec)

/-- ITS FALSE NEIGHBOUR: 'it returns false'. Refute it at one input. -/
def netBackWrong : ChangeSpec := { name := "netBack", fn := fun _ => fun
  | [d1, d2] => { results := [.lit (.bool false)], args := [d1, d2] }
  | _ => none }
def NetBackWrongFalsely : Prop := netBackRow.holds Try.pinned (OpenSpec.ofChange netBackWrong)

/-- 'ddilaw54.NetPlays': WHATEVER THE INPUT: true; the input reads as it did. -/
def netPlaysSpec : ChangeSpec := { name := "netPlays", fn := fun _ => fun
  | [d] => { results := [.lit (.bool true)], args := [d] }
  | _ => none }
def netPlaysRow : OpenClaim := { program := "ytghhhpcdakdjjaa", sum := "77c95a90222f99e4f3b1599ec6d6c378e608e0cae8f70490f15b71f36a35faf9", func := "ddi/ddilaw54.NetPlays", spec := "netPlays", apart := false }
def NetPlaysSaid : Prop := netPlaysRow.holds Try.pinned (OpenSpec.ofChange netPlaysSpec)

/-- ITS FALSE NEIGHBOUR: 'it returns false'. Refute it at one input. -/
def netPlaysWrong : ChangeSpec := { name := "netPlays", fn := fun _ => fun
  | [d] => { results := [.lit (.bool false)], args := [d] }
  | _ => none }
def NetPlaysWrongFalsely : Prop := netPlaysRow.holds Try.pinned (OpenSpec.ofChange netPlaysWrong)

/-- 'ddilaw54.NetCalls': WHATEVER THE INPUT: true; the input reads as it did. -/
def netCallsSpec : ChangeSpec := { name := "netCalls", fn := fun _ => fun
  | [d1, d2] => { results := [.lit (.bool true)], args := [d1, d2] }
  | _ => none }
def netCallsRow : OpenClaim := { program := "ytghhhpcdakdjjaa", sum := "77c95a90222f99e4f3b1599ec6d6c378e608e0cae8f70490f15b71f36a35faf9", func := "ddi/ddilaw54.NetCalls", spec := "netCalls", apart := false }
def NetCallsSaid : Prop := netCallsRow.holds Try.pinned (OpenSpec.ofChange netCallsSpec)

/-- ITS FALSE NEIGHBOUR: 'it returns false'. Refute it at one input. -/
def netCallsWrong : ChangeSpec := { name := "netCalls", fn := fun _ => fun
  | [d1, d2] => { results := [.lit (.bool false)], args := [d1, d2] }
  | _ => none }
def NetCallsWrongFalsely : Prop := netCallsRow.holds Try.pinned (OpenSpec.ofChange netCallsWrong)

/-- 'ddilaw50.ApproveChecks': WHATEVER THE INPUT: true; the input reads as it did. -/
def approveChecksSpec : ChangeSpec := { name := "approveChecks", fn := fun _ => fun
  | [d] => { results := [.lit (.bool true)], args := [d] }
  | _ => none }
def approveChecksRow : OpenClaim := { program := "ytghhhpcdakdjjaa", sum := "77c95a90222f99e4f3b1599ec6d6c378e608e0cae8f70490f15b71f36a35faf9", func := "ddi/ddilaw50.ApproveChecks", spec := "approveChecks", unfollowed := true, recurses := true, apart := false }
def ApproveChecksSaid : Prop := approveChecksRow.holds Try.pinned (OpenSpec.ofChange approveChecksSpec)

/-- ITS FALSE NEIGHBOUR: 'it returns false'. Refute it at one input. -/
def approveChecksWrong : ChangeSpec := { name := "approveChecks", fn := fun _ => fun
  | [d] => { results := [.lit (.bool false)], args := [d] }
  | _ => none }
def ApproveChecksWrongFalsely : Prop := approveChecksRow.holds Try.pinned (OpenSpec.ofChange approveChecksWrong)

/- THE SECOND FORM. 'bulk': how many values and letters a reading holds, each counted each time it is reached (what is shared counts as often as it is met; a slice's spare places count too). A statement '..UptoSaid' is the law's where the arguments, and the package variables that the reading takes, are together of bulk at most 1048576: NARROWER than '..Said'. Prove '..Said' where nothing that the law and all that it calls make is longer than what came in: it says more and counts as full. Else prove '..UptoSaid'. A law counts once. -/
mutual
def uptoBulk {H : Type} : DataW H → Nat
  | .lit (.string bytes) => bytes.length + 1
  | .lit _ => 1
  | .nil => 1
  | .ptr d => uptoBulk d + 1
  | .slice elems spare => uptoBulkAll elems + uptoBulkAll spare + 1
  | .agg parts => uptoBulkAll parts + 1
  | .iface _ d => uptoBulk d + 1
  | .map entries => uptoBulkEntries entries + 1
  | .held _ => 1
def uptoBulkAll {H : Type} : List (DataW H) → Nat
  | [] => 0
  | d :: r => uptoBulk d + uptoBulkAll r
def uptoBulkEntries {H : Type} : List (Lit × DataW H) → Nat
  | [] => 0
  | x :: r => uptoBulkEntry x + uptoBulkEntries r
def uptoBulkEntry {H : Type} : Lit × DataW H → Nat
  | (.string bytes, d) => bytes.length + uptoBulk d + 1
  | (_, d) => uptoBulk d + 1
 end
def uptoSmall : (H : Type) → List (DataW H) → Bool := fun _ ds => decide (uptoBulkAll ds ≤ 1048576)
def OpenSpec.upto (s : _root_.Go.ChangeSpec) : _root_.Go.OpenSpec := { _root_.Go.OpenSpec.ofChange s with cond := some uptoSmall }

/-- 'ddilaw18.DigestSums', WHERE WHAT IT READS IS OF BULK AT MOST 1048576: true; the input reads as it did. -/
def digestSumsUptoRow : OpenClaim := { program := "ytghhhpcdakdjjaa", sum := "77c95a90222f99e4f3b1599ec6d6c378e608e0cae8f70490f15b71f36a35faf9", func := "ddi/ddilaw18.DigestSums", spec := "digestSums", apart := false, narrowed := true }
def DigestSumsUptoSaid : Prop := digestSumsUptoRow.holds Try.pinned (OpenSpec.upto digestSumsSpec)

/-- 'ddilaw18.DigestMacs', WHERE WHAT IT READS IS OF BULK AT MOST 1048576: true; the input reads as it did. -/
def digestMacsUptoRow : OpenClaim := { program := "ytghhhpcdakdjjaa", sum := "77c95a90222f99e4f3b1599ec6d6c378e608e0cae8f70490f15b71f36a35faf9", func := "ddi/ddilaw18.DigestMacs", spec := "digestMacs", apart := false, narrowed := true }
def DigestMacsUptoSaid : Prop := digestMacsUptoRow.holds Try.pinned (OpenSpec.upto digestMacsSpec)

/-- 'ddilaw18.DigestTags', WHERE WHAT IT READS IS OF BULK AT MOST 1048576: true; the input reads as it did. -/
def digestTagsUptoRow : OpenClaim := { program := "ytghhhpcdakdjjaa", sum := "77c95a90222f99e4f3b1599ec6d6c378e608e0cae8f70490f15b71f36a35faf9", func := "ddi/ddilaw18.DigestTags", spec := "digestTags", apart := false, narrowed := true }
def DigestTagsUptoSaid : Prop := digestTagsUptoRow.holds Try.pinned (OpenSpec.upto digestTagsSpec)

/-- 'ddilaw18.DigestTexts', WHERE WHAT IT READS IS OF BULK AT MOST 1048576: true; the input reads as it did. -/
def digestTextsUptoRow : OpenClaim := { program := "ytghhhpcdakdjjaa", sum := "77c95a90222f99e4f3b1599ec6d6c378e608e0cae8f70490f15b71f36a35faf9", func := "ddi/ddilaw18.DigestTexts", spec := "digestTexts", apart := false, narrowed := true }
def DigestTextsUptoSaid : Prop := digestTextsUptoRow.holds Try.pinned (OpenSpec.upto digestTextsSpec)

/-- 'ddilaw18.DigestBytes', WHERE WHAT IT READS IS OF BULK AT MOST 1048576: true; the input reads as it did. -/
def digestBytesUptoRow : OpenClaim := { program := "ytghhhpcdakdjjaa", sum := "77c95a90222f99e4f3b1599ec6d6c378e608e0cae8f70490f15b71f36a35faf9", func := "ddi/ddilaw18.DigestBytes", spec := "digestBytes", apart := false, narrowed := true }
def DigestBytesUptoSaid : Prop := digestBytesUptoRow.holds Try.pinned (OpenSpec.upto digestBytesSpec)

/-- 'ddilaw18.DigestJoined', WHERE WHAT IT READS IS OF BULK AT MOST 1048576: true; the input reads as it did. -/
def digestJoinedUptoRow : OpenClaim := { program := "ytghhhpcdakdjjaa", sum := "77c95a90222f99e4f3b1599ec6d6c378e608e0cae8f70490f15b71f36a35faf9", func := "ddi/ddilaw18.DigestJoined", spec := "digestJoined", apart := false, narrowed := true }
def DigestJoinedUptoSaid : Prop := digestJoinedUptoRow.holds Try.pinned (OpenSpec.upto digestJoinedSpec)

/-- 'ddilaw18.DigestMoved', WHERE WHAT IT READS IS OF BULK AT MOST 1048576: true; the input reads as it did. -/
def digestMovedUptoRow : OpenClaim := { program := "ytghhhpcdakdjjaa", sum := "77c95a90222f99e4f3b1599ec6d6c378e608e0cae8f70490f15b71f36a35faf9", func := "ddi/ddilaw18.DigestMoved", spec := "digestMoved", apart := false, narrowed := true }
def DigestMovedUptoSaid : Prop := digestMovedUptoRow.holds Try.pinned (OpenSpec.upto digestMovedSpec)

/-- 'ddilaw54.NetOthers', WHERE WHAT IT READS IS OF BULK AT MOST 1048576: true; the input reads as it did. -/
def netOthersUptoRow : OpenClaim := { program := "ytghhhpcdakdjjaa", sum := "77c95a90222f99e4f3b1599ec6d6c378e608e0cae8f70490f15b71f36a35faf9", func := "ddi/ddilaw54.NetOthers", spec := "netOthers", apart := false, narrowed := true }
def NetOthersUptoSaid : Prop := netOthersUptoRow.holds Try.pinned (OpenSpec.upto netOthersSpec)

/-- 'ddilaw54.NetBack', WHERE WHAT IT READS IS OF BULK AT MOST 1048576: true; the input reads as it did. -/
def netBackUptoRow : OpenClaim := { program := "ytghhhpcdakdjjaa", sum := "77c95a90222f99e4f3b1599ec6d6c378e608e0cae8f70490f15b71f36a35faf9", func := "ddi/ddilaw54.NetBack", spec := "netBack", apart := false, narrowed := true }
def NetBackUptoSaid : Prop := netBackUptoRow.holds Try.pinned (OpenSpec.upto netBackSpec)

/-- 'ddilaw54.NetPlays', WHERE WHAT IT READS IS OF BULK AT MOST 1048576: true; the input reads as it did. -/
def netPlaysUptoRow : OpenClaim := { program := "ytghhhpcdakdjjaa", sum := "77c95a90222f99e4f3b1599ec6d6c378e608e0cae8f70490f15b71f36a35faf9", func := "ddi/ddilaw54.NetPlays", spec := "netPlays", apart := false, narrowed := true }
def NetPlaysUptoSaid : Prop := netPlaysUptoRow.holds Try.pinned (OpenSpec.upto netPlaysSpec)

/-- 'ddilaw54.NetCalls', WHERE WHAT IT READS IS OF BULK AT MOST 1048576: true; the input reads as it did. -/
def netCallsUptoRow : OpenClaim := { program := "ytghhhpcdakdjjaa", sum := "77c95a90222f99e4f3b1599ec6d6c378e608e0cae8f70490f15b71f36a35faf9", func := "ddi/ddilaw54.NetCalls", spec := "netCalls", apart := false, narrowed := true }
def NetCallsUptoSaid : Prop := netCallsUptoRow.holds Try.pinned (OpenSpec.upto netCallsSpec)

/-- 'ddilaw50.ApproveChecks', WHERE WHAT IT READS IS OF BULK AT MOST 1048576: true; the input reads as it did. -/
def approveChecksUptoRow : OpenClaim := { program := "ytghhhpcdakdjjaa", sum := "77c95a90222f99e4f3b1599ec6d6c378e608e0cae8f70490f15b71f36a35faf9", func := "ddi/ddilaw50.ApproveChecks", spec := "approveChecks", unfollowed := true, recurses := true, apart := false, narrowed := true }
def ApproveChecksUptoSaid : Prop := approveChecksUptoRow.holds Try.pinned (OpenSpec.upto approveChecksSpec)

end Rows
end Go.Proofs.Ytghhhpcdakdjjaa
