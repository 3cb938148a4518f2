/- Each Go function that DigestMoved reaches, as a Lean function, and that the Go code comes to its answers (turned from a text that print.sh wrote, the walks of Text and Mac mended). Condition: none. -/
import Derived.Test.YtghhhpcdakdjjaaProg
import Derived.Below
import Derived.Deep.Draws
import Derived.Deep.AppendLies
import Derived.Maps.AppendAt
import Derived.OwnWalk
import Derived.Laws.BytesArg
import Derived.Laws.MakeOwn
import Derived.Laws.OwnMore
import Derived.Deep.OwnRows
import Derived.Tactics
import Derived.Lib.ConvBytes
import Derived.Laws.Slices
import Derived.WalkKit
import Derived.KernelRfl
import Derived.RowKit3
import Derived.Deep.LoopGhost
import Derived.Deep.QuietTactic
import Derived.BigQuiet
import Derived.WideLaws
import Derived.Deep.DeepCutAuto
import Derived.Deep.CutBlock
import Derived.Deep.RegionHeld3
import Derived.Laws.Rows
import Derived.Lib.AppendStr
import Derived.ArgAppend
import Derived.Laws.IdiomCopy
import Derived.OrdersHeld
import Derived.Laws.BitsLemmas
import Derived.RowKit
import Derived.Test.YtghhhpcdakdjjaaWWords
import Derived.Test.YtghhhpcdakdjjaaWLast
import Derived.Test.YtghhhpcdakdjjaaWTab
import Derived.Test.YtghhhpcdakdjjaaWFour
import Derived.Test.YtghhhpcdakdjjaaWQPut
import Derived.Test.YtghhhpcdakdjjaaWApart
import Derived.Test.YtghhhpcdakdjjaaWArr
import Derived.Test.YtghhhpcdakdjjaaWZeros
import Derived.Test.YtghhhpcdakdjjaaWFoot
import Derived.Test.YtghhhpcdakdjjaaWKept
import Derived.Test.YtghhhpcdakdjjaaWShare
import Derived.Test.YtghhhpcdakdjjaaWN
import Derived.Test.YtghhhpcdakdjjaaWFootNe
import Derived.Test.YtghhhpcdakdjjaaWAt
import Derived.Test.YtghhhpcdakdjjaaWEqStruct
import Derived.Test.YtghhhpcdakdjjaaWRepsOne
import Derived.Test.YtghhhpcdakdjjaaWInv
import Derived.Test.YtghhhpcdakdjjaaWInvWords
import Derived.Test.YtghhhpcdakdjjaaWGuard
import Derived.Test.YtghhhpcdakdjjaaWNEv
import Derived.Test.YtghhhpcdakdjjaaWMore
namespace Go.Proofs.Ytghhhpcdakdjjaa.MDigestMoved
open Go.RowKit Go.Proofs.YtghhhpcdakdjjaaW.PrintWords Go.Proofs.YtghhhpcdakdjjaaW.PrintLast Go.Proofs.YtghhhpcdakdjjaaW.PrintMore
attribute [local go_sem] max2_int min2_int max_two min_two max_three min_three max_four min_four   -- for this text's walks alone
set_option linter.unusedVariables false
set_option linter.unusedSimpArgs false



def errW : Option Int → Value
  | none => .nilIface
  | some c => .iface 0 (.int .i64 c)
theorem errW_none : errW none = .nilIface := rfl
theorem errW_some (c : Int) : errW (some c) = .iface 0 (.int .i64 c) := rfl

theorem info5 : (Try.prog.info? 5).map (fun i => (i.zero, i.size, i.bytes)) = some (some (.int .u8 0), 1, 1) := by kernel_rfl
-- the values' own types

end Go.Proofs.Ytghhhpcdakdjjaa.MDigestMoved
