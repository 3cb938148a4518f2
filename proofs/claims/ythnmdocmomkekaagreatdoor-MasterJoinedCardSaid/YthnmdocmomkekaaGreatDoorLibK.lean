/- From the evaluator's answers to the calls: tools. Condition: none. -/
import Derived.Test.YthnmdocmomkekaaGreatDoorLibX
import Derived.Test.YthnmdocmomkekaaGreatDoorTabOk
import Derived.Test.YthnmdocmomkekaaGreatDoorEvU
import Derived.Test.YthnmdocmomkekaaGreatDoorRtB
namespace Go.Proofs.YthnmdocmomkekaaGreatDoor
open Go.Lib Go.Ev Go.RowKit
set_option linter.all false
theorem mixed : Tryz.prog.follows .mixedOrders = true := by kernel_rfl
theorem arg_str {w : World} (l : List UInt8) {s : ByteArray} (h : s = bs l) : ArgOk w (.str (bs l)) (.string s) := by subst h; exact ⟨.str _, rfl, data_noFlag rfl⟩
theorem arg_int {w : World} (k : IntKind) (n : Int) : ArgOk w (.int k n) (.int k n) := ⟨.int _ _, rfl, data_noFlag rfl⟩
theorem tabOk : TabOk Tryz.prog T := Go.Proofs.tab_ok Go.Proofs.nats_ok
end Go.Proofs.YthnmdocmomkekaaGreatDoor
