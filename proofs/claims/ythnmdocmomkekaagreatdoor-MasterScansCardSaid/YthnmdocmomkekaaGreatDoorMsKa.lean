/- MasterScans: from the plain law to the calls. Condition: none. -/
import Derived.Test.YthnmdocmomkekaaGreatDoorLibK
import Derived.Test.YthnmdocmomkekaaGreatDoorScanA
namespace Go.Proofs.YthnmdocmomkekaaGreatDoor
open Go.Lib Go.Ev Go.RowKit
set_option linter.all false
theorem scans_calls {W : World} (hG : GlobOk W (fun _ => .free)) (a : ByteArray) : Calls Tryz.prog 3 #[.string a] W fun e w' => e = .returned (.bool true) ∧ Below W.heap.size W w' := by
  obtain ⟨l, rfl, hl⟩ := ex_bs a
  exact law_calls mixed tabOk (w09_MasterScans_call (scans_pure l) noMem 0) rfl hG (args1 (arg_str l rfl))
end Go.Proofs.YthnmdocmomkekaaGreatDoor
