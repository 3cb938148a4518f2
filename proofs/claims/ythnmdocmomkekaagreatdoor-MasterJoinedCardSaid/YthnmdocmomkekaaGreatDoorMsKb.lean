/- MasterLines and MasterJoined: from the plain laws to the calls. Condition: none. -/
import Derived.Test.YthnmdocmomkekaaGreatDoorLibK
import Derived.Test.YthnmdocmomkekaaGreatDoorScanB
namespace Go.Proofs.YthnmdocmomkekaaGreatDoor
open Go.Lib Go.Ev Go.RowKit
set_option linter.all false
theorem lines_calls {W : World} (hG : GlobOk W (fun _ => .free)) (a : ByteArray) (w : a.size ≤ 140737488351232) : Calls Tryz.prog 7 #[.string a] W fun e w' => e = .returned (.bool true) ∧ Below W.heap.size W w' := by
  obtain ⟨l, rfl, hl⟩ := ex_bs a
  exact law_calls mixed tabOk (w09_MasterLines_call (lines_pure l (by omega)) noMem 0) rfl hG (args1 (arg_str l rfl))
theorem joined_calls {W : World} (hG : GlobOk W (fun _ => .free)) (a b : ByteArray) (w : a.size ≤ 140737488351232) (w2 : b.size ≤ 140737488351232) : Calls Tryz.prog 8 #[.string a, .string b] W fun e w' => e = .returned (.bool true) ∧ Below W.heap.size W w' := by
  obtain ⟨l, rfl, hl⟩ := ex_bs a
  obtain ⟨l2, rfl, hl2⟩ := ex_bs b
  exact law_calls mixed tabOk (w09_MasterJoined_call (joined_pure l l2 (by omega) (by omega)) noMem 0) rfl hG (args2 (arg_str l rfl) (arg_str l2 rfl))
end Go.Proofs.YthnmdocmomkekaaGreatDoor
