/- Quoted: the call. Condition: none. -/
import Derived.Test.YtkpfaedepmgflaaGreatDoorRtKa
import Derived.Test.YtkpfaedepmgflaaGreatDoorRtU
namespace Go.Proofs.YtkpfaedepmgflaaGreatDoor
open Go.Lib Go.Ev Go.RowKit
set_option linter.all false
theorem quoted_calls {W : World} (hG : GlobOk W (fun _ => .free)) (a : ByteArray) {H : Type} (hB : Rows.uptoBulkAll ([DataW.lit (H := H) (.string a.data.toList)] ++ []) ≤ 1048576) : Calls Tryz.prog 9 #[.string a] W fun e w' => e = .returned (.bool true) ∧ Below W.heap.size W w' := by
  obtain ⟨l, rfl, hl⟩ := ex_bs a
  have hz : l.length ≤ 17592186044416 := by
    simp [Rows.uptoBulkAll, Rows.uptoBulk] at hB
    omega
  obtain ⟨m, h⟩ := quoted_spec l hz
  exact law_calls mixed tabOk h rfl hG (args1 (arg_str l rfl))
end Go.Proofs.YtkpfaedepmgflaaGreatDoor
