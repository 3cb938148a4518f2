/- From the evaluator's answers to the calls: tools; Quotes. Condition: none. -/
import Derived.Test.YtkpfaedepmgflaaGreatDoorRtX
import Derived.Test.YtkpfaedepmgflaaGreatDoorRtQ
namespace Go.Proofs.YtkpfaedepmgflaaGreatDoor
open Go.Lib Go.Ev Go.RowKit
set_option linter.all false
theorem mixed : Tryz.prog.follows .mixedOrders = true := by kernel_rfl
theorem arg_str {w : World} (l : List UInt8) {s : ByteArray} (h : s = bs l) : ArgOk w (.str (bs l)) (.string s) := by subst h; exact ⟨.str _, rfl, data_noFlag rfl⟩
theorem arg_int {w : World} (k : IntKind) (n : Int) : ArgOk w (.int k n) (.int k n) := ⟨.int _ _, rfl, data_noFlag rfl⟩
theorem tabOk : TabOk Tryz.prog T := Go.Proofs.tab_ok Go.Proofs.nats_ok
theorem quotes_calls {W : World} (hG : GlobOk W (fun _ => .free)) (a : ByteArray) {H : Type} (hB : Rows.uptoBulkAll ([DataW.lit (H := H) (.string a.data.toList)] ++ []) ≤ 1048576) : Calls Tryz.prog 3 #[.string a] W fun e w' => e = .returned (.bool true) ∧ Below W.heap.size W w' := by
  obtain ⟨l, rfl, hl⟩ := ex_bs a
  have hz : l.length ≤ 17592186044416 := by
    simp [Rows.uptoBulkAll, Rows.uptoBulk] at hB
    omega
  obtain ⟨m, h⟩ := quotes_spec l hz
  exact law_calls mixed tabOk h rfl hG (args1 (arg_str l rfl))
end Go.Proofs.YtkpfaedepmgflaaGreatDoor
