/- Numbers: the law, and its call. Condition: none. -/
import Derived.Test.YtkpfaedepmgflaaGreatDoorRtKa
import Derived.Test.YtkpfaedepmgflaaGreatDoorRtE
import Derived.Test.YtkpfaedepmgflaaGreatDoorRtS
namespace Go.Ev
set_option linter.all false
theorem numbers_spec (l : List UInt8) (hl : l.length ≤ 140737488355328) (most : Int) : ∃ m, (sem T).call 4 [.str (bs l), .int .i64 most] noMem 0 = some ([.bool true], m) := by
  obtain ⟨m0, haw⟩ := awake_spec
  have h14 := call14 l most
  have h15 := call15 l most
  have h16 := call16 l hl
  have h17 := call17 l
  have h18 := call18 most
  have h19 := call19 most
  refine ⟨noMem, call_go rfl rfl rfl ?_⟩
  cases ha : numTo l most <;> cases hb : durOf l <;> simp only [ha, hb, outN] at h14 h15 h16 h17 <;> simp [F4, h14, h15, h16, h17, h18, h19, haw]
end Go.Ev
namespace Go.Proofs.YtkpfaedepmgflaaGreatDoor
open Go.Lib Go.Ev Go.RowKit
theorem numbers_calls {W : World} (hG : GlobOk W (fun _ => .free)) (a : ByteArray) (ha : a.size ≤ 140737488351232) (n : Int) : Calls Tryz.prog 4 #[.string a, .int .i64 n] W fun e w' => e = .returned (.bool true) ∧ Below W.heap.size W w' := by
  obtain ⟨l, rfl, hl⟩ := ex_bs a
  obtain ⟨m, h⟩ := numbers_spec l (by omega) n
  exact law_calls mixed tabOk h rfl hG (args2 (arg_str l rfl) (arg_int .i64 n))
end Go.Proofs.YtkpfaedepmgflaaGreatDoor
