/- awake, by the kernel; small tools. Condition: none. -/
import Derived.Test.YtkpfaedepmgflaaGreatDoorRtL
import Derived.Test.YtkpfaedepmgflaaGreatDoorRtB
namespace Go.Ev
set_option linter.all false
theorem aw13 : ((orc T 60).call 13 [] noMem 0).map (·.1) = some [.bool true] := by kernel_rfl
theorem awake_spec : ∃ m, (sem T).call 13 [] noMem 0 = some ([.bool true], m) := by
  obtain ⟨⟨rs, m⟩, h1, h2⟩ := Option.map_eq_some_iff.1 aw13
  have h2 : rs = [.bool true] := h2
  subst h2
  exact ⟨m, sem_call_iff.2 ⟨60, h1⟩⟩
end Go.Ev
