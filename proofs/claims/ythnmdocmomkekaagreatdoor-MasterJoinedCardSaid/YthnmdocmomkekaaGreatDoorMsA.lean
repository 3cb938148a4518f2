/- awake, by the kernel. Condition: none. -/
import Derived.Test.YthnmdocmomkekaaGreatDoorTab
import Derived.Test.YthnmdocmomkekaaGreatDoorShA
import Derived.KernelRfl
namespace Go.Ev
set_option linter.all false
theorem aw_run : ((orc T 60).call 13 [] noMem 0).map (·.1) = some [.bool true] := by kernel_rfl
theorem awake_spec : ∃ m, (sem T).call 13 [] noMem 0 = some ([.bool true], m) := by
  obtain ⟨⟨rs, m⟩, h1, h2⟩ := Option.map_eq_some_iff.1 aw_run
  have h2 : rs = [.bool true] := h2
  subst h2
  exact ⟨m, sem_call_iff.2 ⟨60, h1⟩⟩
noncomputable def awM : Mem := awake_spec.choose
def w09_awake (N : Nat) : Option Bool := some true
theorem w09_awake_call {N : Nat} {r : Bool} (h : w09_awake N = some r) : (sem T).call 13 [] noMem 0 = some ([.bool r], awM) := by
  obtain rfl : true = r := by simpa [w09_awake] using h
  exact awake_spec.choose_spec
end Go.Ev
