/- AwC, ShL4d, joined. Condition: each part's own. -/
import Derived.Test.YtcnlfelalgaepaaGreatDoorLibT
import Derived.Test.YtcnlfelalgaepaaGreatDoorRsL
import Derived.KernelRfl
import Derived.Test.YtcnlfelalgaepaaGreatDoorShD
/- awake, by the kernel. Condition: none. -/
namespace Go.Ev
set_option linter.all false
theorem aw_run : ((orc T 60).call 11 [] noMem 0).map (·.1) = some [.bool true] := by kernel_rfl
theorem awake_spec : ∃ m, (sem T).call 11 [] noMem 0 = some ([.bool true], m) := by
 obtain ⟨⟨rs, m⟩, h1, h2⟩ := Option.map_eq_some_iff.1 aw_run
 have h2 : rs = [.bool true] := h2
 subst h2
 exact ⟨m, sem_call_iff.2 ⟨60, h1⟩⟩
noncomputable def awM : Mem := awake_spec.choose
def w06_awake (N : Nat) : Option Bool := some true
theorem w06_awake_call {N : Nat} {r : Bool} (h : w06_awake N = some r) : (sem T).call 11 [] noMem 0 = some ([.bool r], awM) := by
 obtain rfl : true = r := by simpa [w06_awake] using h
 exact awake_spec.choose_spec
end Go.Ev
/- Functions as plain Lean. Condition: none. -/
namespace Go.Ev
set_option linter.all false
set_option maxRecDepth 10000
set_option maxHeartbeats 8000000
def w06_RtextParses (N : Nat) (a0 : Int) (a1 : List (List UInt8)) (a2 : List UInt8) : Option (Bool) :=
 Option.bind (rtext_Parse N a0 a1 a2) fun r1 =>
 Option.bind (r06_Parse N a0 a1 a2) fun r2 =>
 bif r1.1 then
 bif r2.1 then
 bif eqI r1.2.1 r2.2.1 then
 bif eqI r1.2.2.1 r2.2.2.1 then
 bif eqS r1.2.2.2.1 r2.2.2.2.1 then
 bif eqS r1.2.2.2.2.1 r2.2.2.2.2.1 then
 bif eqS r1.2.2.2.2.2.1 r2.2.2.2.2.2.1 then
 bif eqI r1.2.2.2.2.2.2.1 r2.2.2.2.2.2.2.1 then
 bif eqI r1.2.2.2.2.2.2.2.1 r2.2.2.2.2.2.2.2.1 then
 bif eqI r1.2.2.2.2.2.2.2.2.1 r2.2.2.2.2.2.2.2.2.1 then
 bif eqI r1.2.2.2.2.2.2.2.2.2.1 r2.2.2.2.2.2.2.2.2.2.1 then
 bif eqI r1.2.2.2.2.2.2.2.2.2.2.1 r2.2.2.2.2.2.2.2.2.2.2.1 then
 bif eqI r1.2.2.2.2.2.2.2.2.2.2.2.1 r2.2.2.2.2.2.2.2.2.2.2.2.1 then
 bif eqI r1.2.2.2.2.2.2.2.2.2.2.2.2.1 r2.2.2.2.2.2.2.2.2.2.2.2.2.1 then
 bif eqI r1.2.2.2.2.2.2.2.2.2.2.2.2.2 r2.2.2.2.2.2.2.2.2.2.2.2.2.2 then
 Option.bind (w06_awake N) fun r3 =>
 some r3
 else
 some false
 else
 some false
 else
 some false
 else
 some false
 else
 some false
 else
 some false
 else
 some false
 else
 some false
 else
 some false
 else
 some false
 else
 some false
 else
 some false
 else
 some false
 else
 some false
 else
 bif r2.1 then
 some false
 else
 bif eqI r1.2.1 r2.2.1 then
 bif eqI r1.2.2.1 r2.2.2.1 then
 bif eqS r1.2.2.2.1 r2.2.2.2.1 then
 bif eqS r1.2.2.2.2.1 r2.2.2.2.2.1 then
 bif eqS r1.2.2.2.2.2.1 r2.2.2.2.2.2.1 then
 bif eqI r1.2.2.2.2.2.2.1 r2.2.2.2.2.2.2.1 then
 bif eqI r1.2.2.2.2.2.2.2.1 r2.2.2.2.2.2.2.2.1 then
 bif eqI r1.2.2.2.2.2.2.2.2.1 r2.2.2.2.2.2.2.2.2.1 then
 bif eqI r1.2.2.2.2.2.2.2.2.2.1 r2.2.2.2.2.2.2.2.2.2.1 then
 bif eqI r1.2.2.2.2.2.2.2.2.2.2.1 r2.2.2.2.2.2.2.2.2.2.2.1 then
 bif eqI r1.2.2.2.2.2.2.2.2.2.2.2.1 r2.2.2.2.2.2.2.2.2.2.2.2.1 then
 bif eqI r1.2.2.2.2.2.2.2.2.2.2.2.2.1 r2.2.2.2.2.2.2.2.2.2.2.2.2.1 then
 bif eqI r1.2.2.2.2.2.2.2.2.2.2.2.2.2 r2.2.2.2.2.2.2.2.2.2.2.2.2.2 then
 Option.bind (w06_awake N) fun r4 =>
 some r4
 else
 some false
 else
 some false
 else
 some false
 else
 some false
 else
 some false
 else
 some false
 else
 some false
 else
 some false
 else
 some false
 else
 some false
 else
 some false
 else
 some false
 else
 some false
end Go.Ev
