/- AwC, ShL3d, joined. Condition: each part's own. -/
import Derived.Test.YtcnlfelalgaepaaGreatDoorLibT
import Derived.Test.YtcnlfelalgaepaaGreatDoorRsL
import Derived.KernelRfl
import Derived.Test.YtcnlfelalgaepaaGreatDoorShD
/- awake, by the kernel. Condition: none. -/
namespace Go.Ev
set_option linter.all false
theorem aw_run : ((orc T 60).call 11 [] noMem 0).map (·.1) = some [.bool true] := by kernel_rfl
theorem awake_spec : ∃ m, (sem T).call 11 [] noMem 0 = some ([.bool true], m) := by
  obtain ⟨⟨rs, m⟩, h1, h2⟩ := Option.map_eq_some_iff.1 aw_run
  have h2 : rs = [.bool true] := h2
  subst h2
  exact ⟨m, sem_call_iff.2 ⟨60, h1⟩⟩
noncomputable def awM : Mem := awake_spec.choose
def w06_awake (N : Nat) : Option Bool := some true
theorem w06_awake_call {N : Nat} {r : Bool} (h : w06_awake N = some r) : (sem T).call 11 [] noMem 0 = some ([.bool r], awM) := by
  obtain rfl : true = r := by simpa [w06_awake] using h
  exact awake_spec.choose_spec
end Go.Ev
/- Functions as plain Lean. Condition: none. -/
namespace Go.Ev
set_option linter.all false
set_option maxRecDepth 10000
set_option maxHeartbeats 8000000
def w06_RtextWords (N : Nat) (a0 : Int) (a1_0 : Bool) (a1_1 a1_2 : Int) (a1_3 a1_4 a1_5 : List UInt8) (a1_6 a1_7 a1_8 a1_9 a1_10 a1_11 a1_12 : Int) : Option (Bool) :=
 Option.bind (rtext_Words N a0 a1_0 a1_1 a1_2 a1_3 a1_4 a1_5 a1_6 a1_7 a1_8 a1_9 a1_10 a1_11 a1_12) fun r1 =>
 Option.bind (r06_Words N a0 a1_0 a1_1 a1_2 a1_3 a1_4 a1_5 a1_6 a1_7 a1_8 a1_9 a1_10 a1_11 a1_12) fun r2 =>
 Option.bind (rtext_Print N a0 a1_0 a1_1 a1_2 a1_3 a1_4 a1_5 a1_6 a1_7 a1_8 a1_9 a1_10 a1_11 a1_12) fun r3 =>
 Option.bind (r06_Print N a0 a1_0 a1_1 a1_2 a1_3 a1_4 a1_5 a1_6 a1_7 a1_8 a1_9 a1_10 a1_11 a1_12) fun r4 =>
 Option.bind (w06_same N r1.1 r2.1) fun r5 =>
 bif r5 then
  bif eqI r1.2 r2.2 then
   bif eqS r3.1 r4.1 then
    bif eqI r3.2 r4.2 then
     Option.bind (w06_awake N) fun r6 =>
     some r6
    else
     some false
   else
    some false
  else
   some false
 else
  some false
end Go.Ev
