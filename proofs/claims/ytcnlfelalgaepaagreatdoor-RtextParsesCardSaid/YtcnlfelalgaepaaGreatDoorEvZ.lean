/- Short names for operations. Condition: none. -/
import Derived.Test.YtcnlfelalgaepaaGreatDoorEvN
namespace Go.Ev
set_option linter.all false
abbrev o1 (p : IOp) (d : Nat) : IOper := ⟨p, some d, none, .any⟩
abbrev o2 (p : IOp) (d g : Nat) (b : Bool) : IOper := ⟨p, some d, some (g, b), .any⟩
abbrev o3 (p : IOp) (d : Nat) (h : H) : IOper := ⟨p, some d, none, h⟩
abbrev o0 (p : IOp) : IOper := ⟨p, none, none, .any⟩
abbrev mv (a d : Nat) : IOper := ⟨.mov (.t a) false, some d, none, .any⟩
abbrev mt (a d : Nat) : IOper := ⟨.mov (.t a) true, some d, none, .any⟩
abbrev mc (c : AV) (d : Nat) : IOper := ⟨.mov (.c c) false, some d, none, .any⟩
abbrev mg (a d g : Nat) (b : Bool) : IOper := ⟨.mov (.t a) false, some d, some (g, b), .any⟩
abbrev ld (a d : Nat) : IOper := ⟨.load (.t a) none false, some d, none, .any⟩
abbrev fa (a o d : Nat) : IOper := ⟨.faddr (.t a) o, some d, none, .any⟩
abbrev ck (a d : Nat) : IOper := ⟨.chk (.t a), some d, none, .any⟩
abbrev ik (n : Int) : AV := .int .i64 n
abbrev xi (n : Int) : X := .c (.int .i64 n)
abbrev xb (n : Int) : X := .c (.int .u8 n)
abbrev sr (l : List IOper) (k : IC) : IC := .seq (.reg l) k
attribute [simp] sr o1 o2 o3 o0 mv mt mc mg ld fa ck ik xi xb
end Go.Ev
