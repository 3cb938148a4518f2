/- ShG, RsI, CutI, CutC, ShU, joined. Condition: each part's own. -/
import Derived.Test.YtcnlfelalgaepaaGreatDoorLibT
import Derived.Test.YtcnlfelalgaepaaGreatDoorShA
import Derived.Test.YtcnlfelalgaepaaGreatDoorRsK
import Derived.Lib.IndexMore
/- The library's answers in the shallow words. Condition: none. -/
namespace Go.Ev
set_option linter.all false
theorem call_giv {T : Tab} {f : FuncId} {g : List AV → Mem → Nat → Option (List AV × Mem)} {args : List AV} {m : Mem} {l : Nat} {r : List AV × Mem} (hg : T.given f = some g) (h : g args m l = some r) : (sem T).call f args m l = some r := by
 apply sem_call
 unfold callBy
 rw [hg]
 exact h
def itoaI (_ : Nat) (n : Int) : Option (List UInt8) := if -9223372036854775808 ≤ n ∧ n ≤ 9223372036854775807 then some (itoaB n).data.toList else none
def atoiI (_ : Nat) (s : List UInt8) : Option (Int × Bool) :=
 if s.length ≤ 281474976710656 then
  some (match Lib.atoiAll s with
  | .ok v => (v, false)
  | .range => (Lib.atoiSat s, true)
  | _ => (0, true))
 else none
def joinI (_ : Nat) (xs : List (List UInt8)) (sep : List UInt8) : Option (List UInt8) := if xs.length ≤ 140737488355328 ∧ (Lib.join xs sep).length ≤ 140737488355328 then some (Lib.join xs sep) else none
def lowerI (_ : Nat) (s : List UInt8) : Option (List UInt8) := if s.length ≤ 140737488355328 then some (s.map lowB) else none
theorem lowerI_call {N : Nat} {s r : List UInt8} (h : lowerI N s = some r) (m : Mem) (lv : Nat) : (sem T).call 135 [.str (bs s)] m lv = some (((fun p => ([.str (bs p)], m)) : _ → List AV × Mem) r) := by
 refine call_giv (g := gLower) rfl ?_
 unfold lowerI at h
 unfold gLower
 simp only
 split at h
 ·rename_i hc
  injection h with h
  subst h
  rw [if_pos (by rw [bs_size]; exact hc)]
  unfold lowerB
  simp only [bs_data]
  rfl
 ·cases h
def pow10I (i : Int) : Option Int := if i.toNat < 20 then some (10 ^ i.toNat) else none
def dbI (i : Int) : Option Int := dB64[i.toNat]?
end Go.Ev
/- Layer 6's numbers and durations in the shallow words. Condition: none. -/
namespace Go.Ev
set_option linter.all false
def onI : Option Nat → Int × Bool
 | some v => ((v : Int), true)
 | none => (0, false)
theorem outN_on (o : Option Nat) : outN o = [.int .i64 (onI o).1, .bool (onI o).2] := by cases o <;> rfl
def numI (_ : Nat) (s : List UInt8) (most : Int) : Option (Int × Bool) := some (onI (numTo s most))
theorem numI_callP {N : Nat} {s : List UInt8} {most : Int} {r : Int × Bool} (h : numI N s most = some r) (m : Mem) (lv : Nat) : (sem T).call 68 [.str (bs s), .int .i64 most] m lv = some (((fun p => ([.int .i64 p.1, .bool p.2], m)) : _ → List AV × Mem) r) := by
 unfold numI at h
 injection h with h
 subst h
 rw [call14, outN_on]
theorem numI_callR {N : Nat} {s : List UInt8} {most : Int} {r : Int × Bool} (h : numI N s most = some r) (m : Mem) (lv : Nat) : (sem T).call 112 [.str (bs s), .int .i64 most] m lv = some (((fun p => ([.int .i64 p.1, .bool p.2], m)) : _ → List AV × Mem) r) := by
 unfold numI at h
 injection h with h
 subst h
 rw [call15, outN_on]
def durI (_ : Nat) (s : List UInt8) : Option (Int × Bool) := if s.length ≤ 140737488355328 then some (onI (durOf s)) else none
theorem durI_callP {N : Nat} {s : List UInt8} {r : Int × Bool} (h : durI N s = some r) (m : Mem) (lv : Nat) : (sem T).call 31 [.str (bs s)] m lv = some (((fun p => ([.int .i64 p.1, .bool p.2], m)) : _ → List AV × Mem) r) := by
 unfold durI at h
 split at h
 ·injection h with h
  subst h
  rw [call16 _ (by assumption), outN_on]
 ·cases h
theorem durI_callR {N : Nat} {s : List UInt8} {r : Int × Bool} (h : durI N s = some r) (m : Mem) (lv : Nat) : (sem T).call 111 [.str (bs s)] m lv = some (((fun p => ([.int .i64 p.1, .bool p.2], m)) : _ → List AV × Mem) r) := by
 unfold durI at h
 split at h
 ·injection h with h
  subst h
  rw [call17, outN_on]
 ·cases h
end Go.Ev
/- strings.Cut in the shallow words. Condition: none. -/
namespace Go.Ev
set_option linter.all false
def cut3I (_ : Nat) (s sep : List UInt8) : Option (List UInt8 × List UInt8 × Bool) := if s.length ≤ 1000000000 then some (Lib.cut s sep) else none
end Go.Ev
/- strings.Cut in the shallow words: its call. Condition: none. -/
namespace Go.Ev
set_option linter.all false
theorem cut3I_call {N : Nat} {s sep : List UInt8} {r : List UInt8 × List UInt8 × Bool} (h : cut3I N s sep = some r) (m : Mem) (lv : Nat) : (sem T).call 155 [.str (bs s), .str (bs sep)] m lv = some (((fun p => ([.str (bs p.1), .str (bs p.2.1), .bool p.2.2], m)) : _ → List AV × Mem) r) := by
 refine call_giv (g := gCut) rfl ?_
 unfold cut3I at h
 unfold gCut
 simp only
 split at h
 ·rename_i hc
  injection h with h
  subst h
  rw [if_pos (by rw [bs_size]; exact hc)]
  simp only [bs_data]
  rfl
 ·cases h
end Go.Ev
/- Room behind lists that are told one by one. Condition: none. -/
namespace Go.Ev
set_option linter.all false
section
variable {γ : Type}
@[simp] theorem room_u1 (x : List AV) (r : List γ) (b : Nat) : room [x] r b = room [()] r b := rfl
@[simp] theorem room_u2 (x y : List AV) (r : List γ) (b : Nat) : room [x, y] r b = room [(), ()] r b := rfl
@[simp] theorem room_u3 (x y z : List AV) (r : List γ) (b : Nat) : room [x, y, z] r b = room [(), (), ()] r b := rfl
end
end Go.Ev
