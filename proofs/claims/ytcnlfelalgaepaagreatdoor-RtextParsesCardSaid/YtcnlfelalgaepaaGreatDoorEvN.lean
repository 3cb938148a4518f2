/- Functions that ask once whether a slice is nil: what they answer either way (slices.Clone). Condition: named in forkBy. -/
import Derived.Test.YtcnlfelalgaepaaGreatDoorEvL
namespace Go.Ev
set_option linter.all false
open Go.RowKit
structure Fork where
 F : IFunc
 a : IC
 b : IC
 q : Nat
 c : IC
 d : IC
 deriving Inhabited
def noO : Orc := { call := fun _ _ _ _ => none, carry := fun _ _ _ _ => none, loop := fun _ _ _ _ => none }
def sameRes : List AV → List AV → Bool
 | [.sl o z []], [.sl o' z' []] => decide (o = o' ∧ z = z')
 | _, _ => false
def leaveC (F : IFunc) (lv : Nat) (r : Option (Fl × St)) : Option (List AV × Mem) :=
 match r with
 | some (.ret, s) => leave F lv (some (.ret, s))
 | _ => none
def forkEnd (F : Fork) (lv : Nat) (s : St) : Option (List AV × Mem) :=
 match s.tm F.q with
 | .bool true => leaveC F.F lv (evC noO F.c s)
 | .bool false => leave F.F lv (evC noO F.d s)
 | .ub =>
   match leaveC F.F lv (evC noO F.c s), leave F.F lv (evC noO F.d s) with
   | some r, some r' => if sameRes r.1 r'.1 then some r else none
   | _, _ => none
 | _ => none
def forkBy (F : Fork) (args : List AV) (low : Mem) (lv : Nat) : Option (List AV × Mem) :=
 if lv = 0 ∧ args.length = F.F.np then
  match evC noO F.a (enter F.F args low lv) with
  | some (.norm, s0) =>
    match evC noO F.b s0 with
    | some (.norm, s1) => forkEnd F lv s1
    | _ => none
  | _ => none
 else none
structure ForkOk (P : Program) (f : FuncId) (F : Fork) : Prop where
 ex : ∃ fn A B C D, P.funcs[f]? = some fn ∧ fn.body = some (.seq A (.seq (.seq B (.cond (.tmp F.q) C .skip)) D)) ∧ (fn.name == "runtime.NumGoroutine") = false ∧ fn.ntmps = F.F.n ∧ F.F.np ≤ F.F.n ∧ CodeOk P F.F.n F.a A ∧ CodeOk P F.F.n F.b B ∧ CodeOk P F.F.n F.c C ∧ CodeOk P F.F.n F.d D ∧
  F.F.results.length = fn.results.size ∧ ∀ (i : Nat) rv r, F.F.results[i]? = some rv → fn.results[i]? = some r → ResOk P rv r
def cFork4 (P : Program) (n : Nat) (g : Nat → H) (A0 : Ann) (A B C D : Code) : Option (IC × IC × IC × IC) :=
 match cCode P n g A0 A, cCode P n g A0 B with
 | some a, some b =>
   match cCode P n g A0 C, cCode P n g A0 D with
   | some c, some d => some (a, b, c, d)
   | _, _ => none
 | _, _ => none
def cFork (P : Program) (A0 : Ann) (fn : Func) : Option Fork :=
 if (fn.name == "runtime.NumGoroutine") = false ∧ fn.params.size + fn.nfree ≤ fn.ntmps then
  match fn.body with
  | some (.seq A (.seq (.seq B (.cond (.tmp q) C .skip)) D)) =>
    match cFork4 P fn.ntmps (hintAt (codeMks P (.seq A (.seq (.seq B (.cond (.tmp q) C .skip)) D))) (fn.params.size + fn.nfree) 8) A0 A B C D with
    | some r =>
      match cRes P fn.results.toList with
      | some rs => some ⟨⟨fn.ntmps, fn.params.size + fn.nfree, rs, .skip⟩, r.1, r.2.1, q, r.2.2.1, r.2.2.2⟩
      | none => none
    | none => none
  | _ => none
 else none
end Go.Ev
