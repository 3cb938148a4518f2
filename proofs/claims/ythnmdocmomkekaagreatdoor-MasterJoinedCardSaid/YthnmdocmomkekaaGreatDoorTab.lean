/- The table of functions: those that are turned, and what is answered for the library's. Condition: none. -/
import Derived.Test.YthnmdocmomkekaaGreatDoorMsG
import Derived.Test.YthnmdocmomkekaaGreatDoorLibD
namespace Go.Ev
set_option linter.all false
def givens (f : FuncId) : Option (List AV → Mem → Nat → Option (List AV × Mem)) :=
  match f with
  | 132 => some gAtoi
  | 69 => some gItoa
  | 107 => some gJoin
  | 86 => some gLower
  | _ => none
def T : Tab := { fns := fns, given := givens }
end Go.Ev
