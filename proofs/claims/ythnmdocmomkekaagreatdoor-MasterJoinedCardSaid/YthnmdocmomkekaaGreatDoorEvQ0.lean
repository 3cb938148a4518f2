/- The package's variables that hold something known: strconv's errors, the powers of ten. Condition: none. -/
import Derived.Test.YthnmdocmomkekaaGreatDoorEvQ
namespace Go.Ev
set_option linter.all false
/-- What cell o of the package's variable g holds. -/
def glob (g o : Nat) : Option AV :=
  match g with
  | 4 | 5 => if o = 0 then some (.ifc true) else none
  | 1 => if o < 20 then some (.int .u64 (10 ^ o)) else none
  | _ => none
/-- How many cells it has. -/
def globN (g : Nat) : Option Nat := if g = 1 then some 20 else none
end Go.Ev
