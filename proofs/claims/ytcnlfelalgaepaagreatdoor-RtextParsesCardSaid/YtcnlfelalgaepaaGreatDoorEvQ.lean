/- The evaluator's values. Condition: none. -/
import Derived.Below
namespace Go.Ev
set_option linter.all false
inductive AV where
 | undef
 | bool (b : Bool)
 | int (k : IntKind) (n : Int)
 | str (s : ByteArray)
 | nilp
 | ptr (l s o : Nat)
 | row (cs : List AV)
 | sl (own : Option TypeId) (sz : Nat) (rows : List (List AV))
 | win (l s o n sz : Nat)
 | asl (l s o n sz : Nat)
 | agg (cs : List AV)
 | tup (vs : List AV)
 | fn (f : FuncId) (caps : List AV)
 | ub
 | glob (g o : Nat)
 | ifc (nn : Bool)
 deriving Inhabited
end Go.Ev
