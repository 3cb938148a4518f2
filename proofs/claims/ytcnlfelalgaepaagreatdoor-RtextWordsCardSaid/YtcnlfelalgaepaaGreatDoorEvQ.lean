/- The evaluator's values. Condition: none. -/
import Derived.Below
namespace Go.Ev
set_option linter.all false

/-- A value as the evaluator has it. 'ptr l s o': cell o of the variable that slot s of the frame at level l made. 'row': the address of cells that nobody writes. 'sl own sz rows': a slice; own: it may be appended to in place (the element's type). 'ub': some bool. 'win l s o n sz': a slice of the variable's cells, from cell o on. 'asl l s o n sz': the same, of a variable that is an array. 'glob g o': cell o of the package's variable g. 'ifc nn': an interface's value, nil or not. -/
inductive AV where
  | undef
  | bool (b : Bool)
  | int (k : IntKind) (n : Int)
  | str (s : ByteArray)
  | nilp
  | ptr (l s o : Nat)
  | row (cs : List AV)
  | sl (own : Option TypeId) (sz : Nat) (rows : List (List AV))
  | win (l s o n sz : Nat)
  | asl (l s o n sz : Nat)
  | agg (cs : List AV)
  | tup (vs : List AV)
  | fn (f : FuncId) (caps : List AV)
  | ub
  | glob (g o : Nat)
  | ifc (nn : Bool)
  deriving Inhabited
end Go.Ev
