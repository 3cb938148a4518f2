/- slices.Delete of one element: the steps of its text. Condition: named in each. -/
import Derived.Test.YtcnlfelalgaepaaGreatDoorEvT
import Derived.ArgAppend
import Derived.Below
namespace Go.Ev
set_option linter.all false
open Go.RowKit
section
variable {P : Program} {ops : Array Oper} {o : Oper} {a : Act} {Q : Exit → Act → World → Prop} {Kc : Act → World → Prop}
end
end Go.Ev
