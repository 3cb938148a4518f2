/- Each Go function that these laws reach, as a Lean function, and that the Go code comes to its answers (turned from texts that print.py wrote). Condition: none. -/
import Derived.Test.YtghhhpcdakdjjaaNetHand
import Derived.Test.YtghhhpcdakdjjaaGNetx0
import Derived.Test.YtghhhpcdakdjjaaGNetx1
import Derived.Test.YtghhhpcdakdjjaaGNetx2
import Derived.Test.YtghhhpcdakdjjaaGNetx3
import Derived.Test.YtghhhpcdakdjjaaGNetx4
import Derived.Test.YtghhhpcdakdjjaaGNetx5
namespace Go.Proofs.Ytghhhpcdakdjjaa.GNet
open Go.RowKit Go.Proofs.YtghhhpcdakdjjaaW.PrintWords Go.Proofs.YtghhhpcdakdjjaaW.PrintLast Go.Proofs.YtghhhpcdakdjjaaW.PrintMore
attribute [local go_sem] max2_int min2_int max_two min_two max_three min_three max_four min_four   -- for this text's walks alone
set_option linter.unusedVariables false
set_option linter.unusedSimpArgs false

end Go.Proofs.Ytghhhpcdakdjjaa.GNet
