/- Each Go function that these laws reach, as a Lean function, and that the Go code comes to its answers (turned from texts that print.py wrote). Condition: none. -/
import Derived.Test.YtghhhpcdakdjjaaNetHand
import Derived.Test.YtghhhpcdakdjjaaGNetx0
import Derived.Test.YtghhhpcdakdjjaaGNetx1
namespace Go.Proofs.Ytghhhpcdakdjjaa.GNet
open Go.RowKit Go.Proofs.YtghhhpcdakdjjaaW.PrintWords Go.Proofs.YtghhhpcdakdjjaaW.PrintLast Go.Proofs.YtghhhpcdakdjjaaW.PrintMore
attribute [local go_sem] max2_int min2_int max_two min_two max_three min_three max_four min_four   -- for this text's walks alone
set_option linter.unusedVariables false
set_option linter.unusedSimpArgs false

theorem eqA48 (d : Nat) (w : World) (x0 y0 : Bool) (x1 y1 : Int) (x2 y2 : Int) (x3 y3 : Bool) (x4 y4 : Int) (x5 y5 : Int) (x6 y6 : ByteArray) :
    (Op.equalIn (d + 3) 48 (.agg #[.bool x0, .int .u64 x1, .int .u64 x2, .bool x3, .int .u64 x4, .int .u64 x5, .string x6]) (.agg #[.bool y0, .int .u64 y1, .int .u64 y2, .bool y3, .int .u64 y4, .int .u64 y5, .string y6])).run Try.prog w = .ok ((x0 == y0 && (x1 == y1 && (x2 == y2))) && ((x3 == y3 && (x4 == y4 && (x5 == y5))) && (x6.toList == y6.toList))) w := by
  refine eqA_of Try.underlying48 (by kernel_rfl) ?_
  refine eqf_cons (by rfl) (by go_simp) (by go_simp) (eqA41 (d + 0) w _ _ _ _ _ _) ?_
  refine eqf_cons (by rfl) (by go_simp) (by go_simp) (eqA41 (d + 0) w _ _ _ _ _ _) ?_
  exact eqf_last (by rfl) (by go_simp; rfl) (by go_simp; rfl) (by go_simp)
end Go.Proofs.Ytghhhpcdakdjjaa.GNet
