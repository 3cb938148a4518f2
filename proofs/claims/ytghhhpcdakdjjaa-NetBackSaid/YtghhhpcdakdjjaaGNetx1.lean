/- Each Go function that these laws reach, as a Lean function, and that the Go code comes to its answers (turned from texts that print.py wrote). Condition: none. -/
import Derived.Test.YtghhhpcdakdjjaaNetHand
import Derived.Test.YtghhhpcdakdjjaaGNetx0
namespace Go.Proofs.Ytghhhpcdakdjjaa.GNet
open Go.RowKit Go.Proofs.YtghhhpcdakdjjaaW.PrintWords Go.Proofs.YtghhhpcdakdjjaaW.PrintLast Go.Proofs.YtghhhpcdakdjjaaW.PrintMore
attribute [local go_sem] max2_int min2_int max_two min_two max_three min_three max_four min_four   -- for this text's walks alone
set_option linter.unusedVariables false
set_option linter.unusedSimpArgs false

theorem eqA41 (d : Nat) (w : World) (x0 y0 : Bool) (x1 y1 : Int) (x2 y2 : Int) :
    (Op.equalIn (d + 2) 41 (.agg #[.bool x0, .int .u64 x1, .int .u64 x2]) (.agg #[.bool y0, .int .u64 y1, .int .u64 y2])).run Try.prog w = .ok (x0 == y0 && (x1 == y1 && (x2 == y2))) w := by
  refine eqA_of Try.underlying41 (by kernel_rfl) ?_
  refine eqf_cons (by rfl) (by go_simp; rfl) (by go_simp; rfl) (by go_simp) ?_
  refine eqf_cons (by rfl) (by go_simp; rfl) (by go_simp; rfl) (by go_simp) ?_
  exact eqf_last (by rfl) (by go_simp; rfl) (by go_simp; rfl) (by go_simp)
end Go.Proofs.Ytghhhpcdakdjjaa.GNet
