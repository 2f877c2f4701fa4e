/-
  PlanWants, run by the plain machine, the third argument true. Condition: Laid.
-/
import Derived.Test.YtdbmldhfoifpnaaDoorEA
namespace Go.Proofs.YtdbmldhfoifpnaaDoor
open Go.XM
set_option linter.unusedVariables false
set_option linter.unusedSimpArgs false
noncomputable def wants2 (a b c : Bool) : Bool := run 8 [.bool a, .bool b, .bool c]
theorem wtrue_falsefalse : wants2 false false true = true := by kernel_rfl
theorem wtrue_falsetrue : wants2 false true true = true := by kernel_rfl
theorem wtrue_truefalse : wants2 true false true = true := by kernel_rfl
theorem wtrue_truetrue : wants2 true true true = true := by kernel_rfl
end Go.Proofs.YtdbmldhfoifpnaaDoor
