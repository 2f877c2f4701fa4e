/-
  PlanWants, run by the plain machine, the third argument false. Condition: Laid.
-/
import Derived.Test.YtdbmldhfoifpnaaDoorEA
namespace Go.Proofs.YtdbmldhfoifpnaaDoor
open Go.XM
set_option linter.unusedVariables false
set_option linter.unusedSimpArgs false
noncomputable def wants (a b c : Bool) : Bool := run 8 [.bool a, .bool b, .bool c]
theorem wfalse_falsefalse : wants false false false = true := by kernel_rfl
theorem wfalse_falsetrue : wants false true false = true := by kernel_rfl
theorem wfalse_truefalse : wants true false false = true := by kernel_rfl
theorem wfalse_truetrue : wants true true false = true := by kernel_rfl
end Go.Proofs.YtdbmldhfoifpnaaDoor
