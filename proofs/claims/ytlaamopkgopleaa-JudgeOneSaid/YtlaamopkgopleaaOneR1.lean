/-
  JudgeOne, run by the plain machine with 'known' taken as true: where the first argument is 1 and the others are within their bounds. No condition.
-/
import Derived.Test.YtlaamopkgopleaaOneA
namespace Go.Proofs.Ytlaamopkgopleaa.judgeOne
open Go.XM
set_option linter.unusedVariables false

theorem r1 : ((List.range 3).all fun j => [true, false].all fun b => (List.range 3).all fun l => run (.ofNat 1) (.ofNat j) b (.ofNat l)) = true := by kernel_rfl
end Go.Proofs.Ytlaamopkgopleaa.judgeOne
