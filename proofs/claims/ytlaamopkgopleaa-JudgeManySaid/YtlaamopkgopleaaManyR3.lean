/-
  JudgeMany, run by the plain machine with 'known' taken as true: where the first argument is 3 and the others are within their bounds. No condition.
-/
import Derived.Test.YtlaamopkgopleaaManyA
namespace Go.Proofs.Ytlaamopkgopleaa.judgeMany
open Go.XM
set_option linter.unusedVariables false

theorem r3_0 : ((List.range 4).all fun i2 => ((List.range 5).all fun i3 => ((List.range 4).all fun i4 => run (.ofNat 3) (.ofNat 0) (.ofNat i2) (.ofNat i3) (.ofNat i4)))) = true := by kernel_rfl
theorem r3_1 : ((List.range 4).all fun i2 => ((List.range 5).all fun i3 => ((List.range 4).all fun i4 => run (.ofNat 3) (.ofNat 1) (.ofNat i2) (.ofNat i3) (.ofNat i4)))) = true := by kernel_rfl
theorem r3_2 : ((List.range 4).all fun i2 => ((List.range 5).all fun i3 => ((List.range 4).all fun i4 => run (.ofNat 3) (.ofNat 2) (.ofNat i2) (.ofNat i3) (.ofNat i4)))) = true := by kernel_rfl
theorem r3_3 : ((List.range 4).all fun i2 => ((List.range 5).all fun i3 => ((List.range 4).all fun i4 => run (.ofNat 3) (.ofNat 3) (.ofNat i2) (.ofNat i3) (.ofNat i4)))) = true := by kernel_rfl
end Go.Proofs.Ytlaamopkgopleaa.judgeMany
