/-
  JudgeMany, run by the plain machine with 'known' taken as true: where an argument is out of its bounds, whatever the later ones are. No condition.
-/
import Derived.Test.YtlaamopkgopleaaGood
import Derived.Test.YtlaamopkgopleaaXzh
namespace Go.Proofs.Ytlaamopkgopleaa.judgeMany
open Go.XM
set_option linter.unusedVariables false

noncomputable def run (a0 a1 a2 a3 a4 : Int) : Bool := yes (xcall Try.prog (truePrim 12) 60 5 [.int .i64 a0, .int .i64 a1, .int .i64 a2, .int .i64 a3, .int .i64 a4] 0 XS.none)
theorem n0 (k : Nat) (a1 : Int) (a2 : Int) (a3 : Int) (a4 : Int) : run (.negSucc k) a1 a2 a3 a4 = true := by kernel_rfl
theorem p0 (k : Nat) (a1 : Int) (a2 : Int) (a3 : Int) (a4 : Int) : run (.ofNat (k + 5)) a1 a2 a3 a4 = true := by kernel_rfl
theorem n1 (k : Nat) (a2 : Int) (a3 : Int) (a4 : Int) : ((List.range 5).all fun i0 => run (.ofNat i0) (.negSucc k) a2 a3 a4) = true := by kernel_rfl
theorem p1 (k : Nat) (a2 : Int) (a3 : Int) (a4 : Int) : ((List.range 5).all fun i0 => run (.ofNat i0) (.ofNat (k + 4)) a2 a3 a4) = true := by kernel_rfl
theorem n2 (k : Nat) (a3 : Int) (a4 : Int) : ((List.range 5).all fun i0 => ((List.range 4).all fun i1 => run (.ofNat i0) (.ofNat i1) (.negSucc k) a3 a4)) = true := by kernel_rfl
theorem p2 (k : Nat) (a3 : Int) (a4 : Int) : ((List.range 5).all fun i0 => ((List.range 4).all fun i1 => run (.ofNat i0) (.ofNat i1) (.ofNat (k + 4)) a3 a4)) = true := by kernel_rfl
theorem n3 (k : Nat) (a4 : Int) : ((List.range 5).all fun i0 => ((List.range 4).all fun i1 => ((List.range 4).all fun i2 => run (.ofNat i0) (.ofNat i1) (.ofNat i2) (.negSucc k) a4))) = true := by kernel_rfl
theorem p3 (k : Nat) (a4 : Int) : ((List.range 5).all fun i0 => ((List.range 4).all fun i1 => ((List.range 4).all fun i2 => run (.ofNat i0) (.ofNat i1) (.ofNat i2) (.ofNat (k + 5)) a4))) = true := by kernel_rfl
theorem n4 (k : Nat) : ((List.range 5).all fun i0 => ((List.range 4).all fun i1 => ((List.range 4).all fun i2 => ((List.range 5).all fun i3 => run (.ofNat i0) (.ofNat i1) (.ofNat i2) (.ofNat i3) (.negSucc k))))) = true := by kernel_rfl
theorem p4 (k : Nat) : ((List.range 5).all fun i0 => ((List.range 4).all fun i1 => ((List.range 4).all fun i2 => ((List.range 5).all fun i3 => run (.ofNat i0) (.ofNat i1) (.ofNat i2) (.ofNat i3) (.ofNat (k + 4)))))) = true := by kernel_rfl
end Go.Proofs.Ytlaamopkgopleaa.judgeMany
