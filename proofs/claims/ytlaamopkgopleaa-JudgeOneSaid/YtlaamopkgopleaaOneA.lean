/-
  JudgeOne, run by the plain machine with 'known' taken as true: where an argument is out of its bounds, whatever the others are. No condition.
-/
import Derived.Test.YtlaamopkgopleaaGood
import Derived.Test.YtlaamopkgopleaaXzh
namespace Go.Proofs.Ytlaamopkgopleaa.judgeOne
open Go.XM
set_option linter.unusedVariables false

noncomputable def run (a0 a1 : Int) (a2 : Bool) (a3 : Int) : Bool := yes (xcall Try.prog (truePrim 12) 60 4 [.int .i64 a0, .int .i64 a1, .bool a2, .int .i64 a3] 0 XS.none)
theorem o1 (k : Nat) (a1 : Int) (a2 : Bool) (a3 : Int) : run (.negSucc k) a1 a2 a3 = true := by kernel_rfl
theorem o2 (k : Nat) (a1 : Int) (a2 : Bool) (a3 : Int) : run (.ofNat (k + 4)) a1 a2 a3 = true := by kernel_rfl
theorem o3 (k : Nat) (a2 : Bool) (a3 : Int) : ((List.range 4).all fun i => run (.ofNat i) (.negSucc k) a2 a3) = true := by kernel_rfl
theorem o4 (k : Nat) (a2 : Bool) (a3 : Int) : ((List.range 4).all fun i => run (.ofNat i) (.ofNat (k + 3)) a2 a3) = true := by kernel_rfl
theorem o5 (k : Nat) (a2 : Bool) : ((List.range 4).all fun i => (List.range 3).all fun j => run (.ofNat i) (.ofNat j) a2 (.negSucc k)) = true := by kernel_rfl
theorem o6 (k : Nat) (a2 : Bool) : ((List.range 4).all fun i => (List.range 3).all fun j => run (.ofNat i) (.ofNat j) a2 (.ofNat (k + 3))) = true := by kernel_rfl
end Go.Proofs.Ytlaamopkgopleaa.judgeOne
