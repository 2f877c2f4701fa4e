/-
  The code of this seat's program is of the kind that the plain machine tells (which operations of a region come ahead of which, who looks at what). No condition.
-/
import Derived.Test.YtlaamopkgopleaaRows
import Derived.Test.YtlaamopkgopleaaXzg
namespace Go.Proofs.Ytlaamopkgopleaa

theorem good : Go.XM.goodAll Try.prog = true := by decide +kernel

end Go.Proofs.Ytlaamopkgopleaa
