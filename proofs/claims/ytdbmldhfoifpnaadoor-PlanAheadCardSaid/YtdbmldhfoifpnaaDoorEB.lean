/-
  PlanAhead, run by the plain machine at every way. Condition: Laid.
-/
import Derived.Test.YtdbmldhfoifpnaaDoorEA
namespace Go.Proofs.YtdbmldhfoifpnaaDoor
open Go.XM
set_option linter.unusedVariables false
set_option linter.unusedSimpArgs false
noncomputable def ahead (way : Int) : Bool := run 6 [.int .i64 way]
theorem aheadN (k : Nat) : ahead (.negSucc k) = true := by kernel_rfl
theorem aheadP (k : Nat) : ahead (.ofNat (k + 5)) = true := by kernel_rfl
theorem ahead0 : ahead (.ofNat 0) = true := by kernel_rfl
theorem ahead1 : ahead (.ofNat 1) = true := by kernel_rfl
theorem ahead2 : ahead (.ofNat 2) = true := by kernel_rfl
theorem ahead3 : ahead (.ofNat 3) = true := by kernel_rfl
theorem ahead4 : ahead (.ofNat 4) = true := by kernel_rfl
theorem ahead_all (way : Int) : ahead way = true := by
  cases way with
  | negSucc k => exact aheadN k
  | ofNat m =>
    rcases Nat.lt_or_ge m 5 with h | h
    · have : m = 0 ∨ m = 1 ∨ m = 2 ∨ m = 3 ∨ m = 4 := by omega
      rcases this with rfl | rfl | rfl | rfl | rfl
      · exact ahead0
      · exact ahead1
      · exact ahead2
      · exact ahead3
      · exact ahead4
    · obtain ⟨k, rfl⟩ : ∃ k, m = k + 5 := ⟨m - 5, by omega⟩
      exact aheadP k
end Go.Proofs.YtdbmldhfoifpnaaDoor
