/- A plain machine beside the model, and that what it tells the model does: part Xzh. Conditions: those of each theorem below. -/
import Derived.Test.YtlaamopkgopleaaXzg
namespace Go.XM
open Go.RowKit
set_option linter.unusedVariables false

section
variable {P : Program}

/-- a function without arguments that is known to answer true -/
def truePrim (f0 : FuncId) : XPrim := fun f => if f = f0 then some (fun args _ => match args with | [] => some (.bool true) | _ => none) else none

theorem primOK_true (hm : P.follows .mixedOrders = true) (hg : goodAll P = true) {n : Nat} {f0 : FuncId} (hx : yes (xcall P noPrim n f0 [] 0 XS.none) = true) {B : Nat} {w0 : World} : PrimOK P B w0 (truePrim f0) := by
  intro f g hfg args S v hv ρ w args' hr hargs
  unfold truePrim at hfg
  split at hfg
  · rename_i h
    subst h
    injection hfg with hfg
    subst hfg
    cases hargs with
    | nil =>
      simp only [Option.some.injEq] at hv
      subst hv
      refine (calls_true hm hg hx (args' := []) .nil w).mono ?_
      rintro e w' ⟨rfl, hb⟩
      exact ⟨_, rfl, .bool true, hb⟩
    | cons _ _ _ _ _ _ => cases hv
  · cases hfg

theorem calls_trueP {prim : XPrim} (hm : P.follows .mixedOrders = true) (hg : goodAll P = true) (hp : ∀ B w0, PrimOK P B w0 prim) {n : Nat} {f : FuncId} {args : List XV} (hx : yes (xcall P prim n f args 0 XS.none) = true)
    {args' : List Value} (hv : VRs (fun _ => none) args args') (w : World) : Calls P f args'.toArray w fun e w' => e = .returned (.bool true) ∧ Below w.heap.size w w' := by
  obtain ⟨S', h⟩ := yes_spec hx
  have h := (xcalls (B := w.heap.size) (w0 := w) hm (hp _ _) (goodProg_of hg prim) n f args 0 XS.none _ _ h).2 _ w args' (rel_none w) (Nat.zero_le _) hv
  refine h.mono ?_
  rintro e w' ⟨u, ρ', W, rfl, q1, q2, _, _⟩
  cases q1
  exact ⟨rfl, q2.below⟩

end
end Go.XM
