/- A plain machine beside the model, and that what it tells the model does: part Xzh. Conditions: those of each theorem below. -/
import Derived.Test.YtlaamopkgopleaaXzg
namespace Go.XM
set_option linter.unusedVariables false
set_option linter.unusedSimpArgs false
open Go.RowKit
set_option linter.unusedVariables false

section
variable {P : Program}

/-- a function that is known, run by itself: what it answers, read out -/
noncomputable def prun (P : Program) (prim : XPrim) (n : Nat) (f : FuncId) (t : Bool) (args : List XV) : Option XV :=
  match xcall P prim n f args 0 XS.none with
  | some (v, S) => hard t S 50 v
  | none => none

/-- what a run of plain data tells, the function does -/
theorem pure_of (hm : P.follows .mixedOrders = true) (hg : goodAll P = true) {prim : XPrim} (hp : PrimOK P prim) {f : FuncId} {F : List XV → Option XV}
    (h : ∀ args v, F args = some v → ∃ n t, prun P prim n f t args = some v) : Pure P f F := by
  intro args v hF z w args' hok hzc hargs
  obtain ⟨n, t, hr⟩ := h args v hF
  unfold prun at hr
  split at hr
  case h_2 => cases hr
  case h_1 v0 S' hx =>
  have hc := (xcalls (B := w.heap.size) (w0 := w) hm hp (goodProg_of hg prim) n f args 0 XS.none _ _ hx).2 (embZ z) w args' (rel_none w hok hzc) (Nat.zero_le _) (DRs.vr (ρ := embZ z) hargs)
  refine hc.mono ?_
  rintro e w' ⟨u, ρ', W, rfl, q1, q2, q3, _⟩
  have hbel : Below w.heap.size w w' := q2.below
  have hk : ∀ r o, r < w.heap.size → w'.cell? ⟨r, o, none⟩ = w.cell? ⟨r, o, none⟩ := fun r o hr => World.cell?_of_block (w := w) (a := ⟨r, o, none⟩) (hbel.block r hr)
  let z' : ZMap := fun t r o => if r < w.heap.size then z t r o else w'.cell? ⟨r, o, none⟩
  have hold : ∀ t r o v, ρ'.z t r o = some v → z' t r o = some v := fun t r o v q => by
    simp only [z']
    split
    · rename_i hlt; exact q3.zold t r o v q hlt
    · exact q2.fz.zc _ _ _ _ q
  refine ⟨u, z', rfl, fun t r o v q => ?_, fun r o v q => ?_, fun t r o v q => ?_, fun t r o v q hlt => ?_, ?_, hbel⟩
  · have hlt := cell_lt (hzc _ _ _ _ q)
    simp only [z']
    rw [if_pos hlt]; exact q
  · simp only [z'] at q ⊢
    split
    · rename_i hlt; rw [if_pos hlt] at q; exact hok _ _ _ q
    · rename_i hlt; rw [if_neg hlt] at q; exact q
  · simp only [z'] at q
    split at q
    · rename_i hlt; rw [hk r o hlt]; exact hzc _ _ _ _ q
    · exact q
  · simp only [z'] at q
    rw [if_pos hlt] at q
    exact q
  · refine hard_dr q2 (fun t r o v q => hold t r o v q) (fun b e he hB o v q => ?_) 50 v0 v u hr q1
    simp only [z']
    rw [if_neg (by omega)]
    exact q

/-- a function without arguments that is known to answer true -/
def truePrim (f0 : FuncId) : XPrim := ⟨fun f => if f = f0 then some (fun args => match args with | [] => some (.bool true) | _ => none) else none, fun _ _ => none⟩

theorem hard_bool (t : Bool) (S : XS) (b : Bool) : hard t S 50 (.bool b) = some (.bool b) := rfl

theorem primOK_true (hm : P.follows .mixedOrders = true) (hg : goodAll P = true) {n : Nat} {f0 : FuncId} (hx : yes (xcall P noPrim n f0 [] 0 XS.none) = true) : PrimOK P (truePrim f0) := by
  intro f g hfg
  unfold truePrim at hfg
  simp only at hfg
  split at hfg
  · rename_i h
    subst h
    injection hfg with hfg
    subst hfg
    refine pure_of hm hg primOK_none fun args v hv => ?_
    split at hv
    · injection hv with hv
      subst hv
      obtain ⟨S', h⟩ := yes_spec hx
      exact ⟨n, false, by unfold prun; rw [h]; exact hard_bool _ _ _⟩
    · cases hv
  · cases hfg

/-- all that is there now -/
def snap (w : World) : ZMap := fun _ r o => w.cell? ⟨r, o, none⟩

/-- a law that answers true -/
theorem calls_law {prim : XPrim} (hm : P.follows .mixedOrders = true) (hg : goodAll P = true) (hp : PrimOK P prim) {n : Nat} {f : FuncId} {args : List XV} (hx : yes (xcall P prim n f args 0 XS.none) = true)
    {args' : List Value} (w : World) (hv : DRs (snap w) args args') : Calls P f args'.toArray w fun e w' => e = .returned (.bool true) ∧ Below w.heap.size w w' := by
  obtain ⟨S', h⟩ := yes_spec hx
  have h := (xcalls (B := w.heap.size) (w0 := w) hm hp (goodProg_of hg prim) n f args 0 XS.none _ _ h).2 (embZ (snap w)) w args' (rel_none w (fun _ _ _ q => q) (fun _ _ _ _ q => q)) (Nat.zero_le _) (DRs.vr (ρ := embZ (snap w)) hv)
  refine h.mono ?_
  rintro e w' ⟨u, ρ', W, rfl, q1, q2, _, _⟩
  cases q1
  exact ⟨rfl, q2.below⟩

end
end Go.XM
