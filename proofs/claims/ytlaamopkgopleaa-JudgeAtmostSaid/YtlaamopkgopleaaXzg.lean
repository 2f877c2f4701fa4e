/- A plain machine beside the model, and that what it tells the model does: part Xzg. Conditions: those of each theorem below. -/
import Derived.Test.YtlaamopkgopleaaXzf
import Derived.ChangeOld
import Derived.ChangeSame
import Derived.Eval
namespace Go.XM
set_option linter.unusedVariables false
set_option linter.unusedSimpArgs false
open Go.RowKit Go.ChangeShapes Go.WideShapes
set_option linter.unusedVariables false

section
variable {P : Program}

theorem primOK_none : PrimOK P noPrim := fun f g h => by cases h

def goodAll (P : Program) : Bool := P.funcs.toList.all fun fn => match fn.body with
  | some c => goodCode goodDraw fn.ntmps c
  | none => true

theorem goodProg_of (h : goodAll P = true) (prim : XPrim) : GoodProg P prim goodDraw := fun f fn c hf hc _ => by
  have := List.all_eq_true.1 h fn (List.mem_of_getElem? (i := f) (by rw [Array.getElem?_toList]; exact hf))
  rw [hc] at this
  exact this

/-- no block, and memory that stays -/
def embZ (z : ZMap) : Emb := ⟨fun _ => none, z⟩
def zNone : ZMap := fun _ _ _ => none

theorem rel_none (w : World) {z : ZMap} (hok : z.ok) (hz : ∀ t r o v, z t r o = some v → w.cell? ⟨r, o, none⟩ = some v) : Rel w.heap.size w (embZ z) XS.none w where
  below := Below.refl _ _
  Bw := Nat.le_refl _
  dom := fun b e h => by cases h
  blk := fun b e h => by cases h
  inj := fun b b' e e' h => by cases h
  lt := fun b e h => by cases h
  fz := ⟨hok, hz, fun b e h => by cases h⟩

theorem rel_nil (w : World) : Rel w.heap.size w (embZ zNone) XS.none w := rel_none w (fun _ _ _ h => by cases h) (fun _ _ _ _ h => by cases h)

/-- a call that gets no address -/
theorem calls_plain (hm : P.follows .mixedOrders = true) (hg : goodAll P = true) {n : Nat} {f : FuncId} {args : List XV} {b : Bool} {S' : XS} (hx : xcall P noPrim n f args 0 XS.none = some (.bool b, S'))
    {args' : List Value} (hv : VRs (embZ zNone) args args') (w : World) : Calls P f args'.toArray w fun e w' => e = .returned (.bool b) ∧ Below w.heap.size w w' := by
  have h := (xcalls (B := w.heap.size) (w0 := w) hm primOK_none (goodProg_of hg noPrim) n f args 0 XS.none _ _ hx).2 _ w args' (rel_nil w) (Nat.zero_le _) hv
  refine h.mono ?_
  rintro e w' ⟨u, ρ', W, rfl, q1, q2, _, _⟩
  cases q1
  exact ⟨rfl, q2.below⟩

def yes : Option (XV × XS) → Bool
  | some (.bool true, _) => true
  | _ => false

theorem yes_spec {r : Option (XV × XS)} (h : yes r = true) : ∃ S', r = some (.bool true, S') := by
  unfold yes at h
  split at h
  · exact ⟨_, rfl⟩
  · cases h

theorem calls_true (hm : P.follows .mixedOrders = true) (hg : goodAll P = true) {n : Nat} {f : FuncId} {args : List XV} (hx : yes (xcall P noPrim n f args 0 XS.none) = true)
    {args' : List Value} (hv : VRs (embZ zNone) args args') (w : World) : Calls P f args'.toArray w fun e w' => e = .returned (.bool true) ∧ Below w.heap.size w w' := by
  obtain ⟨S', h⟩ := yes_spec hx
  exact calls_plain hm hg h hv w

variable {H : Type} {enc : TypeId × Value → H}

/-- what the row asks behind a call that turned nothing that was -/
theorem post_of_below {f : Func} {s : ChangeSpec} {apart fresh handsOn again : Bool} {W W' : World} {args : Array Value} {v : Value} {ds gs : List (DataW H)} {before pa pv : List MemPlace}
    (hW : DataW.Whole enc P f.params.toList s.vars apart W args.toList ds gs before)
    (hres : ∀ (b : Nat) (sp : Nat → Bool) (hd : Bool), DataW.TrodAll enc P W' b sp hd f.resultTypes.toList (v.resultList f.resultTypes.size) (s.fn H (ds ++ gs)).results [])
    (hargs : ∀ sp : Nat → Bool, (∀ p ∈ before, sp p.block = true) → DataW.TrodAll enc P W' 0 sp true f.params.toList args.toList (s.fn H (ds ++ gs)).args pa)
    (hvars : ∀ sp : Nat → Bool, (∀ p ∈ before, sp p.block = true) → DataW.TrodVars enc P W' sp s.vars (s.fn H (ds ++ gs)).vars pv)
    (hps : before = pa ++ pv) (hb : Below W.heap.size W W')
    (hok : ∀ (j : Nat) (t : TypeId) (r : Value), f.resultTypes[j]? = some t → (v.resultList f.resultTypes.size)[j]? = some r → Value.okWide P W' .any 0 t r) :
    s.post enc P f apart fresh handsOn again W args v W' := by
  have hlt := hW.lt
  subst hps
  refine ⟨ds, gs, _, [], pa, pv, hW, hres _ _ _, hargs _ fun p hp => by simpa using hlt p hp, hvars _ fun p hp => by simpa using hlt p hp,
    World.keptBut_mono (fun p hp => ⟨hp, .inr (by simpa using hp)⟩) (hb.frame _), fun _ => ?_⟩
  obtain ⟨_, _, _, _, _, hz, hn⟩ := hW
  refine ⟨hok, _, _, ([] ++ pa) ++ pv, ⟨[] ++ pa, pv, trodAll_append (hargs _ fun _ _ => rfl) (hres _ _ _), hvars _ fun _ _ => rfl, rfl, fun b off hp => ?_, fun ha => ?_⟩, fun p hp _ => ?_⟩
  · have hp' : MemPlace.cell b off ∈ pa ++ pv := by simpa using hp
    rw [hb.frozen (hlt _ hp')]
    exact hz b off hp'
  · simpa using hn ha
  · simpa using hp

end
end Go.XM
