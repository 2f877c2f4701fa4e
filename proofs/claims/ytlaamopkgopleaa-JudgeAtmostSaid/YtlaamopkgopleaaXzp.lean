/- A plain machine beside the model, and that what it tells the model does: part Xzp. Conditions: those of each theorem below. -/
import Derived.Test.YtlaamopkgopleaaXzo
import Derived.ReadAgain
import Derived.ChangeSame
import Derived.Below
namespace Go.XM
set_option linter.unusedVariables false
set_option linter.unusedSimpArgs false
open Go.RowKit Go.ChangeShapes
set_option linter.unusedVariables false

/-! ### the step to the row -/
section
variable {P : Program}

/-- a law that is known to answer true -/
theorem law_pure {f : FuncId} {F : List XV → Option XV} (hp : Pure P f F) {args : List XV} (hF : F args = some (.bool true)) {args' : List Value} (w : World) (hv : DRs (snap w) args args') :
    Calls P f args'.toArray w fun e w' => e = .returned (.bool true) ∧ Below w.heap.size w w' := by
  refine (hp args _ hF (snap w) w args' (fun _ _ _ q => q) (fun _ _ _ _ q => q) hv).mono ?_
  rintro e w' ⟨u, z', rfl, _, _, _, _, hd, hb⟩
  cases hd
  exact ⟨rfl, hb⟩

theorem true_pure (hm : P.follows .mixedOrders = true) (hg : goodAll P = true) {n : Nat} {f0 : FuncId} (hx : yes (xcall P noPrim n f0 [] 0 XS.none) = true) {Y : Type} {good : Unit → Prop} : Pure P f0 (known f0 0 (fun _ : Unit => []) good (fun _ => true) true .bool).F := by
  refine pure_of hm hg primOK_none fun args v hv => ?_
  obtain ⟨x, rfl, _, rfl⟩ := known_inv (fun _ _ _ => rfl) hv
  obtain ⟨S', h⟩ := yes_spec hx
  exact ⟨n, false, by unfold prun; rw [h]; exact hard_bool _ _ _⟩

section
variable {H : Type} {enc : TypeId × Value → H}
/-- behind a call that turned nothing that was, the arguments read as they did -/
theorem trodAll_again {w w' : World} {sp : Nat → Bool} {T : TypeId → Prop} (K : Kids P T) (hz : ∀ t e, T t → P.underlying t = some (.slice e) → 0 < P.cellsOf e) {ts : List TypeId} {vs : List Value} {ds : List (DataW H)} {ps : List MemPlace} (hT : ∀ t ∈ ts, T t)
    (h : DataW.TrodAll enc P w 0 (fun _ => true) true ts vs ds ps) (hb : Below w.heap.size w w') (hlt : ∀ p ∈ ps, p.block < w.heap.size) (hsp : ∀ p ∈ ps, sp p.block = true) : DataW.TrodAll enc P w' 0 sp true ts vs ds ps := by
  have h1 := h.respare K hz hT hsp
  clear h hsp
  induction ts generalizing vs ds ps with
  | nil =>
    match vs, ds, h1 with
    | [], [], h1 => exact h1
    | _ :: _, _, h1 => exact h1.elim
    | [], _ :: _, h1 => exact h1.elim
  | cons t ts ih =>
    match vs, ds, h1 with
    | [], _, h1 => exact h1.elim
    | _ :: _, [], h1 => exact h1.elim
    | v :: vs, d :: ds, ⟨p, q, ⟨n, k1⟩, k2, e⟩ =>
      subst e
      exact ⟨p, q, ⟨n, DataW.trod_carry n _ _ _ k1 fun x hx => hb.same (hlt x (List.mem_append_left _ hx))⟩, ih (fun t ht => hT t (by simp [ht])) (fun x hx => hlt x (List.mem_append_right _ hx)) k2, rfl⟩

/-- a struct of more cells than one is a row of cells -/
theorem agg_of {w : World} {b : Nat} {sp : Nat → Bool} {hd : Bool} {fuel : Nat} {t : TypeId} {fs : Array Field} {v : Value} {x : DataW H × List MemPlace} (ht : P.underlying t = some (.struct fs)) (hn : P.cellsOf t ≠ 1) (h : DataW.trod enc P w b sp hd fuel t v.cells.toList = some x) : ∃ cs : List Value, v = .agg cs.toArray ∧ v.cells.toList = cs := by
  obtain ⟨xs, n, _, _, hl, _, _⟩ := DataW.trod_struct ht h
  cases v with
  | agg cs => exact ⟨cs.toList, rfl, rfl⟩
  | _ => simp only [Value.cells] at hl; exact absurd hl.symm hn
end

/-! ### rows of one kind -/
theorem els_map {α : Type} {f : α → XV} {p : α → Prop} : ∀ els : List (List XV), (∀ el, el ∈ els → ∃ a, el = [f a] ∧ p a) → ∃ l : List α, els.flatten = l.map f ∧ els.length = l.length ∧ ∀ a, a ∈ l → p a
  | [], _ => ⟨[], rfl, rfl, fun a h => by cases h⟩
  | el :: els, h => by
    obtain ⟨a, rfl, ha⟩ := h el (by simp)
    obtain ⟨l, h1, h2, h3⟩ := els_map els fun e he => h e (by simp [he])
    refine ⟨a :: l, by simp [h1], by simp [h2], fun b hb => ?_⟩
    rcases List.mem_cons.1 hb with rfl | hb
    · exact ha
    · exact h3 b hb

theorem shaped_ints {n : Nat} {t e : TypeId} {k : IntKind} {xs : List XV} (ht : P.underlying t = some (.slice e)) (he : P.underlying e = some (.int k)) (h : Shaped P (n + 2) t xs) :
    ∃ l : List Int, xs = [.row false false (l.map (.int k)) l.length] ∧ l.length ≤ maxLen ∧ ∀ i, i ∈ l → (Lit.int k i).wf = true := by
  unfold Shaped at h
  simp only [ht] at h
  obtain ⟨els, rfl, hl, hels⟩ := h
  obtain ⟨l, h1, h2, h3⟩ := els_map (f := .int k) (p := fun i => (Lit.int k i).wf = true) els fun el hel => by
    have := (hels el hel).1
    unfold Shaped at this
    simp only [he] at this
    exact this
  exact ⟨l, by rw [h1, h2], by omega, h3⟩
theorem shaped_bools {n : Nat} {t e : TypeId} {xs : List XV} (ht : P.underlying t = some (.slice e)) (he : P.underlying e = some .bool) (h : Shaped P (n + 2) t xs) :
    ∃ l : List Bool, xs = [.row false false (l.map .bool) l.length] ∧ l.length ≤ maxLen := by
  unfold Shaped at h
  simp only [ht] at h
  obtain ⟨els, rfl, hl, hels⟩ := h
  obtain ⟨l, h1, h2, h3⟩ := els_map (f := .bool) (p := fun _ => True) els fun el hel => by
    have := (hels el hel).1
    unfold Shaped at this
    simp only [he] at this
    obtain ⟨b, hb⟩ := this
    exact ⟨b, hb, trivial⟩
  exact ⟨l, by rw [h1, h2], by omega⟩

/-! ### reading at a number that is in -/
theorem rdB_at {A : Type} (l : List Bool) (k : Nat) (h : k < l.length) (f : Bool → Option A) : rdB (l.map .bool) ((k : Int).toNat * 1) f = f (l.getD k false) := by
  rw [rdB_map]
  simp [h]
theorem rdI_at {A : Type} (kd : IntKind) (l : List Int) (k : Nat) (h : k < l.length) (f : Int → Option A) : rdI kd (l.map (.int kd)) ((k : Int).toNat * 1) f = f (l.getD k 0) := by
  rw [rdI_map]
  simp [h]
theorem ilt_nat {k n : Nat} : ilt (k : Int) (n : Int) = decide (k < n) := by
  rw [ilt_eq]
  simp
end
end Go.XM
