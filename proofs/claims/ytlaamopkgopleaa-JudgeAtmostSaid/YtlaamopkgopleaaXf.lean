/- A plain machine beside the model, and that what it tells the model does: part Xf. Conditions: those of each theorem below. -/
import Derived.Test.YtlaamopkgopleaaXe
import Derived.Laws.Cells
namespace Go.XM
set_option linter.unusedVariables false
set_option linter.unusedSimpArgs false
open Go.RowKit
set_option linter.unusedVariables false

theorem XV.one_of {ρ : Emb} {v : XV} {u : Value} (h : VR ρ v u) (ho : v.oneCell = true) : u.oneCell' = true := by
  cases h with
  | row t m cs len _ h1 => cases h1 <;> rfl
  | rptr t cs o _ h1 => cases h1; rfl
  | _ => simp_all [XV.oneCell, Value.oneCell']

theorem cells_of {ρ : Emb} {v : XV} {u : Value} (h : VR ρ v u) : VRs ρ v.cells u.cells.toList := by
  cases h with
  | row t m cs len _ h1 =>
    cases h1 with
    | rowNil => exact .cons _ _ _ _ (.row _ _ _ _ _ (.rowNil _ _ _)) .nil
    | row _ _ _ _ _ us a cap q1 q2 q3 q4 q5 q6 => exact .cons _ _ _ _ (.row _ _ _ _ _ (.row _ _ _ _ _ us a cap q1 q2 q3 q4 q5 q6)) .nil
  | rptr t cs o _ h1 =>
    cases h1 with
    | rptr _ _ _ _ us r off q1 q2 => exact .cons _ _ _ _ (.rptr _ _ _ _ (.rptr _ _ _ _ us r off q1 q2)) .nil
  | agg cs ds hs => simpa [XV.cells, Value.cells] using hs
  | sl b cap' e esz n rsz h1 h2 h3 h4 => exact .cons _ _ _ _ (.sl _ _ _ _ _ _ h1 h2 h3 h4) .nil
  | _ => refine .cons _ _ _ _ ?_ .nil; constructor <;> assumption

theorem size_cells {ρ : Emb} {v : XV} {u : Value} (h : VR ρ v u) : u.cells.size = v.cells.length := by
  have := (cells_of h).length
  simpa using this.symm

/-! ### reading -/
theorem cell_read {B : Nat} {w0 : World} {ρ : Emb} {S : XS} {w : World} (h : Rel B w0 ρ S w) {b o : Nat} {e : Ent} (he : ρ b = some e) {v : XV} (hv : S.cell b o = some v) :
    ∃ u, w.cell? (e.at o) = some u ∧ VR ρ v u := by
  unfold XS.cell at hv
  split at hv
  case h_2 => cases hv
  case h_1 cs k hg =>
  unfold cellAt at hv
  split at hv
  case h_2 => cases hv
  case h_1 v' hv' =>
  split at hv
  case isFalse => cases hv
  rename_i hl
  injection hv with hv
  subst hv
  have hb := h.blk b e he
  rw [hg] at hb
  obtain ⟨u, hu, hr, _⟩ := hb.2 o v' hv' hl
  exact ⟨u, hu, hr⟩

theorem at_add (e : Ent) (o j : Nat) : (e.at o).add j = e.at (o + j) := by
  unfold Addr.add Ent.at
  split
  · simp_all
  · simp only [Addr.mk.injEq, true_and, and_true]; omega

theorem cells_read {B : Nat} {w0 : World} {ρ : Emb} {S : XS} {w : World} (h : Rel B w0 ρ S w) {b : Nat} {e : Ent} (he : ρ b = some e) :
    ∀ (n o : Nat) (vs : List XV), S.cellsFrom b o n = some vs → ∃ us, VRs ρ vs us ∧ us.length = n ∧ ∀ j u, us[j]? = some u → w.cell? ((e.at o).add j) = some u
  | 0, o, vs, hv => by
    simp only [XS.cellsFrom] at hv
    injection hv with hv
    subst hv
    exact ⟨[], .nil, rfl, fun j u hu => by simp at hu⟩
  | n + 1, o, vs, hv => by
    simp only [XS.cellsFrom] at hv
    split at hv
    case h_2 => cases hv
    case h_1 v hv1 =>
    split at hv
    case h_2 => cases hv
    case h_1 r hr =>
    injection hv with hv
    subst hv
    obtain ⟨u, hu, hvr⟩ := cell_read h he hv1
    obtain ⟨us, h1, h2, h3⟩ := cells_read h he n (o + 1) r hr
    refine ⟨u :: us, .cons _ _ _ _ hvr h1, by simp [h2], fun j x hx => ?_⟩
    cases j with
    | zero => simp at hx; subst hx; rw [at_add]; exact hu
    | succ j =>
      simp at hx
      have := h3 j x hx
      rw [at_add] at this ⊢
      rwa [show o + (j + 1) = o + 1 + j by omega]

theorem cellsFrom_len {S : XS} {b : Nat} : ∀ (n o : Nat) (vs : List XV), S.cellsFrom b o n = some vs → vs.length = n
  | 0, o, vs, h => by simp only [XS.cellsFrom] at h; injection h with h; subst h; rfl
  | n + 1, o, vs, h => by
    simp only [XS.cellsFrom] at h
    split at h
    case h_2 => cases h
    split at h
    case h_2 => cases h
    case h_1 r hr =>
    injection h with h
    subst h
    simp [cellsFrom_len n _ r hr]

/-! ### storing -/
def setCells (w : World) (r : Nat) : Nat → List Value → World
  | _, [] => w
  | o, v :: vs => setCells (w.setCell ⟨r, o, none⟩ v) r (o + 1) vs

theorem setCells_size (r : Nat) : ∀ (vs : List Value) (o : Nat) (w : World), (setCells w r o vs).heap.size = w.heap.size
  | [], o, w => rfl
  | v :: vs, o, w => by rw [setCells, setCells_size r vs]; simp
theorem setCells_other (r : Nat) {k : Nat} (hk : k ≠ r) : ∀ (vs : List Value) (o : Nat) (w : World), (setCells w r o vs).heap[k]? = w.heap[k]?
  | [], o, w => rfl
  | v :: vs, o, w => by rw [setCells, setCells_other r hk vs]; exact setCell_block hk
theorem setCells_frozen (r : Nat) (a : Addr) : ∀ (vs : List Value) (o : Nat) (w : World), (setCells w r o vs).frozen? a = w.frozen? a
  | [], o, w => rfl
  | v :: vs, o, w => by rw [setCells, setCells_frozen r a vs]; simp
theorem setCells_out (r i : Nat) : ∀ (vs : List Value) (o : Nat) (w : World), (i < o ∨ o + vs.length ≤ i) → (setCells w r o vs).cell? ⟨r, i, none⟩ = w.cell? ⟨r, i, none⟩
  | [], o, w, h => rfl
  | v :: vs, o, w, h => by
    have hl : (v :: vs).length = vs.length + 1 := rfl
    rw [hl] at h
    rw [setCells, setCells_out r i vs (o + 1) _ (by omega)]
    exact World.cell?_setCell_other _ _ _ _ (by simp <;> omega)
theorem setCells_in (r : Nat) : ∀ (vs : List Value) (o : Nat) (w : World), (∀ j, j < vs.length → (w.cell? ⟨r, o + j, none⟩).isSome = true) →
    ∀ j u, vs[j]? = some u → (setCells w r o vs).cell? ⟨r, o + j, none⟩ = some u
  | [], o, w, h, j, u, hu => by simp at hu
  | v :: vs, o, w, h, j, u, hu => by
    cases j with
    | zero =>
      simp at hu
      subst hu
      rw [setCells, setCells_out r _ vs (o + 1) _ (by omega)]
      have := h 0 (by simp)
      obtain ⟨u0, hu0⟩ := Option.isSome_iff_exists.1 this
      exact World.cell?_setCell_same _ _ _ hu0
    | succ j =>
      simp at hu
      rw [setCells, show o + (j + 1) = o + 1 + j by omega]
      refine setCells_in r vs (o + 1) _ (fun i hi => ?_) j u hu
      rw [World.cell?_setCell_other _ _ _ _ (by simp <;> omega)]
      have := h (i + 1) (by simp <;> omega)
      rwa [show o + (i + 1) = o + 1 + i by omega] at this
theorem setCells_some (r i : Nat) : ∀ (vs : List Value) (o : Nat) (w : World), (w.cell? ⟨r, i, none⟩).isSome = true → ((setCells w r o vs).cell? ⟨r, i, none⟩).isSome = true
  | [], o, w, h => h
  | v :: vs, o, w, h => by
    rw [setCells]
    refine setCells_some r i vs (o + 1) _ ?_
    by_cases hq : (⟨r, o, none⟩ : Addr) = ⟨r, i, none⟩
    · obtain ⟨u0, hu0⟩ := Option.isSome_iff_exists.1 h
      rw [← hq] at hu0 ⊢
      rw [World.cell?_setCell_same _ _ _ hu0]; rfl
    · rw [World.cell?_setCell_other _ _ _ _ hq]; exact h
theorem setCells_below {B : Nat} {w0 : World} (r : Nat) (hr : B ≤ r) : ∀ (vs : List Value) (o : Nat) (w : World), Below B w0 w → Below B w0 (setCells w r o vs)
  | [], o, w, h => h
  | v :: vs, o, w, h => setCells_below r hr vs (o + 1) _ (h.setCell hr v)

theorem run_storeCells (P : Program) (r : Nat) : ∀ (vs : List Value) (i o : Nat) (w : World), (∀ v, v ∈ vs → v.oneCell' = true) →
    (∀ j, j < vs.length → (w.cell? ⟨r, o + i + j, none⟩).isSome = true ∧ w.frozen? ⟨r, o + i + j, none⟩ = false) →
    (storeCells ⟨r, o, none⟩ vs i).run P w = .ok () (setCells w r (o + i) vs)
  | [], i, o, w, h1, h => rfl
  | v :: vs, i, o, w, h1, h => by
    have hadd : (⟨r, o, none⟩ : Addr).add i = ⟨r, o + i, none⟩ := by unfold Addr.add; split <;> simp_all
    have h0 := h 0 (by simp)
    simp only [Nat.add_zero] at h0
    obtain ⟨u0, hu0⟩ := Option.isSome_iff_exists.1 h0.1
    simp only [storeCells, Sem.run_bind, hadd, run_store P w _ v _ (h1 v (by simp)), hu0, h0.2, Bool.false_eq_true, if_false, Result.andThen_ok]
    rw [run_storeCells P r vs (i + 1) o _ (fun x hx => h1 x (by simp [hx])) (fun j hj => ?_)]
    · rw [setCells]; rfl
    · rw [World.frozen?_setCell, World.cell?_setCell_other _ _ _ _ (by simp <;> omega)]
      have := h (j + 1) (by simp <;> omega)
      rwa [show o + i + (j + 1) = o + (i + 1) + j by omega] at this

/-- many cells stored -/
theorem rel_storeN {B : Nat} {w0 : World} {ρ : Emb} {base b : Nat} {e : Ent} (he : ρ b = some e) :
    ∀ (vs : List XV) (us : List Value) (o : Nat) (S S' : XS) (w : World), Rel B w0 ρ S w → base ≤ S.size → S.storeN base b o vs = some S' → VRs ρ vs us →
    (∀ u, u ∈ us → u.oneCell' = true) ∧ (∀ j, j < us.length → (w.cell? ⟨e.blk, o + e.sh + j, none⟩).isSome = true ∧ w.frozen? ⟨e.blk, o + e.sh + j, none⟩ = false) ∧
    ∃ W, Rel B w0 ρ S' (setCells w e.blk (o + e.sh) us) ∧ Ev base ρ S w ρ S' (setCells w e.blk (o + e.sh) us) W ∧ S'.log = W ++ S.log ∧ S'.size = S.size
  | [], us, o, S, S', w, h, hbs, hs, hv => by
    cases hv
    simp only [XS.storeN] at hs
    injection hs with hs
    subst hs
    exact ⟨fun u hu => by simp at hu, fun j hj => by simp at hj, [], h, Ev.refl, rfl, rfl⟩
  | v :: vs, us, o, S, S', w, h, hbs, hs, hv => by
    cases hv with
    | cons _ u _ us hv1 hv2 =>
    simp only [XS.storeN] at hs
    split at hs
    case h_2 => cases hs
    case h_1 S1 hs1 =>
    obtain ⟨⟨u0, hu0⟩, hf, h1, hr1, he1, hl1⟩ := rel_store1 h (base := base) he hs1 hv1
    have hsz : S.size = S1.size := by
      unfold XS.store1 at hs1
      split at hs1
      · split at hs1
        · cases hs1
        · split at hs1
          · split at hs1
            · injection hs1 with hs1
              subst hs1
              simp
            · cases hs1
          · cases hs1
      · cases hs1
    obtain ⟨q1, q2, W, q3, q4, q5, q6⟩ := rel_storeN he vs us (o + 1) S1 S' _ hr1 (by omega) hs hv2
    have hat : e.at o = ⟨e.blk, o + e.sh, none⟩ := rfl
    rw [hat] at hu0 hf q2 q3 q4 he1
    refine ⟨fun x hx => ?_, fun j hj => ?_, W ++ (if b < base then [(b, o)] else []), ?_, ?_, ?_, by omega⟩
    · rcases List.mem_cons.1 hx with rfl | hx
      · exact XV.one_of hv1 h1
      · exact q1 x hx
    · cases j with
      | zero => simp [hu0, hf]
      | succ j =>
        have hj' : j < us.length := by simpa using hj
        have := q2 j hj'
        rw [World.frozen?_setCell, World.cell?_setCell_other _ _ _ _ (by simp <;> omega)] at this
        rwa [show o + 1 + e.sh + j = o + e.sh + (j + 1) by omega] at this
    · rw [setCells, show o + e.sh + 1 = o + 1 + e.sh by omega]; exact q3
    · rw [setCells, show o + e.sh + 1 = o + 1 + e.sh by omega]; exact he1.trans hbs q4
    · rw [q5, hl1, List.append_assoc]

/-- what could be stored lives -/
theorem storeN_live {base b : Nat} : ∀ (vs : List XV) (o : Nat) (S S' : XS), S.storeN base b o vs = some S' → ∀ v, v ∈ vs → v.live = true
  | [], _, _, _, _, v, hv => by cases hv
  | x :: vs, o, S, S', hs, v, hv => by
    simp only [XS.storeN] at hs
    split at hs
    case h_2 => cases hs
    case h_1 S1 hs1 =>
    rcases List.mem_cons.1 hv with rfl | hv
    · unfold XS.store1 at hs1
      split at hs1
      · split at hs1
        · cases hs1
        · split at hs1
          · split at hs1
            · rename_i hf
              unfold XV.fits at hf
              simp only [Bool.and_eq_true] at hf
              cases v <;> first | rfl | (exact absurd hf.1 (by simp [XV.oneCell]))
            · cases hs1
          · cases hs1
      · cases hs1
    · exact storeN_live vs (o + 1) S1 S' hs v hv

theorem VLs.vrs {ρ : Emb} {xs : List XV} {us : List Value} (h : VLs ρ xs us) (hl : ∀ v, v ∈ xs → v.live = true) : VRs ρ xs us :=
  VRs.of_get h.1 fun i x v hx hv => h.2 i x v hx hv (hl x (List.mem_of_getElem? hx))
theorem VRs.vls {ρ : Emb} {xs : List XV} {us : List Value} (h : VRs ρ xs us) : VLs ρ xs us :=
  ⟨h.length, fun i x v hx hv _ => by
    obtain ⟨u, hu, hr⟩ := h.get hx
    rw [hv] at hu
    injection hu with hu
    subst hu
    exact hr⟩
theorem VLs.nil {ρ : Emb} : VLs ρ [] [] := ⟨rfl, fun i x v hx => by simp at hx⟩
theorem VLs.append {ρ : Emb} {xs ys : List XV} {us vs : List Value} (h : VLs ρ xs us) (k : VLs ρ ys vs) : VLs ρ (xs ++ ys) (us ++ vs) := by
  refine ⟨by simp [h.1, k.1], fun i x v hx hv hl => ?_⟩
  rcases Nat.lt_or_ge i xs.length with q | q
  · rw [List.getElem?_append_left q] at hx
    rw [List.getElem?_append_left (by rw [← h.1]; exact q)] at hv
    exact h.2 i x v hx hv hl
  · rw [List.getElem?_append_right q] at hx
    rw [List.getElem?_append_right (by rw [← h.1]; exact q), ← h.1] at hv
    exact k.2 _ x v hx hv hl
theorem VLs.mono {ρ ρ' : Emb} (hl : ρ.le ρ') {xs : List XV} {us : List Value} (h : VLs ρ xs us) : VLs ρ' xs us :=
  ⟨h.1, fun i x v hx hv q => (h.2 i x v hx hv q).mono hl⟩

end Go.XM
