/- A plain machine beside the model, and that what it tells the model does: part Xi. Conditions: those of each theorem below. -/
import Derived.Test.YtlaamopkgopleaaXh
import Derived.Laws.MakeOwn
import Derived.Laws.AppendOwn
namespace Go.XM
set_option linter.unusedVariables false
set_option linter.unusedSimpArgs false
open Go.RowKit
set_option linter.unusedVariables false

theorem foldl_set_list (off : Nat) : ∀ (l : List Value) (k : Nat) (cs : Array Value), off + k + l.length ≤ cs.size →
    ((l.zipIdx k).foldl (fun cs (p : Value × Nat) => cs.setIfInBounds (off + p.2) p.1) cs).toList = cs.toList.take (off + k) ++ l ++ cs.toList.drop (off + k + l.length)
  | [], k, cs, h => by simp
  | v :: l, k, cs, h => by
    simp only [List.zipIdx_cons, List.foldl_cons]
    simp only [List.length_cons] at h ⊢
    rw [foldl_set_list off l (k + 1) _ (by simp; omega)]
    simp only [Array.toList_setIfInBounds]
    have hlt : off + k < cs.toList.length := by simp; omega
    have e1 : (cs.toList.set (off + k) v).take (off + (k + 1)) = cs.toList.take (off + k) ++ [v] := by
      rw [show off + (k + 1) = off + k + 1 by omega, List.take_add_one, List.take_set_of_le (Nat.le_refl _), List.getElem?_set_self hlt]
      rfl
    have e2 : (cs.toList.set (off + k) v).drop (off + (k + 1) + l.length) = cs.toList.drop (off + (k + 1) + l.length) := List.drop_set_of_lt (by omega)
    rw [e1, e2, show off + (k + 1) + l.length = off + k + (l.length + 1) by omega]
    simp

theorem toList_foldl_set (off : Nat) (v cs : Array Value) (h : off + v.size ≤ cs.size) :
    (v.zipIdx.foldl (fun cs (p : Value × Nat) => cs.setIfInBounds (off + p.2) p.1) cs).toList = cs.toList.take off ++ v.toList ++ cs.toList.drop (off + v.size) := by
  rw [← Array.foldl_toList, Array.toList_zipIdx]
  have := foldl_set_list off v.toList 0 cs (by simpa using h)
  simpa using this

theorem VRs.take {ρ : Emb} {xs : List XV} {vs : List Value} (h : VRs ρ xs vs) (n : Nat) : VRs ρ (xs.take n) (vs.take n) := by
  refine VRs.of_get (by simp [h.length]) fun i x v hx hv => ?_
  rw [List.getElem?_take] at hx hv
  split at hx
  · rename_i hi
    rw [if_pos hi] at hv
    obtain ⟨u, hu, hr⟩ := h.get hx
    rw [hv] at hu; injection hu with hu; subst hu; exact hr
  · cases hx
theorem VRs.drop {ρ : Emb} {xs : List XV} {vs : List Value} (h : VRs ρ xs vs) (n : Nat) : VRs ρ (xs.drop n) (vs.drop n) := by
  refine VRs.of_get (by simp [h.length]) fun i x v hx hv => ?_
  rw [List.getElem?_drop] at hx hv
  obtain ⟨u, hu, hr⟩ := h.get hx
  rw [hv] at hu; injection hu with hu; subst hu; exact hr

theorem fill_sound {ρ : Emb} (place : Nat → Option (Nat × Nat)) : ∀ (ps : List (Nat × XV)) (qs : List (Nat × Value)) (cs cs' : List XV) (arr : Array Value), PR ρ ps qs → VRs ρ cs arr.toList →
    xfill place cs ps = some cs' → ∃ arr', Instr.fill place arr qs = some arr' ∧ VRs ρ cs' arr'.toList
  | [], [], cs, cs', arr, _, h, hx => by simp only [xfill] at hx; injection hx with hx; subst hx; exact ⟨arr, rfl, h⟩
  | (i, v) :: ps, (j, u) :: qs, cs, cs', arr, hp, h, hx => by
    obtain ⟨rfl, hv, hp⟩ := hp
    simp only [xfill] at hx
    split at hx
    · cases hx
    rename_i off size hpl
    split at hx
    case isFalse => cases hx
    rename_i hc
    have hn := size_cells hv
    have hlen := h.length
    simp only [Array.length_toList] at hlen
    have e := toList_foldl_set off u.cells arr (by omega)
    have hnew : VRs ρ (cs.take off ++ v.cells ++ cs.drop (off + size)) (u.cells.zipIdx.foldl (fun cs (p : Value × Nat) => cs.setIfInBounds (off + p.2) p.1) arr).toList := by
      rw [e, hn, hc.1]
      exact ((h.take off).append (cells_of hv)).append (h.drop _)
    obtain ⟨arr', h1, h2⟩ := fill_sound place ps qs _ cs' _ hp hnew hx
    refine ⟨arr', ?_, h2⟩
    simp only [Instr.fill, hpl]
    rw [if_neg (by simp [hn, hc.1]; omega)]
    exact h1
  | [], _ :: _, _, _, _, hp, _, _ => hp.elim
  | _ :: _, [], _, _, _, hp, _, _ => hp.elim

section
variable {P : Program} {B : Nat} {w0 : World} {base : Nat} {ρ : Emb} {S : XS} {w : World}

def placeOf (f : Field) : Sem (Nat × Nat) := do pure (f.offset, ← sizeOf f.type)
theorem places_run : ∀ (fs : List Field) (pl : List (Nat × Nat)), places P fs = some pl → (fs.mapM placeOf).run P w = .ok pl w
  | [], pl, h => by simp only [places] at h; injection h with h; subst h; simp
  | f :: fs, pl, h => by
    simp only [places] at h
    split at h
    · rename_i n l hn hl
      injection h with h
      subst h
      have := places_run fs l hl
      simp [placeOf, run_size hn, this]
    · cases h

theorem xbuild_sound (h : Rel B w0 ρ S w) {t : TypeId} {ps : List (Nat × XV)} {qs : Array (Nat × Value)} {v : XV} (hp : PR ρ ps qs.toList) (hx : xbuild P t ps = some v) : Sim P B w0 base ρ S w (Instr.build t qs) v S := by
  unfold xbuild at hx
  split at hx
  case h_3 => cases hx
  case h_1 fs hu =>
    split at hx
    case h_2 => cases hx
    case h_1 z pl hz hpl =>
    split at hx
    case h_2 => cases hx
    case h_1 cs hcs =>
    injection hx with hx
    subst hx
    obtain ⟨zv, hzr, hzv⟩ := run_zero (ρ := ρ) hz w
    obtain ⟨arr', h1, h2⟩ := fill_sound (fun i => pl[i]?) ps qs.toList z cs zv.cells hp hzv hcs
    have hpr := places_run (w := w) fs.toList pl hpl
    refine Sim.pure h (u := .agg arr') ?_ (by have := VR.agg (ρ := ρ) _ _ h2; simpa using this)
    have hm : (fs.mapM placeOf).run P w = .ok pl.toArray w := by
      rw [Array.mapM_eq_mapM_toList]
      simp [hpr]
    have h1' : Instr.fill (fun x => pl.toArray[x]?) zv.cells qs.toList = some arr' := by simpa using h1
    have hm' : (fs.mapM fun f => (do pure (f.offset, ← sizeOf f.type) : Sem (Nat × Nat))).run P w = .ok pl.toArray w := hm
    simp only [Instr.build, Sem.run_bind, hzr, run_underlying hu, hm', h1', Result.andThen_ok, Sem.run_pure]
  case h_2 n e hu =>
    split at hx
    case h_2 => cases hx
    case h_1 z sz hz hsz =>
    split at hx
    case h_2 => cases hx
    case h_1 cs hcs =>
    injection hx with hx
    subst hx
    obtain ⟨zv, hzr, hzv⟩ := run_zero (ρ := ρ) hz w
    obtain ⟨arr', h1, h2⟩ := fill_sound _ ps qs.toList z cs zv.cells hp hzv hcs
    refine Sim.pure h (u := .agg arr') ?_ (by have := VR.agg (ρ := ρ) _ _ h2; simpa using this)
    simp [Instr.build, hzr, run_underlying hu, run_size hsz, h1]

theorem repeatL_all {z : List XV} (f : XV → Bool) (h : z.all f = true) : ∀ n, (repeatL z n).all f = true
  | 0 => rfl
  | n + 1 => by rw [repeatL, List.all_append, h, repeatL_all f h n]; rfl

theorem repeatL_length (z : List XV) : ∀ n, (repeatL z n).length = n * z.length
  | 0 => by simp [repeatL]
  | n + 1 => by simp [repeatL, repeatL_length z n, Nat.succ_mul]; omega

theorem repeatL_get (z : List XV) (hz : 0 < z.length) : ∀ (n i : Nat), i < n * z.length → (repeatL z n)[i]? = z[i % z.length]?
  | 0, i, h => by simp at h
  | n + 1, i, h => by
    rw [repeatL]
    rcases Nat.lt_or_ge i z.length with hi | hi
    · rw [List.getElem?_append_left hi, Nat.mod_eq_of_lt hi]
    · rw [List.getElem?_append_right hi, repeatL_get z hz n (i - z.length) (by rw [Nat.succ_mul] at h; omega)]
      congr 1
      conv => rhs; rw [show i = (i - z.length) + z.length by omega]
      rw [Nat.add_mod_right]

theorem zeros_vr {ρ : Emb} {z : List XV} {zv : Value} (hz : VRs ρ z zv.cells.toList) (h0 : 0 < z.length) (n m : Nat) (hm : m = n * z.length) :
    VRs ρ (repeatL z n) ((Array.range m).map (zv.cells[· % zv.cells.size]!)).toList := by
  have hl := hz.length
  simp only [Array.length_toList] at hl
  subst hm
  refine VRs.of_get (by simp [repeatL_length]) fun i x v hx hv => ?_
  have hi : i < n * z.length := by
    rcases Nat.lt_or_ge i (n * z.length) with hq | hq
    · exact hq
    · rw [List.getElem?_eq_none (by rw [repeatL_length]; exact hq)] at hx; cases hx
  rw [repeatL_get z h0 n i hi] at hx
  obtain ⟨u, hu, hr⟩ := hz.get hx
  have hlt : i % z.length < zv.cells.size := by rw [← hl]; exact Nat.mod_lt _ h0
  have : v = u := by
    simp [hi] at hv
    rw [← hl] at hv
    have hu' : zv.cells[i % z.length]? = some u := by simpa using hu
    rw [getElem!_pos zv.cells _ hlt] at hv
    rw [Array.getElem?_eq_getElem hlt] at hu'
    injection hu' with hu'
    rw [← hv, ← hu']
  rw [this]; exact hr

theorem sim_slice {ρ' : Emb} {S' : XS} {w' : World} {s : Sem Value} {W : List (Nat × Nat)} (hr : Rel B w0 ρ' S' w') (he : Ev base ρ S w ρ' S' w' W) (hlog : S'.log = W ++ S.log) (hk : ρ' S.size = some ⟨w.heap.size, 0, none⟩) (len cap : Nat) (hlc : len ≤ cap)
    (hs : s.run P w = .ok (.slice (some ⟨w.heap.size, 0, none⟩) len cap) w') : Sim P B w0 base ρ S w s (.slice S.size 0 len cap) S' :=
  ⟨_, w', ρ', W, hs, by have := VR.slice (ρ := ρ') S.size 0 len cap _ hk hlc; simpa [Ent.at] using this, hr, he, hlog⟩

theorem xbuildSlice_sound (h : Rel B w0 ρ S w) (hb : base ≤ S.size) {t : TypeId} {len : Nat} {ps : List (Nat × XV)} {qs : Array (Nat × Value)} {v : XV} {S' : XS} (hp : PR ρ ps qs.toList)
    (hx : xbuildSlice P S t len ps = some (v, S')) : Sim P B w0 base ρ S w (Instr.buildSlice t len qs) v S' := by
  unfold xbuildSlice at hx
  split at hx
  case h_2 => cases hx
  case h_1 e he =>
  split at hx
  case h_2 => cases hx
  case h_1 z n hz hn =>
  split at hx
  case isFalse => cases hx
  rename_i hc
  obtain ⟨hc1, hc2, hc3⟩ := hc
  split at hx
  case h_2 => cases hx
  case h_1 cs hcs =>
  injection hx with hx
  simp only [Prod.mk.injEq] at hx
  obtain ⟨rfl, rfl⟩ := hx
  obtain ⟨zv, hzr, hzv⟩ := run_zero (ρ := ρ) hz w
  have hzeros := zeros_vr hzv (by omega) len (len * n) (by rw [hc1])
  by_cases hz0 : len * n = 0
  · have hl0 : len = 0 := by rcases Nat.mul_eq_zero.1 hz0 with q | q <;> omega
    subst hl0
    obtain ⟨arr', h1, h2⟩ := fill_sound _ ps qs.toList _ cs #[] hp (by simpa [repeatL] using VRs.nil) hcs
    obtain ⟨ρ', r1, r2, r3⟩ := alloc_row h hb cs arr' e h2 (esz := n) hc2
    refine sim_slice r1 r2 rfl r3 0 0 (Nat.le_refl _) ?_
    simp [Instr.buildSlice, run_underlying (slice_elem he), run_size hn, h1, newRow, Array.range_zero']
  · obtain ⟨arr', h1, h2⟩ := fill_sound _ ps qs.toList _ cs _ hp hzeros hcs
    obtain ⟨ρ', r1, r2, r3⟩ := alloc_row h hb cs arr' e h2 (esz := n) hc2
    refine sim_slice r1 r2 rfl r3 len len (Nat.le_refl _) ?_
    have hle : ¬ (16777216 < len * n) := by omega
    simp [Instr.buildSlice, run_underlying (slice_elem he), run_size hn, hle, hz0, hzr, h1, newRow]

theorem xmakeSlice_sound (h : Rel B w0 ρ S w) (hb : base ≤ S.size) {t : TypeId} {l c : XV} {x y : Value} {v : XV} {S' : XS} (hl : VR ρ l x) (hcp : VR ρ c y)
    (hx : xmakeSlice P S t l c = some (v, S')) : Sim P B w0 base ρ S w (Instr.makeSlice t x y) v S' := by
  unfold xmakeSlice at hx
  split at hx
  case h_2 => cases hx
  case h_1 e kl l kc c he =>
  split at hx
  case h_2 => cases hx
  case h_1 i hi =>
  split at hx
  case h_2 => cases hx
  case h_1 z hz =>
  split at hx
  case isFalse => cases hx
  rename_i hc
  obtain ⟨c1, c2, c3, c4, c5, c6⟩ := hc
  injection hx with hx
  simp only [Prod.mk.injEq] at hx
  obtain ⟨rfl, rfl⟩ := hx
  cases hl
  cases hcp
  unfold zeroCells at hz
  rw [hi] at hz
  simp only at hz
  split at hz
  case h_2 => cases hz
  case h_1 zc hzc =>
  split at hz
  case h_2 => cases hz
  case h_1 zv hzv =>
  injection hz with hz
  have hcell := cells_of (ofValue_vr (ρ := ρ) hzv)
  rw [hz] at hcell
  have hcb : c ≤ 35184372088832 := by
    have h1 : c * 1 ≤ c * (i.bytes : Int) := Int.mul_le_mul_of_nonneg_left (by omega) (by omega)
    omega
  have hrun := run_make (P := P) w t e i zc (slice_elem he) hi hzc kl kc l c c1 c2 (by rw [Int.mul_comm]; omega) (by omega)
  have hzeros := zeros_vr hcell (by omega) c.toNat (c.toNat * i.size) (by rw [c5])
  have hex : ∃ ρ', Rel B w0 ρ' (S.push (.cells (repeatL z c.toNat) (if z.all (XV.fits (.arr i.size)) then .arr i.size else .own))) (w.alloc (.cells (madeCells zc.cells (c.toNat * i.size)) e)) ∧ Ev base ρ S w ρ' (S.push (.cells (repeatL z c.toNat) (if z.all (XV.fits (.arr i.size)) then .arr i.size else .own))) (w.alloc (.cells (madeCells zc.cells (c.toNat * i.size)) e)) [] ∧ ρ' S.size = some ⟨w.heap.size, 0, none⟩ := by
    split
    · rename_i hzf
      have := alloc_row (esz := i.size) h hb (repeatL z c.toNat) (madeCells zc.cells (c.toNat * i.size)) e hzeros c6
      rwa [if_pos (repeatL_all _ hzf _)] at this
    · exact alloc_own h hb (repeatL z c.toNat) (madeCells zc.cells (c.toNat * i.size)) e hzeros
  obtain ⟨ρ', r1, r2, r3⟩ := hex
  exact sim_slice r1 r2 rfl r3 l.toNat c.toNat (by omega) hrun

end
end Go.XM
