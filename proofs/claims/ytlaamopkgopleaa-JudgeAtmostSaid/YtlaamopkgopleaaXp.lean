/- A plain machine beside the model, and that what it tells the model does: part Xp. Conditions: those of each theorem below. -/
import Derived.Test.YtlaamopkgopleaaXo
namespace Go.XM
set_option linter.unusedVariables false
set_option linter.unusedSimpArgs false
open Go.RowKit
set_option linter.unusedVariables false

section
variable {P : Program} {B : Nat} {w0 : World} {base : Nat} {ρ : Emb} {S : XS} {w : World}

theorem firstCells_slice {size n : Nat} {a : Addr} {len cap : Nat} {us : List Value} (hl : us.length = n * size) {w w' : World} (hc : ∀ a, w'.cell? a = w.cell? a) (h : ∀ j v, us[j]? = some v → w.cell? (a.add j) = some v) :
    (Builtin.firstCells size n (.slice (some a) len cap)).run P w' = .ok us.toArray w' :=
  run_firstCells_some (P := P) w' size n a len cap us hl (fun j v hv => by rw [hc]; exact h j v hv)

/-- the real slice behind a plain one -/
theorem slice_real {b o len cap : Nat} {u : Value} (hv : VR ρ (.slice b o len cap) u) : ∃ a en, ρ b = some en ∧ u = .slice (some a) len cap ∧ len ≤ cap ∧ (a = en.at o ∨ (len = 0 ∧ cap = 0)) := by
  cases hv with
  | slice _ _ _ _ en hen hlc => exact ⟨_, en, hen, rfl, hlc, .inl rfl⟩
  | sliceZ _ _ en a hen => exact ⟨a, en, hen, rfl, Nat.le_refl _, .inr ⟨rfl, rfl⟩⟩

theorem slice_cells (h : Rel B w0 ρ S w) {b o len : Nat} {a : Addr} {en : Ent} (hen : ρ b = some en) (ha : a = en.at o ∨ len = 0) {size : Nat} {cs : List XV} (hcs : S.cellsFrom b o (len * size) = some cs) :
    ∃ us, VRs ρ cs us ∧ us.length = len * size ∧ ∀ j v, us[j]? = some v → w.cell? (a.add j) = some v := by
  obtain ⟨us, h1, h2, h3⟩ := cells_read h hen (len * size) o cs hcs
  refine ⟨us, h1, h2, fun j v hj => ?_⟩
  rcases ha with ha | ha
  · rw [ha]; exact h3 j v hj
  · have : us = [] := List.eq_nil_of_length_eq_zero (by rw [h2, ha]; simp)
    rw [this] at hj; simp at hj

/-- what was read of a block -/
theorem cellsFrom_mem {S : XS} {b : Nat} {cs : List XV} {k : XKind} (hg : S.get b = .cells cs k) : ∀ (n o : Nat) (l : List XV), S.cellsFrom b o n = some l → ∀ v, v ∈ l → v ∈ cs ∧ v.live = true
  | 0, o, l, h, v, hv => by simp only [XS.cellsFrom] at h; injection h with h; subst h; cases hv
  | n + 1, o, l, h, v, hv => by
    simp only [XS.cellsFrom] at h
    split at h
    case h_2 => cases h
    case h_1 x hx =>
    split at h
    case h_2 => cases h
    case h_1 r hr =>
    injection h with h
    subst h
    rcases List.mem_cons.1 hv with rfl | hv
    · unfold XS.cell at hx
      rw [hg] at hx
      obtain ⟨q1, q2⟩ := cellAt_get hx
      exact ⟨List.mem_of_getElem? q1, q2⟩
    · exact cellsFrom_mem hg n (o + 1) r hr v hv

theorem ok_flat (h : Rel B w0 ρ S w) {b : Nat} {e : Ent} (he : ρ b = some e) {cs : List XV} {k : XKind} (hg : S.get b = .cells cs k) {n o : Nat} {l : List XV} (hl : S.cellsFrom b o n = some l) (hok : okCells k l = true) : Flat l := by
  intro v hv hlv
  have hblk := h.blk b e he
  rw [hg] at hblk
  unfold okCells at hok
  rw [Bool.or_eq_true] at hok
  rcases hok with hk | hk
  · obtain ⟨q1, q2⟩ := cellsFrom_mem hg n o l hl v hv
    cases k with
    | ro => cases hk
    | own => cases hk
    | arr esz => exact hblk.1.2.2.1 v q1 q2
    | loose esz m => exact hblk.1.2.2.2.1 v q1 q2
  · have := List.all_eq_true.1 hk v hv
    simpa using this

theorem appended_run (h : Rel B w0 ρ S w) {e : TypeId} {x : XV} {ux : Value} {new : List XV} {n size : Nat} (hx : xappended P S e false x = some (new, n)) (hv : VR ρ x ux) (hsz : tsize P e = some size) :
    ∃ us, VRs ρ new us ∧ Flat new ∧ us.length = n * size ∧ (∀ w, (Builtin.lenOf ux).run P w = .ok n w) ∧ ∀ w', (∀ a, w'.cell? a = w.cell? a) → (Builtin.firstCells size n ux).run P w' = .ok us.toArray w' := by
  unfold xappended at hx
  rw [hsz] at hx
  simp only [Bool.false_eq_true, if_false] at hx
  split at hx
  · injection hx with hx
    simp only [Prod.mk.injEq] at hx
    obtain ⟨rfl, rfl⟩ := hx
    cases hv
    exact ⟨[], .nil, (fun v hv => by cases hv), by simp, fun w => rfl, fun w' _ => rfl⟩
  · rename_i b o m cap
    split at hx
    case h_2 => cases hx
    case h_1 cs0 k cs hg hcs =>
    split at hx
    case isFalse => cases hx
    rename_i hok
    injection hx with hx
    simp only [Prod.mk.injEq] at hx
    obtain ⟨rfl, rfl⟩ := hx
    obtain ⟨a, en, hen, rfl, _, ha⟩ := slice_real hv
    obtain ⟨us, h1, h2, h3⟩ := slice_cells h hen (ha.imp id (·.1)) hcs
    exact ⟨us, h1, ok_flat h hen hg hcs hok, h2, fun w => rfl, fun w' hw => firstCells_slice h2 hw h3⟩
  · rename_i b o m
    split at hx
    case h_2 => cases hx
    case h_1 cs0 k cs hg hcs =>
    split at hx
    case isFalse => cases hx
    rename_i hok
    injection hx with hx
    simp only [Prod.mk.injEq] at hx
    obtain ⟨rfl, rfl⟩ := hx
    have real : ∃ a cap' en, ρ b = some en ∧ ux = .slice (some a) m cap' ∧ (a = en.at o ∨ m = 0) := by
      cases hv with
      | part _ _ _ cap' en hen _ => exact ⟨_, cap', en, hen, rfl, .inl rfl⟩
      | partZ _ _ cap' en a hen => exact ⟨a, cap', en, hen, rfl, .inr rfl⟩
    obtain ⟨a, cap', en, hen, rfl, ha⟩ := real
    obtain ⟨us, h1, h2, h3⟩ := slice_cells h hen ha hcs
    exact ⟨us, h1, ok_flat h hen hg hcs hok, h2, fun w => rfl, fun w' hw => firstCells_slice h2 hw h3⟩
  · rename_i b
    split at hx
    case h_2 => cases hx
    case h_1 cs esz m hg =>
    split at hx
    case isFalse => cases hx
    rename_i hc
    obtain ⟨rfl, hlive⟩ := hc
    injection hx with hx
    simp only [Prod.mk.injEq] at hx
    obtain ⟨rfl, rfl⟩ := hx
    obtain ⟨cap', us, en, hen, rfl, _, _, h1, h2, h3⟩ := sl_cells h hv hg
    obtain ⟨_, _, _, _, _, hfl, _⟩ := loose_n h hen hg
    exact ⟨us, h1.vrs fun v hv => List.all_eq_true.1 hlive v hv, hfl, h2, fun w => rfl, fun w' hw => firstCells_slice h2 hw h3⟩
  · rename_i t mm cs m
    split at hx
    case isFalse => cases hx
    rename_i hc
    obtain ⟨hlen, hlive⟩ := hc
    injection hx with hx
    simp only [Prod.mk.injEq] at hx
    obtain ⟨rfl, rfl⟩ := hx
    obtain ⟨a, cap, us, rfl, _, _, h1, hfl, h0, h3⟩ := row_cells h hv
    have h2 : us.length = m * size := by rw [← h1.1]; exact hlen
    cases a with
    | none =>
      obtain ⟨rfl, rfl, rfl⟩ := h0 rfl
      have : us = [] := List.eq_nil_of_length_eq_zero (by simpa using h2)
      subst this
      exact ⟨[], .nil, hfl, by simp, fun w => rfl, fun w' _ => rfl⟩
    | some a =>
    refine ⟨us, h1.vrs fun v hv => List.all_eq_true.1 hlive v hv, hfl, h2, fun w => rfl, fun w' hw => firstCells_slice h2 hw fun j v hj => h3 a rfl ?_ j v hj⟩
    rcases Nat.eq_zero_or_pos m with z | z
    · subst z
      have : us = [] := List.eq_nil_of_length_eq_zero (by simpa using h2)
      rw [this] at hj; simp at hj
    · exact z
  · rename_i s
    split at hx
    case isFalse => cases hx
    rename_i hs1
    subst hs1
    injection hx with hx
    simp only [Prod.mk.injEq] at hx
    obtain ⟨rfl, rfl⟩ := hx
    cases hv
    have hsz' : (⟨s.toArray⟩ : ByteArray).size = s.length := by simp [ByteArray.size]
    refine ⟨s.map fun b => Value.int .u8 b.toNat, ?_, fun v hv _ => ?_, by simp, fun w => ?_, fun w' _ => ?_⟩
    · refine VRs.of_get (by simp) fun i x v hx hv => ?_
      simp only [List.getElem?_map, Option.map_eq_some_iff] at hx hv
      obtain ⟨a, ha, rfl⟩ := hx
      obtain ⟨b, hb, rfl⟩ := hv
      rw [ha] at hb; injection hb with hb; subst hb
      exact .int _ _
    · obtain ⟨n, _, rfl⟩ := List.mem_map.1 hv
      exact ⟨rfl, rfl⟩
    · simp only [Builtin.lenOf, Sem.run_pure, hsz']
    · simp only [Builtin.firstCells, extract_list, Sem.run_pure]
      simp
  · cases hx

theorem flat_ones {new : List XV} {us : List Value} (hv : VRs ρ new us) (hf : Flat new) : ∀ u, u ∈ us → u.oneCell' = true := by
  intro u hu
  obtain ⟨i, hi⟩ := List.mem_iff_getElem?.1 hu
  have hlt : i < new.length := by
    rw [hv.length]
    rcases Nat.lt_or_ge i us.length with hq | hq
    · exact hq
    · rw [List.getElem?_eq_none hq] at hi; cases hi
  obtain ⟨v, hv1, hv2⟩ := hv.get (List.getElem?_eq_getElem hlt)
  rw [hi] at hv1
  injection hv1 with hv1
  subst hv1
  have hl : (new[i]).live = true := by
    generalize new[i] = x at hv2
    cases hv2 <;> rfl
  exact XV.one_of hv2 (hf _ (List.getElem_mem hlt) hl).1

/-- behind a growth -/
theorem grown_sim (h : Rel B w0 ρ S w) {S1 : XS} (hb : base ≤ S.size) (hb1 : S1.size = S.size) (hr1 : Rel B w0 ρ S1 w) {W : List (Nat × Nat)} (he1 : Ev base ρ S w ρ S1 w W) (hlog : S1.log = W ++ S.log)
    {old new : List XV} {uo un : List Value} (ho : VLs ρ old uo) (hn : VLs ρ new un) (hfo : Flat old) (hfn : Flat new) {size m n c : Nat} (hs0 : 0 < size) (hol : uo.length = m * size) (hnl : un.length = n * size) (hc : m + n ≤ c) (rest : Array Value) (hrest : rest.size = (c - (m + n)) * size) (t : TypeId) {s : Sem Value}
    (hrun : s.run P w = .ok (.slice (some ⟨w.heap.size, 0, none⟩) (m + n) c) (w.drew.alloc (.cells (uo.toArray ++ (un.toArray ++ rest)) t))) :
    Sim P B w0 base ρ S w s (.sl S.size) (S1.push (.cells (old ++ new) (.loose size (m + n)))) := by
  have hlen : (old ++ new).length = (m + n) * size := by
    rw [(ho.append hn).1, List.length_append, hol, hnl, Nat.add_mul]
  obtain ⟨ρ', r1, r2, r3⟩ := loose_alloc hr1 (base := base) (by omega) (old ++ new) (uo ++ un) (ho.append hn) (hfo.append hfn) size (m + n) hs0 hlen rest t (0, 0) (.inr rfl)
  have harr : (uo ++ un).toArray ++ rest = uo.toArray ++ (un.toArray ++ rest) := by apply Array.toList_inj.1; simp
  rw [harr] at r1 r2
  rw [hb1] at r3
  have hrs : (uo ++ un).length + rest.size = c * size := by
    rw [List.length_append, hol, hnl, hrest, ← Nat.add_mul, ← Nat.add_mul, show m + n + (c - (m + n)) = c by omega]
  rw [hrs] at r3
  exact sim_loose r1 (he1.trans hb r2) (by rw [XS.log_push, hlog]; rfl) r3 c hc (Nat.le_refl _) hrun

theorem xappend_sound (h : Rel B w0 ρ S w) (hb : base ≤ S.size) {ts : Array TypeId} {t e ty : TypeId} {us : Array Value} {s x v : XV} {u ux : Value} {new : List XV} {n : Nat} {S' : XS}
    (ht : ts[0]? = some t) (hu : us[0]? = some u) (hux : us[1]? = some ux) (he : sliceElem P t = some e) (hz : NoZeros P ts) (hvs : VR ρ s u) (hvx : VR ρ x ux) (happ : xappended P S e false x = some (new, n))
    (hx : xappend P base S t s new n = some (v, S')) : Sim P B w0 base ρ S w (Builtin.append_ ts ty us) v S' := by
  have hue := slice_elem he
  unfold xappend at hx
  rw [he] at hx
  simp only at hx
  split at hx
  case h_2 => cases hx
  case h_1 i hi =>
  split at hx
  · cases hx
  rename_i hcond
  simp only [not_or, Decidable.not_not] at hcond
  obtain ⟨hs0, hby0, hnl0, hzo⟩ := hcond
  have hsz : tsize P e = some i.size := by simp [tsize, hi]
  obtain ⟨un, hn1, hnf, hn2, hn3, hn4⟩ := appended_run h happ hvx hsz
  have hones := flat_ones hn1 hnf
  obtain ⟨z, hzero, hzs⟩ : ∃ z, i.zero = some z ∧ z.cells.size = i.size := by
    have hzo' : zeroOK P e i.size = true := by simpa using hzo
    unfold zeroOK zeroCells at hzo'
    rw [hi] at hzo'
    simp only at hzo'
    split at hzo'
    · rename_i zl hzl
      split at hzl
      case h_2 => cases hzl
      case h_1 z hz0 =>
      split at hzl
      case h_2 => cases hzl
      case h_1 zv hzv =>
      injection hzl with hzl
      refine ⟨z, hz0, ?_⟩
      have := size_cells (ofValue_vr (ρ := ρ) hzv)
      rw [this, hzl]
      simpa using hzo'
    · cases hzo'
  have hrest : ∀ k, (Builtin.zeroCells z.cells k).size = k * i.size := fun k => by rw [size_zeroCells, hzs]
  split at hx
  case h_5 => cases hx
  case h_1 =>
    cases hvs
    split at hx
    · rename_i hn0
      subst hn0
      injection hx with hx
      simp only [Prod.mk.injEq] at hx
      obtain ⟨rfl, rfl⟩ := hx
      have hun : un = [] := List.eq_nil_of_length_eq_zero (by simpa using hn2)
      refine Sim.pure h ?_ .nilSlice
      exact append_same ht hu hux hue hsz hz hn3 (by rw [hn4 w (fun _ => rfl), hun]) (Nat.le_refl _)
    · rename_i hn0
      split at hx
      case isFalse => cases hx
      rename_i hbd
      injection hx with hx
      simp only [Prod.mk.injEq] at hx
      obtain ⟨rfl, rfl⟩ := hx
      obtain ⟨c, hc, hrun⟩ := append_grow (P := P) (w := w) (ty := ty) ht hu hux hue hi hby0 hzero hzs hz hn3 (old := []) (new := un) (n := n) (by simp [Builtin.firstCells]) (hn4 _ (fun _ => rfl)) (by omega) (by simpa using hbd)
      have := grown_sim (P := P) (m := 0) (n := n) (size := i.size) h hb rfl h Ev.refl rfl .nil hn1.vls (fun v hv => by cases hv) hnf (by omega) (by simp) hn2 (by simpa using hc) _ (hrest (c - (0 + n))) e (by simpa using hrun)
      simpa using this
  case h_2 b =>
    split at hx
    · rename_i hn0
      subst hn0
      injection hx with hx
      simp only [Prod.mk.injEq] at hx
      obtain ⟨rfl, rfl⟩ := hx
      have hun : un = [] := List.eq_nil_of_length_eq_zero (by simpa using hn2)
      refine Sim.pure h (u := u) ?_ hvs
      cases hvs with
      | sl _ cap' en esz k rsz hen hl hnc hroom =>
      exact append_same ht hu hux hue hsz hz hn3 (by rw [hn4 w (fun _ => rfl), hun]) hnc
    · rename_i hn0
      split at hx
      case h_2 => cases hx
      case h_1 cs esz m hg =>
      split at hx
      case isFalse => cases hx
      rename_i hc3
      obtain ⟨rfl, hbd⟩ := hc3
      injection hx with hx
      simp only [Prod.mk.injEq] at hx
      obtain ⟨rfl, rfl⟩ := hx
      obtain ⟨cap', uo, en, hen, rfl, hmc, ⟨rsz, hlo, hrs⟩, ho1, ho2, ho3⟩ := sl_cells h hvs hg
      obtain ⟨rsz2, hlo2, hBe, hz0, hcl, hcf, hin, hroomy⟩ := loose_n h hen hg
      rw [hlo] at hlo2
      injection hlo2 with hlo2
      simp only [Prod.mk.injEq, true_and] at hlo2
      subst hlo2
      by_cases hroom : m + n ≤ cap'
      · -- in its own spare room
        have hsum : (m + n) * i.size ≤ cap' * i.size := Nat.mul_le_mul_right _ hroom
        have hmul : (m + n) * i.size = m * i.size + n * i.size := Nat.add_mul ..
        obtain ⟨q1, q2⟩ := rel_inplace h base hb hen hg hlo hn1.vls hnf (m := n) (by rw [hn1.length, hn2]) (by omega)
        have hst := run_storeCells P en.blk un 0 (en.sh + m * i.size) w hones (fun j hj => hroomy _ (by rw [hn2] at hj; omega))
        have hrun := append_room (P := P) (w := w) (ty := ty) ht hu hux hue hsz hz hn3 (hn4 w fun _ => rfl) hroom (w' := setCells w en.blk (en.sh + m * i.size) un) (by
          rw [at_add]
          have e1 : en.at (0 + m * i.size) = ⟨en.blk, en.sh + m * i.size, none⟩ := by unfold Ent.at; simp only [Addr.mk.injEq, true_and, and_true]; omega
          rw [e1]
          simpa using hst)
        refine ⟨_, _, _, _, hrun, ?_, q1, q2, ?_⟩
        · have := VR.sl (ρ := ρ.set S.size ⟨en.blk, en.sh, some (i.size, m + n, rsz)⟩) S.size cap' _ i.size (m + n) rsz (Emb.set_same _ _ _) rfl hroom hrs
          simpa [Ent.at] using this
        · rw [XS.log_push, XS.log_kill]
      · obtain ⟨k1, k2⟩ := rel_kill h base b hen cs (.loose i.size m) (by simp) hg (by simp [XKind.room])
        obtain ⟨c, hc, hrun⟩ := append_grow (P := P) (w := w) (ty := ty) ht hu hux hue hi hby0 hzero hzs hz hn3 (old := uo) (new := un) (n := n) (firstCells_slice ho2 (fun _ => rfl) ho3) (hn4 _ (fun _ => rfl)) (by omega) hbd
        exact grown_sim (P := P) (m := m) (n := n) (size := i.size) h hb (XS.size_kill S base b (cs.length + 1)) k1 k2 (XS.log_kill S base b (cs.length + 1)) ho1 hn1.vls hcf hnf (by omega) ho2 hn2 hc _ (hrest (c - (m + n))) e hrun
  case h_3 b o len cap =>
    obtain ⟨a, en, hen, rfl, hlc0, ha⟩ := slice_real hvs
    split at hx
    · rename_i hn0
      subst hn0
      injection hx with hx
      simp only [Prod.mk.injEq] at hx
      obtain ⟨rfl, rfl⟩ := hx
      have hun : un = [] := List.eq_nil_of_length_eq_zero (by simpa using hn2)
      refine Sim.pure h ?_ hvs
      exact append_same ht hu hux hue hsz hz hn3 (by rw [hn4 w (fun _ => rfl), hun]) hlc0
    · rename_i hn0
      split at hx
      · rename_i hroom
        split at hx
        case h_2 => cases hx
        case h_1 S2 hS2 =>
        injection hx with hx
        simp only [Prod.mk.injEq] at hx
        obtain ⟨rfl, rfl⟩ := hx
        have ha' : a = en.at o := by rcases ha with q | q <;> first | exact q | omega
        subst ha'
        obtain ⟨p1, p2, W, p3, p4, p5, p6⟩ := rel_storeN hen new un (o + len * i.size) S S2 w h hb hS2 hn1
        have hst := run_storeCells P en.blk un 0 (o + len * i.size + en.sh) w p1 (by simpa using p2)
        have hrun := append_room (P := P) (w := w) (ty := ty) ht hu hux hue hsz hz hn3 (hn4 w fun _ => rfl) hroom (w' := setCells w en.blk (o + len * i.size + en.sh) un) (by
          rw [at_add]
          simpa [Ent.at] using hst)
        exact ⟨_, _, ρ, W, hrun, .slice _ _ _ _ en hen hroom, p3, p4, p5⟩
      · rename_i hroom
        split at hx
        case isFalse => cases hx
        rename_i hbd
        split at hx
        case h_2 => cases hx
        case h_1 cs0 k hg =>
        split at hx
        case h_2 => cases hx
        case h_1 old hold =>
        split at hx
        case isFalse => cases hx
        rename_i hok
        injection hx with hx
        simp only [Prod.mk.injEq] at hx
        obtain ⟨rfl, rfl⟩ := hx
        obtain ⟨uo, ho1, ho2, ho3⟩ := slice_cells h hen (ha.imp id (·.1)) hold
        obtain ⟨c, hc, hrun⟩ := append_grow (P := P) (w := w) (ty := ty) ht hu hux hue hi hby0 hzero hzs hz hn3 (old := uo) (new := un) (n := n) (firstCells_slice ho2 (fun _ => rfl) ho3) (hn4 _ (fun _ => rfl)) (by omega) hbd
        exact grown_sim (P := P) (m := len) (n := n) (size := i.size) h hb rfl h Ev.refl rfl ho1.vls hn1.vls (ok_flat h hen hg hold hok) hnf (by omega) ho2 hn2 hc _ (hrest (c - (len + n))) e hrun
  case h_4 tg mm cs len =>
    obtain ⟨a, cap, uo, rfl, hm, hlc, ho1, hcf, ho0, ho3⟩ := row_cells h hvs
    split at hx
    · rename_i hn0
      subst hn0
      injection hx with hx
      simp only [Prod.mk.injEq] at hx
      obtain ⟨rfl, rfl⟩ := hx
      have hun : un = [] := List.eq_nil_of_length_eq_zero (by simpa using hn2)
      refine Sim.pure h ?_ hvs
      exact append_same ht hu hux hue hsz hz hn3 (by rw [hn4 w (fun _ => rfl), hun]) hlc
    · rename_i hn0
      split at hx
      case isFalse => cases hx
      rename_i hc3
      obtain ⟨hmt, hclen, hbd⟩ := hc3
      injection hx with hx
      simp only [Prod.mk.injEq] at hx
      obtain ⟨rfl, rfl⟩ := hx
      have hcap := hm hmt
      subst hcap
      have ho2 : uo.length = cap * i.size := by rw [← ho1.1]; exact hclen
      have hold2 : ∀ w' : World, (∀ a, w'.cell? a = w.cell? a) → (Builtin.firstCells i.size cap (.slice a cap cap)).run P w' = .ok uo.toArray w' := fun w' hw => by
        cases a with
        | none =>
          obtain ⟨_, rfl, _⟩ := ho0 rfl
          have : uo = [] := List.eq_nil_of_length_eq_zero (by simpa using ho2)
          subst this
          simp [Builtin.firstCells]
        | some a =>
          refine firstCells_slice ho2 hw fun j v hj => ho3 a rfl ?_ j v hj
          rcases Nat.eq_zero_or_pos cap with z | z
          · rw [z] at ho2
            have : uo = [] := List.eq_nil_of_length_eq_zero (by simpa using ho2)
            rw [this] at hj; simp at hj
          · exact z
      obtain ⟨c, hc, hrun⟩ := append_grow (P := P) (w := w) (ty := ty) ht hu hux hue hi hby0 hzero hzs hz hn3 (old := uo) (new := un) (n := n) (hold2 _ (fun _ => rfl)) (hn4 _ (fun _ => rfl)) (by omega) hbd
      exact grown_sim (P := P) (m := cap) (n := n) (size := i.size) h hb rfl h Ev.refl rfl ho1 hn1.vls hcf hnf (by omega) ho2 hn2 hc _ (hrest (c - (cap + n))) e hrun

end
end Go.XM
