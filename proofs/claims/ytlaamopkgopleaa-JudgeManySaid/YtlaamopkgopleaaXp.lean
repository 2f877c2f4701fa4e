/- A plain machine beside the model, and that what it tells the model does: part Xp. Conditions: those of each theorem below. -/
import Derived.Test.YtlaamopkgopleaaXo
namespace Go.XM
open Go.RowKit
set_option linter.unusedVariables false

section
variable {P : Program} {B : Nat} {w0 : World} {base : Nat} {ρ : Emb} {S : XS} {w : World}

theorem firstCells_slice {size n : Nat} {a : Addr} {len cap : Nat} {us : List Value} (hl : us.length = n * size) {w w' : World} (hc : ∀ a, w'.cell? a = w.cell? a) (h : ∀ j v, us[j]? = some v → w.cell? (a.add j) = some v) :
    (Builtin.firstCells size n (.slice (some a) len cap)).run P w' = .ok us.toArray w' :=
  run_firstCells_some (P := P) w' size n a len cap us hl (fun j v hv => by rw [hc]; exact h j v hv)

/-- the real slice behind a plain one -/
theorem slice_real {b o len cap : Nat} {u : Value} (hv : VR ρ (.slice b o len cap) u) : ∃ a cap' en, ρ b = some en ∧ u = .slice (some a) len cap' ∧ (a = en.at o ∨ (len = 0 ∧ cap' = 0)) := by
  cases hv with
  | slice _ _ _ _ en hen _ => exact ⟨_, cap, en, hen, rfl, .inl rfl⟩
  | sliceL _ _ _ _ cap' en esz nn rsz hen _ _ _ _ => exact ⟨_, cap', en, hen, rfl, .inl rfl⟩
  | sliceZ _ _ _ en a hen _ => exact ⟨a, 0, en, hen, rfl, .inr ⟨rfl, rfl⟩⟩

theorem slice_cells (h : Rel B w0 ρ S w) {b o len cap : Nat} {a : Addr} {en : Ent} (hen : ρ b = some en) (ha : a = en.at o ∨ len = 0) {size : Nat} {cs : List XV} (hcs : S.cellsFrom b o (len * size) = some cs) :
    ∃ us, VRs ρ cs us ∧ us.length = len * size ∧ ∀ j v, us[j]? = some v → w.cell? (a.add j) = some v := by
  obtain ⟨us, h1, h2, h3⟩ := cells_read h hen (len * size) o cs hcs
  refine ⟨us, h1, h2, fun j v hj => ?_⟩
  rcases ha with ha | ha
  · rw [ha]; exact h3 j v hj
  · have : us = [] := List.eq_nil_of_length_eq_zero (by rw [h2, ha]; simp)
    rw [this] at hj; simp at hj

theorem appended_run (h : Rel B w0 ρ S w) {e : TypeId} {x : XV} {ux : Value} {new : List XV} {n size : Nat} (hx : xappended P S e false x = some (new, n)) (hv : VR ρ x ux) (hsz : tsize P e = some size) :
    ∃ us, VRs ρ new us ∧ us.length = n * size ∧ (∀ w, (Builtin.lenOf ux).run P w = .ok n w) ∧ ∀ w', (∀ a, w'.cell? a = w.cell? a) → (Builtin.firstCells size n ux).run P w' = .ok us.toArray w' := by
  unfold xappended at hx
  rw [hsz] at hx
  simp only [Bool.false_eq_true, if_false] at hx
  split at hx
  · injection hx with hx
    simp only [Prod.mk.injEq] at hx
    obtain ⟨rfl, rfl⟩ := hx
    cases hv
    exact ⟨[], .nil, by simp, fun w => rfl, fun w' _ => rfl⟩
  · rename_i b o m cap
    split at hx
    case h_2 => cases hx
    case h_1 cs hcs =>
    injection hx with hx
    simp only [Prod.mk.injEq] at hx
    obtain ⟨rfl, rfl⟩ := hx
    obtain ⟨a, cap', en, hen, rfl, ha⟩ := slice_real hv
    obtain ⟨us, h1, h2, h3⟩ := slice_cells (cap := cap) h hen (ha.imp id (·.1)) hcs
    exact ⟨us, h1, h2, fun w => rfl, fun w' hw => firstCells_slice h2 hw h3⟩
  · rename_i s
    split at hx
    case isFalse => cases hx
    rename_i hs1
    subst hs1
    injection hx with hx
    simp only [Prod.mk.injEq] at hx
    obtain ⟨rfl, rfl⟩ := hx
    cases hv
    have hsz' : (⟨s.toArray⟩ : ByteArray).size = s.length := by simp [ByteArray.size]
    refine ⟨s.map fun b => Value.int .u8 b.toNat, ?_, by simp, fun w => ?_, fun w' _ => ?_⟩
    · refine VRs.of_get (by simp) fun i x v hx hv => ?_
      simp only [List.getElem?_map, Option.map_eq_some_iff] at hx hv
      obtain ⟨a, ha, rfl⟩ := hx
      obtain ⟨b, hb, rfl⟩ := hv
      rw [ha] at hb; injection hb with hb; subst hb
      exact .int _ _
    · simp only [Builtin.lenOf, Sem.run_pure, hsz']
    · simp only [Builtin.firstCells, extract_list, Sem.run_pure]
      simp
  · cases hx

theorem one_all {new : List XV} {us : List Value} (hv : VRs ρ new us) (ho : new.all XV.oneCell = true) : ∀ u, u ∈ us → u.oneCell' = true := by
  intro u hu
  obtain ⟨i, hi⟩ := List.mem_iff_getElem?.1 hu
  have hlt : i < new.length := by
    rw [hv.length]
    rcases Nat.lt_or_ge i us.length with hq | hq
    · exact hq
    · rw [List.getElem?_eq_none hq] at hi; cases hi
  obtain ⟨v, hv1, hv2⟩ := hv.get (List.getElem?_eq_getElem hlt)
  rw [hi] at hv1
  injection hv1 with hv1
  subst hv1
  exact XV.one_of hv2 (List.all_eq_true.1 ho _ (List.getElem_mem hlt))

/-- behind a growth -/
theorem grown_sim (h : Rel B w0 ρ S w) {S1 : XS} (hb : base ≤ S.size) (hb1 : S1.size = S.size) (hr1 : Rel B w0 ρ S1 w) {W : List (Nat × Nat)} (he1 : Ev base ρ S w ρ S1 w W) (hlog : S1.log = W ++ S.log)
    {old new : List XV} {uo un : List Value} (ho : VRs ρ old uo) (hn : VRs ρ new un) {size m n c : Nat} (hs0 : 0 < size) (hol : uo.length = m * size) (hnl : un.length = n * size) (hc : m + n ≤ c) (rest : Array Value) (hrest : rest.size = (c - (m + n)) * size) (t : TypeId) {s : Sem Value}
    (hrun : s.run P w = .ok (.slice (some ⟨w.heap.size, 0, none⟩) (m + n) c) (w.drew.alloc (.cells (uo.toArray ++ (un.toArray ++ rest)) t))) :
    Sim P B w0 base ρ S w s (.slice S.size 0 (m + n) (m + n + 1)) (S1.push (.cells (old ++ new ++ List.replicate size .dead) (.loose size))) := by
  obtain ⟨ρ', r1, r2, r3⟩ := loose_alloc hr1 (base := base) (by omega) (old ++ new) (uo ++ un) (ho.append hn) size hs0 rest t (0, 0) (.inr rfl)
  have harr : (uo ++ un).toArray ++ rest = uo.toArray ++ (un.toArray ++ rest) := by apply Array.toList_inj.1; simp
  rw [harr] at r1 r2
  rw [hb1] at r3
  have hlen : (old ++ new).length = (m + n) * size := by
    rw [(ho.append hn).length, List.length_append, hol, hnl, Nat.add_mul]
  have hrs : (uo ++ un).length + rest.size = c * size := by
    rw [List.length_append, hol, hnl, hrest, ← Nat.add_mul, ← Nat.add_mul, show m + n + (c - (m + n)) = c by omega]
  rw [hlen, hrs] at r3
  exact sim_loose r1 (he1.trans hb r2) (by rw [XS.log_push, hlog]; rfl) r3 c hc (Nat.le_refl _) hrun

theorem xappend_sound (h : Rel B w0 ρ S w) (hb : base ≤ S.size) {ts : Array TypeId} {t e ty : TypeId} {us : Array Value} {s x v : XV} {u ux : Value} {new : List XV} {n : Nat} {S' : XS}
    (ht : ts[0]? = some t) (hu : us[0]? = some u) (hux : us[1]? = some ux) (he : sliceElem P t = some e) (hz : NoZeros P ts) (hvs : VR ρ s u) (hvx : VR ρ x ux) (happ : xappended P S e false x = some (new, n))
    (hx : xappend P base S t s new n = some (v, S')) : Sim P B w0 base ρ S w (Builtin.append_ ts ty us) v S' := by
  have hue := slice_elem he
  unfold xappend at hx
  rw [he] at hx
  simp only at hx
  split at hx
  case h_2 => cases hx
  case h_1 i hi =>
  split at hx
  · cases hx
  rename_i hcond
  simp only [not_or, Decidable.not_not] at hcond
  obtain ⟨hs0, hby0, hnl0, hone, hzo⟩ := hcond
  have hsz : tsize P e = some i.size := by simp [tsize, hi]
  have hone' : new.all XV.oneCell = true := by simpa using hone
  obtain ⟨un, hn1, hn2, hn3, hn4⟩ := appended_run h happ hvx hsz
  have hones := one_all hn1 hone'
  obtain ⟨z, hzero, hzs⟩ : ∃ z, i.zero = some z ∧ z.cells.size = i.size := by
    have hzo' : zeroOK P e i.size = true := by simpa using hzo
    unfold zeroOK zeroCells at hzo'
    rw [hi] at hzo'
    simp only at hzo'
    split at hzo'
    · rename_i zl hzl
      split at hzl
      case h_2 => cases hzl
      case h_1 z hz0 =>
      split at hzl
      case h_2 => cases hzl
      case h_1 zv hzv =>
      injection hzl with hzl
      refine ⟨z, hz0, ?_⟩
      have := size_cells (ofValue_vr (ρ := ρ) hzv)
      rw [this, hzl]
      simpa using hzo'
    · cases hzo'
  have hrest : ∀ k, (Builtin.zeroCells z.cells k).size = k * i.size := fun k => by rw [size_zeroCells, hzs]
  split at hx
  case h_3 => cases hx
  case h_1 =>
    cases hvs
    split at hx
    · rename_i hn0
      subst hn0
      injection hx with hx
      simp only [Prod.mk.injEq] at hx
      obtain ⟨rfl, rfl⟩ := hx
      have hun : un = [] := List.eq_nil_of_length_eq_zero (by simpa using hn2)
      refine Sim.pure h ?_ .nilSlice
      exact append_same ht hu hux hue hsz hz hn3 (by rw [hn4 w (fun _ => rfl), hun]) (Nat.le_refl _)
    · rename_i hn0
      split at hx
      case isFalse => cases hx
      rename_i hbd
      injection hx with hx
      simp only [Prod.mk.injEq] at hx
      obtain ⟨rfl, rfl⟩ := hx
      obtain ⟨c, hc, hrun⟩ := append_grow (P := P) (w := w) (ty := ty) ht hu hux hue hi hby0 hzero hzs hz hn3 (old := []) (new := un) (n := n) (by simp [Builtin.firstCells]) (hn4 _ (fun _ => rfl)) (by omega) (by simpa using hbd)
      have := grown_sim (P := P) (m := 0) (n := n) (size := i.size) h hb rfl h Ev.refl rfl .nil hn1 (by omega) (by simp) hn2 (by simpa using hc) _ (hrest (c - (0 + n))) e (by simpa using hrun)
      simpa using this
  case h_2 b o len cap =>
    split at hx
    · rename_i hn0
      subst hn0
      split at hx
      case isFalse => cases hx
      rename_i hlc
      injection hx with hx
      simp only [Prod.mk.injEq] at hx
      obtain ⟨rfl, rfl⟩ := hx
      have hun : un = [] := List.eq_nil_of_length_eq_zero (by simpa using hn2)
      refine Sim.pure h (u := u) ?_ hvs
      have real : ∃ ba sCap, u = .slice ba len sCap ∧ len ≤ sCap := by
        cases hvs with
        | slice _ _ _ _ en hen _ => exact ⟨_, _, rfl, hlc⟩
        | sliceL _ _ _ _ cap' en esz nn rsz hen _ _ q _ => exact ⟨_, _, rfl, q⟩
        | sliceZ _ _ _ en a hen _ => exact ⟨_, _, rfl, Nat.le_refl _⟩
      obtain ⟨ba, sCap, rfl, hle⟩ := real
      exact append_same ht hu hux hue hsz hz hn3 (by rw [hn4 w (fun _ => rfl), hun]) hle
    · rename_i hn0
      split at hx
      case h_2 => cases hx
      case h_1 cs k hg =>
      split at hx
      · rename_i hre
        split at hx
        case isFalse => cases hx
        rename_i hc3
        obtain ⟨hbd, rfl, hne⟩ := hc3
        split at hx
        case h_2 => cases hx
        case h_1 old hold =>
        injection hx with hx
        simp only [Prod.mk.injEq] at hx
        obtain ⟨rfl, rfl⟩ := hx
        have hcne : cs ≠ [] := by intro q; subst q; simp at hne
        obtain ⟨a, cap', en, hen, rfl, ha⟩ := slice_real hvs
        obtain ⟨uo, ho1, ho2, ho3⟩ := slice_cells (cap := cap) h hen (ha.imp id (·.1)) hold
        have hreach : en.reach o cap = true := (reaches_iff h hen hg o cap).symm.trans hre
        have hblk := h.blk b en hen
        rw [hg] at hblk
        obtain ⟨_, hz0, rsz, hlo, hroomy⟩ := hblk.1
        by_cases hroom : len + n ≤ cap'
        · -- in its own spare room
          have hreal : a = en.at o ∧ o + en.sh + cap' * i.size ≤ rsz := by
            cases hvs with
            | slice _ _ _ _ en' hen' hr' => rw [hen] at hen'; injection hen' with hen'; subst hen'; rw [hreach] at hr'; cases hr'
            | sliceL _ _ _ _ _ en' esz nn rsz' hen' q1 q2 q3 q4 =>
              rw [hen] at hen'; injection hen' with hen'; subst hen'
              rw [hlo] at q1; injection q1 with q1; simp only [Prod.mk.injEq] at q1; obtain ⟨rfl, rfl, rfl⟩ := q1
              exact ⟨rfl, q4⟩
            | sliceZ _ _ _ en' a' hen' q => omega
          obtain ⟨rfl, hrs⟩ := hreal
          have hsum : len * i.size + n * i.size ≤ cap' * i.size := by rw [← Nat.add_mul]; exact Nat.mul_le_mul_right _ hroom
          obtain ⟨q1, q2⟩ := rel_inplace h base hb hen hg hlo (m := len * i.size) hold hn1 (by rw [hn2]; omega) hcne
          have hst := run_storeCells P en.blk un 0 (o + en.sh + len * i.size) w hones (fun j hj => hroomy _ (by rw [hn2] at hj; omega))
          have hrun := append_room (P := P) (w := w) (ty := ty) ht hu hux hue hsz hz hn3 (hn4 w fun _ => rfl) hroom (w' := setCells w en.blk (o + en.sh + len * i.size) un) (by
            rw [at_add]
            have e1 : en.at (o + len * i.size) = ⟨en.blk, o + en.sh + len * i.size, none⟩ := by unfold Ent.at; simp only [Addr.mk.injEq, true_and, and_true]; omega
            rw [e1]
            simpa using hst)
          refine ⟨_, _, _, _, hrun, ?_, q1, q2, ?_⟩
          · have hlen : (old ++ new ++ List.replicate i.size XV.dead).length = (len + n) * i.size + i.size := by
              simp only [List.length_append, List.length_replicate, cellsFrom_len _ _ _ hold, hn1.length, hn2, Nat.add_mul]
            have := VR.sliceL (ρ := ρ.set S.size ⟨en.blk, o + en.sh, some (i.size, (old ++ new ++ List.replicate i.size XV.dead).length, rsz)⟩) S.size 0 (len + n) (len + n + 1) cap' _ i.size _ rsz (Emb.set_same _ _ _) rfl
              (by rw [hlen, Nat.zero_add, Nat.add_mul (len + n) 1]; omega) hroom (by simpa using hrs)
            simpa [Ent.at] using this
          · rw [XS.log_push, XS.log_kill]
        · obtain ⟨k1, k2⟩ := rel_kill h base b hen cs (.loose i.size) (by simp) hg hcne
          obtain ⟨c, hc, hrun⟩ := append_grow (P := P) (w := w) (ty := ty) ht hu hux hue hi hby0 hzero hzs hz hn3 (old := uo) (new := un) (n := n) (firstCells_slice ho2 (fun _ => rfl) ho3) (hn4 _ (fun _ => rfl)) (by omega) hbd
          have := grown_sim (P := P) (m := len) (n := n) (size := i.size) h hb (XS.size_kill S base b cs.length) k1 k2 (XS.log_kill S base b cs.length) ho1 hn1 (by omega) ho2 hn2 hc _ (hrest (c - (len + n))) e hrun
          exact this
      · rename_i hre
        obtain ⟨a, cap', en, hen, rfl, ha⟩ := slice_real hvs
        have hreach : en.reach o cap = false := (reaches_iff h hen hg o cap).symm.trans (by simpa using hre)
        have hcap : cap' = cap ∧ (a = en.at o ∨ cap = 0) := by
          cases hvs with
          | slice _ _ _ _ en' hen' hr' => rw [hen] at hen'; injection hen' with hen'; subst hen'; exact ⟨rfl, .inl rfl⟩
          | sliceL _ _ _ _ _ en' esz nn rsz' hen' q1 q2 q3 q4 =>
            rw [hen] at hen'; injection hen' with hen'; subst hen'
            have : en.reach o cap = true := by simp [Ent.reach, q1, q2]
            rw [hreach] at this; cases this
          | sliceZ _ _ _ en' a hen' q =>
            rw [hen] at hen'; injection hen' with hen'; subst hen'
            rcases q with q | q
            · subst q; exact ⟨rfl, .inr rfl⟩
            · rw [hreach] at q; cases q
        obtain ⟨rfl, hacap⟩ := hcap
        split at hx
        · rename_i hroom
          split at hx
          case h_2 => cases hx
          case h_1 S2 hS2 =>
          injection hx with hx
          simp only [Prod.mk.injEq] at hx
          obtain ⟨rfl, rfl⟩ := hx
          have ha' : a = en.at o := by rcases hacap with q | q <;> first | exact q | omega
          subst ha'
          obtain ⟨p1, p2, W, p3, p4, p5, p6⟩ := rel_storeN hen new un (o + len * i.size) S S2 w h hb hS2 hn1
          have hst := run_storeCells P en.blk un 0 (o + len * i.size + en.sh) w p1 (by simpa using p2)
          have hrun := append_room (P := P) (w := w) (ty := ty) ht hu hux hue hsz hz hn3 (hn4 w fun _ => rfl) hroom (w' := setCells w en.blk (o + len * i.size + en.sh) un) (by
            rw [at_add]
            simpa [Ent.at] using hst)
          exact ⟨_, _, ρ, W, hrun, .slice _ _ _ _ en hen hreach, p3, p4, p5⟩
        · rename_i hroom
          split at hx
          case isFalse => cases hx
          rename_i hbd
          split at hx
          case h_2 => cases hx
          case h_1 old hold =>
          injection hx with hx
          simp only [Prod.mk.injEq] at hx
          obtain ⟨rfl, rfl⟩ := hx
          obtain ⟨uo, ho1, ho2, ho3⟩ := slice_cells (cap := cap') h hen (ha.imp id (·.1)) hold
          obtain ⟨c, hc, hrun⟩ := append_grow (P := P) (w := w) (ty := ty) ht hu hux hue hi hby0 hzero hzs hz hn3 (old := uo) (new := un) (n := n) (firstCells_slice ho2 (fun _ => rfl) ho3) (hn4 _ (fun _ => rfl)) (by omega) hbd
          exact grown_sim (P := P) (m := len) (n := n) (size := i.size) h hb rfl h Ev.refl rfl ho1 hn1 (by omega) ho2 hn2 hc _ (hrest (c - (len + n))) e hrun

end
end Go.XM
