/- A plain machine beside the model, and that what it tells the model does: part Xg. Conditions: those of each theorem below. -/
import Derived.Test.YtlaamopkgopleaaXf
namespace Go.XM
set_option linter.unusedVariables false
set_option linter.unusedSimpArgs false
open Go.RowKit
set_option linter.unusedVariables false

theorem blk_own {ρ : Emb} {B : Nat} {w : World} (hB : B ≤ w.heap.size) (cs : List XV) (arr : Array Value) (t : TypeId)
    (h : ∀ (i : Nat) (v : XV), cs[i]? = some v → v.live = true → ∃ u, arr[i]? = some u ∧ VR ρ v u) :
    BlkR ρ B (w.alloc (.cells arr t)) ⟨w.heap.size, 0, none⟩ (.cells cs .own) := by
  refine ⟨⟨hB, rfl⟩, fun o v ho hv => ?_⟩
  obtain ⟨u, hu, hr⟩ := h o v ho hv
  exact ⟨u, by rw [show Ent.at ⟨w.heap.size, 0, none⟩ o = ⟨w.heap.size, o, none⟩ from rfl, World.cell?_alloc_new]; exact hu, hr, fun _ => by
    rw [show Ent.at ⟨w.heap.size, 0, none⟩ o = ⟨w.heap.size, o, none⟩ from rfl, World.frozen?_alloc_new]⟩

theorem blk_arr {ρ : Emb} {B : Nat} {w : World} (hB : B ≤ w.heap.size) (cs : List XV) (arr : Array Value) (t : TypeId) {esz : Nat} (hz : 0 < esz) (hfl : Flat cs) (hlen : cs.length ≤ arr.size)
    (h : ∀ (i : Nat) (v : XV), cs[i]? = some v → v.live = true → ∃ u, arr[i]? = some u ∧ VR ρ v u) :
    BlkR ρ B (w.alloc (.cells arr t)) ⟨w.heap.size, 0, none⟩ (.cells cs (.arr esz)) := by
  obtain ⟨h1, h2⟩ := blk_own (B := B) hB cs arr t h
  refine ⟨⟨h1, hz, hfl, fun j hj => ?_⟩, fun o v ho hv => ?_⟩
  · rw [show Ent.at ⟨w.heap.size, 0, none⟩ j = ⟨w.heap.size, j, none⟩ from rfl, World.cell?_alloc_new, World.frozen?_alloc_new]
    refine ⟨?_, rfl⟩
    simp; omega
  · obtain ⟨u, q1, q2, q3⟩ := h2 o v ho hv
    exact ⟨u, q1, q2, fun _ => q3 (by simp)⟩

/-- a row is given up -/
theorem rel_kill {B : Nat} {w0 : World} {ρ : Emb} {S : XS} {w : World} (h : Rel B w0 ρ S w) (base b : Nat) {e0 : Ent} (he0 : ρ b = some e0) (cs : List XV) (k : XKind) (hk : k ≠ .ro) (hg : S.get b = .cells cs k) (hne : 0 < k.room cs) :
    Rel B w0 ρ (S.kill base b (k.room cs)) w ∧ Ev base ρ S w ρ (S.kill base b (k.room cs)) w (if b < base then noteAll b (k.room cs) [] else []) := by
  have hng : (S.get b).isGone = false := by rw [hg]; rfl
  have hsame : (S.kill base b (k.room cs)).get b = .gone := XS.get_kill_same _ _ hng
  have hother : ∀ c, c ≠ b → (S.kill base b (k.room cs)).get c = S.get c := fun c hc => XS.get_kill_other S base _ hc
  refine ⟨⟨h.below, h.Bw, fun c e hc => by simpa using h.dom c e hc, fun c e hc => ?_, fun c c' e e' hc hc' hq hn => ?_, h.lt, h.fz⟩,
    ⟨Emb.le_refl ρ, fun _ _ q _ => q, by simp, Nat.le_refl _, fun c hlt => ?_, fun c hgc hlt => ?_, fun p hp => ?_, fun c e' hc hq => .inr (.inl ⟨c, e', hq, hc, rfl⟩), fun r o hr => .inl (SameAt.refl _ _ _), fun r hr => .inl rfl, fun r o q1 q2 => ⟨q1, q2⟩, fun p hp => ?_, fun p hp => ?_, fun _ _ _ _ q _ => q⟩⟩
  · by_cases hcb : c = b
    · subst hcb; rw [hsame]; trivial
    · rw [hother c hcb]; exact h.blk c e hc
  · by_cases hcb : c = b
    · subst hcb; rw [hsame]; exact .inr (.inl rfl)
    · by_cases hcb' : c' = b
      · subst hcb'; rw [hsame]; exact .inr (.inr rfl)
      · rw [hother c hcb, hother c' hcb']; exact h.inj c c' e e' hc hc' hq hn
  · by_cases hcb : c = b
    · subst hcb
      rw [hsame, hg, if_pos hlt]
      exact ⟨hne, fun o ho => (mem_noteAll _ _ _ _).2 (.inl ⟨rfl, ho⟩)⟩
    · rw [hother c hcb]; exact BlkFrame.refl _ _ _
  · by_cases hcb : c = b
    · subst hcb; rw [hsame]; rfl
    · rw [hother c hcb]; exact hgc
  · split at hp
    · rcases (mem_noteAll _ _ _ _).1 hp with ⟨q, _⟩ | q
      · rw [q]; assumption
      · cases q
    · cases hp
  · split at hp
    · rcases (mem_noteAll _ _ _ _).1 hp with ⟨q, _⟩ | q
      · rw [q]; exact ⟨e0, he0⟩
      · cases q
    · cases hp
  · split at hp
    · rcases (mem_noteAll _ _ _ _).1 hp with ⟨q, q2⟩ | q
      · rw [q, hg]; exact ⟨q2, hk⟩
      · cases q
    · cases hp

/-- what was appended went into the row's own spare room -/
theorem rel_inplace {B : Nat} {w0 : World} {ρ : Emb} {S : XS} {w : World} (h : Rel B w0 ρ S w) (base : Nat) (hbase : base ≤ S.size) {b : Nat} {e : Ent} (he : ρ b = some e) {cs : List XV} {esz n m rsz : Nat}
    (hg : S.get b = .cells cs (.loose esz n)) (hl : e.loose = some (esz, n, rsz)) {new : List XV} {us : List Value} (hnew : VLs ρ new us) (hfl : Flat new) (hnl : new.length = m * esz)
    (hroom : e.sh + (n + m) * esz ≤ rsz) :
    Rel B w0 (ρ.set S.size ⟨e.blk, e.sh, some (esz, n + m, rsz)⟩) ((S.kill base b (cs.length + 1)).push (.cells (cs ++ new) (.loose esz (n + m)))) (setCells w e.blk (e.sh + n * esz) us) ∧
    Ev base ρ S w (ρ.set S.size ⟨e.blk, e.sh, some (esz, n + m, rsz)⟩) ((S.kill base b (cs.length + 1)).push (.cells (cs ++ new) (.loose esz (n + m)))) (setCells w e.blk (e.sh + n * esz) us)
      (if b < base then noteAll b (cs.length + 1) [] else []) := by
  have hf := h.fresh
  obtain ⟨hrk, hek⟩ := rel_kill h base b he cs (.loose esz n) (by simp) hg (by simp [XKind.room])
  change Rel B w0 ρ (S.kill base b (cs.length + 1)) w at hrk
  change Ev base ρ S w ρ (S.kill base b (cs.length + 1)) w (if b < base then noteAll b (cs.length + 1) [] else []) at hek
  generalize hE : (⟨e.blk, e.sh, some (esz, n + m, rsz)⟩ : Ent) = E at *
  generalize hX : (XBlk.cells (cs ++ new) (.loose esz (n + m))) = X at *
  generalize hK : S.kill base b (cs.length + 1) = K at *
  have hKs : K.size = S.size := by rw [← hK]; simp
  have hle : ρ.le (ρ.set S.size E) := Emb.le_set hf
  have hblk := h.blk b e he
  rw [hg] at hblk
  obtain ⟨⟨hBe, hz, hcl, hcf, rsz', hl', hin, hroomy⟩, hcells⟩ := hblk
  rw [hl] at hl'
  injection hl' with hl'
  simp only [Prod.mk.injEq, true_and] at hl'
  subst hl'
  have hmul : (n + m) * esz = n * esz + m * esz := Nat.add_mul ..
  have hng : (S.get b).isGone = false := by rw [hg]; rfl
  have hKb : K.get b = .gone := by rw [← hK]; exact XS.get_kill_same _ _ hng
  have hKo : ∀ c, c ≠ b → K.get c = S.get c := fun c hc => by rw [← hK]; exact XS.get_kill_other S base _ hc
  have hbS := h.dom b e he
  have cases_ : ∀ c x, ρ.set S.size E c = some x → (c = S.size ∧ x = E) ∨ (c ≠ S.size ∧ ρ c = some x) := by
    intro c x hx
    unfold Emb.set at hx
    simp only at hx
    split at hx
    · rename_i hq; exact .inl ⟨hq, by injection hx with hx; exact hx.symm⟩
    · rename_i hq; exact .inr ⟨hq, hx⟩
  have hKlen : (K.push X).get S.size = X := by rw [← hKs]; exact XS.get_push_new K X
  have hKp : ∀ c, c ≠ S.size → (K.push X).get c = K.get c := fun c hc => XS.get_push_old K X (by omega)
  -- every other block of that real row is gone
  have hgone : ∀ c x, ρ c = some x → x.blk = e.blk → (K.get c).isGone = true := by
    intro c x hx hq
    by_cases hcb : c = b
    · subst hcb; rw [hKb]; rfl
    · rw [hKo c hcb]
      rcases h.inj c b x e hx he hq hcb with hq1 | hq1 | hq1
      · have := hq1.2; rw [hg] at this; simp [XBlk.isRo] at this
      · exact hq1
      · rw [hng] at hq1; cases hq1
  have hEb : E.blk = e.blk := by rw [← hE]
  have hEs : E.sh = e.sh := by rw [← hE]
  have hcell : ∀ i, (setCells w e.blk (e.sh + n * esz) us).frozen? ⟨e.blk, i, none⟩ = w.frozen? ⟨e.blk, i, none⟩ := fun i => setCells_frozen _ _ _ _ _
  have hfz : Froz B (ρ.set S.size E) (setCells w e.blk (e.sh + n * esz) us) := by
    have hk := h.fz.but he hBe (w' := setCells w e.blk (e.sh + n * esz) us) fun r hr => setCells_other _ hr _ _ _
    refine ⟨hk.ok, hk.zc, fun c x hx hBx t o' => ?_⟩
    rcases cases_ c x hx with ⟨_, rfl⟩ | ⟨_, hx⟩
    · rw [hEb]; exact h.fz.zd b e he hBe t o'
    · exact h.fz.zd c x hx hBx t o'
  refine ⟨⟨setCells_below _ hBe _ _ _ h.below, h.Bw, ?_, ?_, ?_, ?_, hfz⟩, ⟨hle, ?_, ?_, ?_, ?_, ?_, hek.wb, ?_, ?_, ?_, fun r i q1 q2 => ⟨?_, (setCells_frozen _ _ _ _ _).trans q2⟩, hek.wd, hek.wl, fun _ _ _ _ q _ => q⟩⟩
  · intro c x hx
    rcases cases_ c x hx with ⟨rfl, _⟩ | ⟨_, hx⟩
    · simp [hKs]
    · have := h.dom c x hx; simp [hKs]; omega
  · intro c x hx
    rcases cases_ c x hx with ⟨rfl, rfl⟩ | ⟨hne', hx⟩
    · rw [hKlen, ← hX]
      refine ⟨⟨by rw [hEb]; exact hBe, hz, by simp [hcl, hnl, hmul], hcf.append hfl, rsz, by rw [← hE], by rw [hEs]; exact hroom, fun j hj => ?_⟩, fun i v hi hv => ?_⟩
      · rw [hEb]
        exact ⟨setCells_some _ _ _ _ _ (hroomy j hj).1, (hcell j).trans (hroomy j hj).2⟩
      · have hat : Ent.at x i = ⟨e.blk, i + e.sh, none⟩ := by unfold Ent.at; rw [hEb, hEs]
        rw [hat]
        have hul := hnew.1
        rcases Nat.lt_or_ge i cs.length with him | him
        · rw [List.getElem?_append_left him] at hi
          obtain ⟨u, hu, hr, _⟩ := hcells i v hi hv
          refine ⟨u, ?_, hr.mono hle, fun _ => ?_⟩
          · rw [setCells_out _ _ _ _ _ (.inl (by omega))]; exact hu
          · rw [hcell]; exact (hroomy _ (by omega)).2
        · rw [List.getElem?_append_right him] at hi
          have hlt : i - cs.length < new.length := by
            rcases Nat.lt_or_ge (i - cs.length) new.length with q | q
            · exact q
            · rw [List.getElem?_eq_none q] at hi; cases hi
          have hu := List.getElem?_eq_getElem (l := us) (i := i - cs.length) (by omega)
          refine ⟨us[i - cs.length]'(by omega), ?_, (hnew.2 _ v _ hi hu hv).mono hle, fun _ => ?_⟩
          · have := setCells_in e.blk us (e.sh + n * esz) w (fun j hj => (hroomy _ (by omega)).1) (i - cs.length) _ hu
            rwa [show e.sh + n * esz + (i - cs.length) = i + e.sh by omega] at this
          · rw [hcell]; exact (hroomy _ (by omega)).2
    · rw [hKp c hne']
      by_cases hq : x.blk = e.blk
      · have := hgone c x hx hq
        revert this; cases K.get c <;> simp [XBlk.isGone, BlkR]
      · have := hrk.blk c x hx
        exact this.move hle (setCells_other _ hq _ _ _)
  · intro c c' x x' hx hx' hq hn
    rcases cases_ c x hx with ⟨q1, q2⟩ | ⟨hne1, hx1⟩
    · rcases cases_ c' x' hx' with ⟨q3, q4⟩ | ⟨hne2, hx2⟩
      · exact absurd (q1.trans q3.symm) hn
      · refine .inr (.inr ?_)
        rw [hKp c' hne2]
        exact hgone c' x' hx2 (by rw [← hq, q2, hEb])
    · rcases cases_ c' x' hx' with ⟨q3, q4⟩ | ⟨hne2, hx2⟩
      · refine .inr (.inl ?_)
        rw [hKp c hne1]
        exact hgone c x hx1 (by rw [hq, q4, hEb])
      · rw [hKp c hne1, hKp c' hne2]
        exact hrk.inj c c' x x' hx1 hx2 hq hn
  · intro c x hx
    rw [setCells_size]
    rcases cases_ c x hx with ⟨rfl, rfl⟩ | ⟨_, hx⟩
    · rw [hEb]; exact h.lt b e he
    · exact h.lt c x hx
  · intro c x hx hlt
    rcases cases_ c x hx with ⟨rfl, rfl⟩ | ⟨_, hx⟩
    · omega
    · exact hx
  · simp [hKs]
  · rw [setCells_size]; exact Nat.le_refl _
  · intro c hlt
    rw [hKp c (by omega)]
    exact hek.canon c hlt
  · intro c hgc hlt
    rw [hKp c (by omega)]
    exact hek.gone c hgc hlt
  · intro c x hx hlt
    rcases cases_ c x hx with ⟨rfl, rfl⟩ | ⟨_, hx⟩
    · rcases Nat.lt_or_ge b base with hb | hb
      · refine .inr (.inr ⟨(b, 0), ?_, e, he, hEb.symm, ?_⟩)
        · rw [if_pos hb]
          exact (mem_noteAll _ _ _ _).2 (.inl ⟨rfl, by simp⟩)
        · rw [hKp b (by omega), hKb]; rfl
      · exact .inr (.inl ⟨b, e, hb, he, hEb.symm⟩)
    · exact .inr (.inl ⟨c, x, hlt, hx, rfl⟩)
  · intro r i hr
    by_cases hre : r = e.blk
    · rcases Nat.lt_or_ge b base with hb | hb
      · refine .inr (.inl ⟨(b, 0), ?_, e, he, hre.symm, .inr ?_⟩)
        · rw [if_pos hb]
          exact (mem_noteAll _ _ _ _).2 (.inl ⟨rfl, by simp⟩)
        · rw [hKp b (by omega), hKb]; rfl
      · exact .inr (.inr ⟨b, e, hb, he, hre.symm⟩)
    · exact .inl (SameAt.of_block (setCells_other _ hre _ _ _) i)
  · intro r hr
    by_cases hre : r = e.blk
    · rcases Nat.lt_or_ge b base with hb | hb
      · refine .inr (.inl ⟨(b, 0), ?_, e, he, hre.symm⟩)
        rw [if_pos hb]
        exact (mem_noteAll _ _ _ _).2 (.inl ⟨rfl, by simp⟩)
      · exact .inr (.inr ⟨b, e, hb, he, hre.symm⟩)
    · exact .inl (setCells_other _ hre _ _ _)
  · by_cases hre : r = e.blk
    · subst hre; exact setCells_some _ _ _ _ _ q1
    · rw [(SameAt.of_block (setCells_other _ hre _ _ _) i).1]; exact q1

/-- an iterator goes on -/
theorem rel_iter {B : Nat} {w0 : World} {ρ : Emb} {S : XS} {w : World} (h : Rel B w0 ρ S w) (base : Nat) {b : Nat} {e : Ent} (he : ρ b = some e) {s : List UInt8} {pos pos' : Nat} (hg : S.get b = .iter s pos) :
    Rel B w0 ρ ((S.put b (.iter s pos')).note base b 0) { w with heap := w.heap.setIfInBounds e.blk (.stringIter ⟨s.toArray⟩ pos') } ∧
    Ev base ρ S w ρ ((S.put b (.iter s pos')).note base b 0) { w with heap := w.heap.setIfInBounds e.blk (.stringIter ⟨s.toArray⟩ pos') } (if b < base then [(b, 0)] else []) := by
  have hng : (S.get b).isGone = false := by rw [hg]; rfl
  have hblk := h.blk b e he
  rw [hg] at hblk
  obtain ⟨⟨hBe, hsh0, hlo0⟩, hobj⟩ := hblk
  generalize hw' : ({ w with heap := w.heap.setIfInBounds e.blk (.stringIter ⟨s.toArray⟩ pos') } : World) = w' at *
  have hsz : w'.heap.size = w.heap.size := by rw [← hw']; simp
  have hoth : ∀ r, r ≠ e.blk → w'.heap[r]? = w.heap[r]? := fun r hr => by rw [← hw']; simp [Array.getElem?_setIfInBounds]; omega
  have hhere : w'.heap[e.blk]? = some (.stringIter ⟨s.toArray⟩ pos') := by
    rw [← hw']
    have : e.blk < w.heap.size := h.lt b e he
    simp [this]
  have hsame : ((S.put b (.iter s pos')).note base b 0).get b = .iter s pos' := by rw [XS.get_note, XS.get_put_same _ hng]
  have hother : ∀ c, c ≠ b → ((S.put b (.iter s pos')).note base b 0).get c = S.get c := fun c hc => by rw [XS.get_note, XS.get_put_other _ hc]
  have hbel : Below B w0 w' := h.below.trans (by
    rw [← hw']
    refine ⟨rfl, rfl, rfl, by simp, fun k hk => ?_⟩
    simp [Array.getElem?_setIfInBounds]; omega)
  refine ⟨⟨hbel, h.Bw, fun c x hx => by simpa using h.dom c x hx, fun c x hx => ?_, fun c c' x x' hx hx' hq hn => ?_, fun c x hx => by rw [hsz]; exact h.lt c x hx, h.fz.but he hBe hoth⟩,
    ⟨Emb.le_refl ρ, fun _ _ q _ => q, by simp, by omega, fun c hlt => ?_, fun c hgc hlt => ?_, fun p hp => ?_, fun c e' hc hq => .inr (.inl ⟨c, e', hq, hc, rfl⟩), fun r o hr => ?_, fun r hr => ?_, fun r o q1 q2 => ?_, fun p hp => ?_, fun p hp => ?_, fun _ _ _ _ q _ => q⟩⟩
  · by_cases hcb : c = b
    · subst hcb; rw [he] at hx; injection hx with hx; subst hx; rw [hsame]; exact ⟨⟨hBe, hsh0, hlo0⟩, hhere⟩
    · rw [hother c hcb]
      by_cases hgc : (S.get c).isGone = true
      · revert hgc; cases S.get c <;> simp [XBlk.isGone, BlkR]
      · refine (h.blk c x hx).move (Emb.le_refl ρ) (hoth _ fun hq => ?_)
        rcases h.inj c b x e hx he hq hcb with hq1 | hq1 | hq1
        · have := hq1.2; rw [hg] at this; simp [XBlk.isRo] at this
        · exact hgc hq1
        · rw [hng] at hq1; cases hq1
  · have hgo : ∀ d, (((S.put b (.iter s pos')).note base b 0).get d).isGone = (S.get d).isGone ∧ (((S.put b (.iter s pos')).note base b 0).get d).isRo = (S.get d).isRo := fun d => by
      by_cases hd : d = b
      · subst hd; rw [hsame, hg]; exact ⟨rfl, rfl⟩
      · rw [hother d hd]; exact ⟨rfl, rfl⟩
    rw [(hgo c).1, (hgo c').1, (hgo c).2, (hgo c').2]
    exact h.inj c c' x x' hx hx' hq hn
  · by_cases hcb : c = b
    · subst hcb
      rw [hsame, hg, if_pos hlt]
      exact ⟨rfl, fun hm => absurd (by simp) hm⟩
    · rw [hother c hcb]; exact BlkFrame.refl _ _ _
  · by_cases hcb : c = b
    · subst hcb; rw [hng] at hgc; cases hgc
    · rw [hother c hcb]; exact hgc
  · split at hp
    · simp at hp; subst hp; assumption
    · cases hp
  · by_cases hre : r = e.blk
    · subst hre
      rcases Nat.lt_or_ge b base with hb | hb
      · refine .inl ⟨?_, ?_⟩
        · unfold World.cell?; rw [hhere, hobj]
        · unfold World.frozen?; rw [hhere, hobj]
      · exact .inr (.inr ⟨b, e, hb, he, rfl⟩)
    · exact .inl (SameAt.of_block (hoth r hre) o)
  · by_cases hre : r = e.blk
    · subst hre
      rcases Nat.lt_or_ge b base with hb | hb
      · exact .inr (.inl ⟨(b, 0), by simp [hb], e, he, rfl⟩)
      · exact .inr (.inr ⟨b, e, hb, he, rfl⟩)
    · exact .inl (hoth r hre)
  · by_cases hre : r = e.blk
    · subst hre; unfold World.cell? at q1; rw [hobj] at q1; simp at q1
    · have hs := SameAt.of_block (hoth r hre) o
      exact ⟨by rw [hs.1]; exact q1, by rw [hs.2]; exact q2⟩
  · split at hp
    · simp at hp; subst hp; exact ⟨e, he⟩
    · cases hp
  · split at hp
    · simp at hp; subst hp; simp only; rw [hg]; rfl
    · cases hp

end Go.XM
