/- A plain machine beside the model, and that what it tells the model does: part Xe. Conditions: those of each theorem below. -/
import Derived.Test.YtlaamopkgopleaaXd
namespace Go.XM
set_option linter.unusedVariables false
set_option linter.unusedSimpArgs false
open Go.RowKit
set_option linter.unusedVariables false

/-! ### the plain heap -/
theorem XS.get_push_new (S : XS) (x : XBlk) : (S.push x).get S.size = x := by
  simp [XS.get, XS.push]
theorem XS.get_push_old (S : XS) (x : XBlk) {b : Nat} (h : b ≠ S.size) : (S.push x).get b = S.get b := by
  unfold XS.get XS.push
  simp only
  by_cases hb : b < S.size
  · have e : S.size + 1 - 1 - b = (S.size - 1 - b) + 1 := by omega
    rw [if_pos (by omega), if_pos hb, e, List.getElem?_cons_succ]
  · rw [if_neg (by omega), if_neg hb]
@[simp] theorem XS.size_push (S : XS) (x : XBlk) : (S.push x).size = S.size + 1 := rfl
@[simp] theorem XS.log_push (S : XS) (x : XBlk) : (S.push x).log = S.log := rfl
@[simp] theorem XS.size_put (S : XS) (b : Nat) (x : XBlk) : (S.put b x).size = S.size := by unfold XS.put; split <;> rfl
@[simp] theorem XS.log_put (S : XS) (b : Nat) (x : XBlk) : (S.put b x).log = S.log := by unfold XS.put; split <;> rfl
@[simp] theorem XS.size_note (S : XS) (base b o : Nat) : (S.note base b o).size = S.size := by unfold XS.note; split <;> rfl
@[simp] theorem XS.get_note (S : XS) (base b o c : Nat) : (S.note base b o).get c = S.get c := by unfold XS.note; split <;> rfl
theorem XS.log_note (S : XS) (base b o : Nat) : (S.note base b o).log = (if b < base then [(b, o)] else []) ++ S.log := by unfold XS.note; split <;> rfl
theorem XS.get_lt {S : XS} {b : Nat} (h : (S.get b).isGone = false) : b < S.size := by
  unfold XS.get at h
  split at h
  · assumption
  · simp [XBlk.isGone] at h
theorem XS.get_put_same {S : XS} {b : Nat} (x : XBlk) (h : (S.get b).isGone = false) : (S.put b x).get b = x := by
  have hb := XS.get_lt h
  unfold XS.get at h ⊢
  unfold XS.put
  simp only [hb, if_true] at h ⊢
  have hi : S.size - 1 - b < S.heap.length := by
    rcases Nat.lt_or_ge (S.size - 1 - b) S.heap.length with hq | hq
    · exact hq
    · rw [List.getElem?_eq_none hq] at h
      simp [XBlk.isGone] at h
  simp [hi]
theorem XS.get_put_other {S : XS} {b c : Nat} (x : XBlk) (h : c ≠ b) : (S.put b x).get c = S.get c := by
  unfold XS.get XS.put
  by_cases hb : b < S.size
  · simp only [hb, if_true]
    by_cases hc : c < S.size
    · simp only [hc, if_true]
      rw [List.getElem?_set_ne (by omega)]
    · simp only [hc, if_false]
  · simp only [hb, if_false]
theorem XS.get_beyond {S : XS} {b : Nat} (h : S.size ≤ b) : S.get b = .gone := by
  unfold XS.get; rw [if_neg (by omega)]

theorem mem_noteAll (b : Nat) : ∀ (n : Nat) (l : List (Nat × Nat)) (p : Nat × Nat), p ∈ noteAll b n l ↔ (p.1 = b ∧ p.2 < n) ∨ p ∈ l
  | 0, l, p => by simp [noteAll]
  | n + 1, l, p => by
    rw [noteAll, mem_noteAll b n]
    obtain ⟨p1, p2⟩ := p
    simp only [List.mem_cons, Prod.mk.injEq]
    constructor
    · rintro (⟨h1, h2⟩ | ⟨h1, h2⟩ | h)
      · exact .inl ⟨h1, by omega⟩
      · exact .inl ⟨h1, by omega⟩
      · exact .inr h
    · rintro (⟨h1, h2⟩ | h)
      · rcases Nat.lt_or_ge p2 n with hq | hq
        · exact .inl ⟨h1, hq⟩
        · exact .inr (.inl ⟨h1, by omega⟩)
      · exact .inr (.inr h)
theorem noteAll_append (b : Nat) : ∀ (n : Nat) (l : List (Nat × Nat)), noteAll b n l = noteAll b n [] ++ l
  | 0, l => rfl
  | n + 1, l => by rw [noteAll, noteAll, noteAll_append b n ((b, n) :: l), noteAll_append b n [(b, n)]]; simp

@[simp] theorem XS.size_kill (S : XS) (base b n : Nat) : (S.kill base b n).size = S.size := by simp [XS.kill]
theorem XS.get_kill_same {S : XS} (base n : Nat) {b : Nat} (h : (S.get b).isGone = false) : (S.kill base b n).get b = .gone := XS.get_put_same (S := S) .gone h
theorem XS.get_kill_other (S : XS) (base n : Nat) {b c : Nat} (h : c ≠ b) : (S.kill base b n).get c = S.get c := XS.get_put_other .gone h
theorem XS.log_kill (S : XS) (base b n : Nat) : (S.kill base b n).log = (if b < base then noteAll b n [] else []) ++ S.log := by
  unfold XS.kill
  by_cases h : b < base
  · simp only [h, if_true]; exact noteAll_append b n S.log
  · simp [h]

/-! ### the worlds -/
theorem SameAt.of_block {w w' : World} {r : Nat} (h : w'.heap[r]? = w.heap[r]?) (o : Nat) : SameAt w w' r o :=
  ⟨World.cell?_of_block (w := w) (a := ⟨r, o, none⟩) h, World.frozen?_of_block (w := w) (a := ⟨r, o, none⟩) h⟩

theorem BlkR.move {ρ ρ' : Emb} {B : Nat} {w w' : World} {e : Ent} {x : XBlk} (hl : ρ.le ρ') (hh : w'.heap[e.blk]? = w.heap[e.blk]?) (h : BlkR ρ B w e x) : BlkR ρ' B w' e x := by
  have hs := SameAt.of_block hh
  cases x with
  | cells cs k =>
    obtain ⟨h1, h2⟩ := h
    refine ⟨?_, fun o v ho hv => ?_⟩
    · cases k with
      | ro => exact h1
      | own => exact h1
      | arr esz => exact ⟨h1.1, h1.2.1, h1.2.2.1, fun j hj => by rw [show e.at j = ⟨e.blk, j + e.sh, none⟩ from rfl, (hs _).1, (hs _).2]; exact h1.2.2.2 j hj⟩
      | loose esz n =>
        obtain ⟨a, b, l, f, rsz, c, m, d⟩ := h1
        exact ⟨a, b, l, f, rsz, c, m, fun j hj => by rw [(hs j).1, (hs j).2]; exact d j hj⟩
    · obtain ⟨u, hu, hr, hf⟩ := h2 o v ho hv
      exact ⟨u, (hs _).1.trans hu, hr.mono hl, fun hk => (hs _).2.trans (hf hk)⟩
  | iter s pos => exact ⟨h.1, hh.trans h.2⟩
  | gone => trivial

def Emb.set (ρ : Emb) (b : Nat) (e : Ent) : Emb := ⟨fun c => if c = b then some e else ρ c, ρ.z⟩
theorem Emb.set_same (ρ : Emb) (b : Nat) (e : Ent) : ρ.set b e b = some e := by simp [Emb.set]
theorem Emb.le_set {ρ : Emb} {b : Nat} {e : Ent} (h : ρ b = none) : ρ.le (ρ.set b e) := by
  refine ⟨?_, ZMap.le_refl _⟩
  intro c x hc
  unfold Emb.set
  simp only
  split
  · rename_i hq; subst hq; rw [h] at hc; cases hc
  · exact hc
theorem Rel.fresh {B : Nat} {w0 : World} {ρ : Emb} {S : XS} {w : World} (h : Rel B w0 ρ S w) : ρ S.size = none := by
  cases hq : ρ S.size with
  | none => rfl
  | some e => exact absurd (h.dom _ _ hq) (by omega)

/-- a new block on both sides -/
theorem rel_alloc {B : Nat} {w0 : World} {ρ : Emb} {S : XS} {w : World} (h : Rel B w0 ρ S w) (base : Nat) (hb : base ≤ S.size) (x : XBlk) (o : Obj) (l : Option (Nat × Nat × Nat))
    (hx : BlkR ρ B (w.alloc o) ⟨w.heap.size, 0, l⟩ x) :
    Rel B w0 (ρ.set S.size ⟨w.heap.size, 0, l⟩) (S.push x) (w.alloc o) ∧ Ev base ρ S w (ρ.set S.size ⟨w.heap.size, 0, l⟩) (S.push x) (w.alloc o) [] := by
  have hf := h.fresh
  have hl : ρ.le (ρ.set S.size ⟨w.heap.size, 0, l⟩) := Emb.le_set hf
  have hB : B ≤ w.heap.size := Nat.le_trans h.Bw h.below.size
  have cases_ : ∀ b e, ρ.set S.size ⟨w.heap.size, 0, l⟩ b = some e → (b = S.size ∧ e = ⟨w.heap.size, 0, l⟩) ∨ (b ≠ S.size ∧ ρ b = some e) := by
    intro b e he
    unfold Emb.set at he
    simp only at he
    split at he
    · rename_i hq; exact .inl ⟨hq, by injection he with he; exact he.symm⟩
    · rename_i hq; exact .inr ⟨hq, he⟩
  have hold : ∀ r, r < w.heap.size → (w.alloc o).heap[r]? = w.heap[r]? := fun r hr => Below.heap_alloc w o r hr
  have hfz : Froz B (ρ.set S.size ⟨w.heap.size, 0, l⟩) (w.alloc o) := by
    have hk := h.fz.block (w' := w.alloc o) hold
    refine ⟨hk.ok, hk.zc, fun b e he hBe t o' => ?_⟩
    rcases cases_ b e he with ⟨_, rfl⟩ | ⟨_, he⟩
    · cases hq : ρ.z t w.heap.size o' with
      | none => exact hq
      | some v => have := h.fz.lt hq; omega
    · exact h.fz.zd b e he hBe t o'
  refine ⟨⟨h.below.alloc hB o, h.Bw, ?_, ?_, ?_, ?_, hfz⟩, ⟨hl, ?_, by simp, by simp, ?_, ?_, (fun p hp => by cases hp), ?_, ?_, ?_, keep_block hold, (fun p hp => by cases hp), (fun p hp => by cases hp), fun _ _ _ _ q _ => q⟩⟩
  · intro b e he
    rcases cases_ b e he with ⟨rfl, _⟩ | ⟨_, he⟩
    · simp
    · have := h.dom b e he; simp; omega
  · intro b e he
    rcases cases_ b e he with ⟨rfl, rfl⟩ | ⟨hne, he⟩
    · rw [XS.get_push_new]
      cases x with
      | cells cs k =>
        obtain ⟨h1, h2⟩ := hx
        refine ⟨h1, fun o' v ho hv => ?_⟩
        obtain ⟨u, hu, hr, hz⟩ := h2 o' v ho hv
        exact ⟨u, hu, hr.mono hl, hz⟩
      | iter s pos => exact hx
      | gone => trivial
    · rw [XS.get_push_old _ _ hne]
      exact (h.blk b e he).move hl (hold _ (h.lt b e he))
  · intro b b' e e' he he' hq hne
    rcases cases_ b e he with ⟨rfl, rfl⟩ | ⟨hn, he⟩
    · rcases cases_ b' e' he' with ⟨rfl, rfl⟩ | ⟨hn', he'⟩
      · exact absurd rfl hne
      · have := h.lt b' e' he'; simp at hq; omega
    · rcases cases_ b' e' he' with ⟨rfl, rfl⟩ | ⟨hn', he'⟩
      · have := h.lt b e he; simp at hq; omega
      · rw [XS.get_push_old _ _ hn, XS.get_push_old _ _ hn']
        exact h.inj b b' e e' he he' hq hne
  · intro b e he
    rcases cases_ b e he with ⟨rfl, rfl⟩ | ⟨hne, he⟩
    · simp
    · have := h.lt b e he; simp; omega
  · intro b e he hlt
    rcases cases_ b e he with ⟨rfl, rfl⟩ | ⟨hne, he⟩
    · omega
    · exact he
  · intro b hlt
    rw [XS.get_push_old _ _ (by omega)]
    exact BlkFrame.refl _ _ _
  · intro b hg hlt
    rw [XS.get_push_old _ _ (by omega)]
    exact hg
  · intro b e he hlt
    rcases cases_ b e he with ⟨rfl, rfl⟩ | ⟨hne, he⟩
    · exact .inl (Nat.le_refl _)
    · exact .inr (.inl ⟨b, e, hlt, he, rfl⟩)
  · intro r o' hr
    exact .inl (SameAt.of_block (hold r hr) o')
  · intro r hr
    exact .inl (hold r hr)

/-- a draw -/
theorem rel_drew {B : Nat} {w0 : World} {ρ : Emb} {S : XS} {w : World} (h : Rel B w0 ρ S w) : Rel B w0 ρ S w.drew :=
  ⟨h.below.drew, h.Bw, h.dom, fun b e he => (h.blk b e he).move (Emb.le_refl ρ) rfl, h.inj, h.lt, h.fz.block fun _ _ => rfl⟩
theorem ev_drew {base : Nat} {ρ : Emb} {S : XS} {w : World} : Ev base ρ S w ρ S w.drew [] where
  ext := Emb.le_refl ρ
  old := fun _ _ h _ => h
  size := Nat.le_refl _
  wsize := Nat.le_refl _
  canon := fun b _ => BlkFrame.refl _ _ _
  gone := fun _ h _ => h
  wb := fun p h => by cases h
  new := fun b e h hb => .inr (.inl ⟨b, e, hb, h, rfl⟩)
  frame := fun r o h => .inl ⟨rfl, rfl⟩
  frameI := fun r h => .inl rfl
  keep := fun r o h k => ⟨h, k⟩
  wd := fun p h => by cases h
  wl := fun p h => by cases h
  zold := fun _ _ _ _ q _ => q

theorem setCell_block {w : World} {a : Addr} {v : Value} {r : Nat} (h : r ≠ a.block) : (w.setCell a v).heap[r]? = w.heap[r]? := Below.heap_setCell w a v r h

/-- one cell stored -/
theorem rel_store1 {B : Nat} {w0 : World} {ρ : Emb} {S S' : XS} {w : World} (h : Rel B w0 ρ S w) {base b o : Nat} {v : XV} {u : Value} {e : Ent} (he : ρ b = some e)
    (hs : S.store1 base b o v = some S') (hv : VR ρ v u) :
    (∃ u0, w.cell? (e.at o) = some u0) ∧ w.frozen? (e.at o) = false ∧ v.oneCell = true ∧
    Rel B w0 ρ S' (w.setCell (e.at o) u) ∧ Ev base ρ S w ρ S' (w.setCell (e.at o) u) (if b < base then [(b, o)] else []) ∧
    S'.log = (if b < base then [(b, o)] else []) ++ S.log := by
  unfold XS.store1 at hs
  split at hs
  case h_2 => cases hs
  case h_1 cs k hg =>
  split at hs
  · cases hs
  rename_i hk
  split at hs
  case h_2 => cases hs
  case h_1 c hc =>
  split at hs
  case isFalse => cases hs
  rename_i h1f
  have h1 : v.oneCell = true := by unfold XV.fits at h1f; simp only [Bool.and_eq_true] at h1f; exact h1f.1
  have h1u : k.flat = true → v.under 0 = true := fun hfl => by unfold XV.fits at h1f; rw [hfl] at h1f; simpa using (Bool.and_eq_true _ _ ▸ h1f).2
  injection hs with hs
  subst hs
  obtain ⟨hco, hcl⟩ : cs[o]? = some c ∧ c.live = true := by
    unfold cellAt at hc
    split at hc
    · rename_i v' hv'
      split at hc
      · rename_i hl; injection hc with hc; subst hc; exact ⟨hv', hl⟩
      · cases hc
    · cases hc
  have hblk := h.blk b e he
  rw [hg] at hblk
  obtain ⟨hk1, hk2⟩ := hblk
  obtain ⟨u0, hu0, hr0, hf0⟩ := hk2 o c hco hcl
  have hfz := hf0 hk
  have hng : (S.get b).isGone = false := by rw [hg]; rfl
  have hbS := XS.get_lt hng
  have hBe : B ≤ e.blk := by
    cases k with
    | ro => exact absurd rfl hk
    | own => exact hk1.1
    | arr esz => exact hk1.1.1
    | loose esz n => exact hk1.1
  have hsame : ((S.put b (.cells (cs.set o v) k)).note base b o).get b = .cells (cs.set o v) k := by rw [XS.get_note, XS.get_put_same _ hng]
  have hother : ∀ c, c ≠ b → ((S.put b (.cells (cs.set o v) k)).note base b o).get c = S.get c := fun c hc => by rw [XS.get_note, XS.get_put_other _ hc]
  have hgo : ∀ c, (((S.put b (.cells (cs.set o v) k)).note base b o).get c).isGone = (S.get c).isGone := fun c => by
    by_cases hc : c = b
    · subst hc; rw [hsame, hg]; rfl
    · rw [hother c hc]
  have hro : ∀ c, (((S.put b (.cells (cs.set o v) k)).note base b o).get c).isRo = (S.get c).isRo := fun c => by
    by_cases hc : c = b
    · subst hc; rw [hsame, hg]; cases k <;> rfl
    · rw [hother c hc]
  have hol : o < cs.length := by
    rcases Nat.lt_or_ge o cs.length with hq | hq
    · exact hq
    · rw [List.getElem?_eq_none hq] at hco; cases hco
  refine ⟨⟨u0, hu0⟩, hfz, h1, ⟨h.below.setCell hBe u, h.Bw, ?_, ?_, ?_, ?_, h.fz.but he hBe fun r hr => setCell_block hr⟩, ⟨Emb.le_refl ρ, fun _ _ q _ => q, by simp, by simp, ?_, ?_, ?_, fun c e' hc hq => .inr (.inl ⟨c, e', hq, hc, rfl⟩), ?_, ?_, (fun r o' h1 h2 => ?_), (fun p hp => ?_), (fun p hp => ?_), fun _ _ _ _ q _ => q⟩, ?_⟩
  · intro c e' hc; simpa using h.dom c e' hc
  · intro c e' hc
    by_cases hcb : c = b
    · subst hcb
      rw [he] at hc
      injection hc with hc
      subst hc
      rw [hsame]
      refine ⟨?_, fun o' v' ho' hv' => ?_⟩
      · cases k with
        | ro => exact absurd rfl hk
        | own => exact hk1
        | arr esz =>
          refine ⟨hk1.1, hk1.2.1, hk1.2.2.1.set o h1 (h1u rfl), fun j hj => ?_⟩
          rw [World.frozen?_setCell]
          refine ⟨?_, (hk1.2.2.2 j (by simpa using hj)).2⟩
          by_cases hje : (e.at o) = e.at j
          · rw [← hje, World.cell?_setCell_same _ _ _ hu0]; rfl
          · rw [World.cell?_setCell_other _ _ _ _ hje]; exact (hk1.2.2.2 j (by simpa using hj)).1
        | loose esz n =>
          obtain ⟨a1, a2, al, af, rsz, a3, am, a4⟩ := hk1
          refine ⟨a1, a2, by simpa using al, af.set o h1 (h1u rfl), rsz, a3, am, fun j hj => ?_⟩
          rw [World.frozen?_setCell]
          refine ⟨?_, (a4 j hj).2⟩
          by_cases hje : (e.at o) = ⟨e.blk, j, none⟩
          · rw [← hje, World.cell?_setCell_same _ _ _ hu0]; rfl
          · rw [World.cell?_setCell_other _ _ _ _ hje]; exact (a4 j hj).1
      · rw [World.frozen?_setCell]
        by_cases hoo : o' = o
        · subst hoo
          rw [List.getElem?_set_self hol] at ho'
          injection ho' with ho'
          subst ho'
          exact ⟨u, World.cell?_setCell_same _ _ _ hu0, hv, fun _ => hfz⟩
        · rw [List.getElem?_set_ne (by omega)] at ho'
          obtain ⟨u', hu', hr', hf'⟩ := hk2 o' v' ho' hv'
          refine ⟨u', ?_, hr', hf'⟩
          rw [World.cell?_setCell_other _ _ _ _ (by simp [Ent.at] <;> omega)]
          exact hu'
    · rw [hother c hcb]
      by_cases hgc : (S.get c).isGone = true
      · revert hgc; cases S.get c <;> simp [XBlk.isGone, BlkR]
      · refine (h.blk c e' hc).move (Emb.le_refl ρ) (setCell_block ?_)
        intro hq
        rcases h.inj c b e' e hc he hq hcb with hq1 | hq1 | hq1
        · have := hq1.2; rw [hg] at this; cases k <;> simp [XBlk.isRo] at this; exact hk rfl
        · exact hgc hq1
        · rw [hng] at hq1; cases hq1
  · intro c c' e1 e2 hc hc' hq hne
    rw [hro, hro, hgo, hgo]
    exact h.inj c c' e1 e2 hc hc' hq hne
  · intro c e' hc; simpa using h.lt c e' hc
  · intro c hlt
    by_cases hcb : c = b
    · subst hcb
      rw [hsame, hg, if_pos hlt]
      refine ⟨rfl, by simp, fun o' ho' => ?_, fun o' ho' => ?_⟩
      · rw [List.getElem?_set_ne]
        intro hq; subst hq; exact ho' (by simp)
      · by_cases hoo : o' = o
        · subst hoo; rw [hco] at ho'; injection ho' with ho'; subst ho'; cases hcl
        · rw [List.getElem?_set_ne (by omega)]; exact ho'
    · rw [hother c hcb]; exact BlkFrame.refl _ _ _
  · intro c hgc hlt; rw [hgo]; exact hgc
  · intro p hp
    split at hp
    · simp at hp; subst hp; assumption
    · cases hp
  · intro r o' hr
    by_cases hro' : r = e.blk
    · subst hro'
      rcases Nat.lt_or_ge b base with hlt | hge
      · by_cases hoo : o' = o + e.sh
        · exact .inr (.inl ⟨(b, o), by simp [hlt], e, he, rfl, .inl hoo⟩)
        · exact .inl ⟨World.cell?_setCell_other _ _ _ _ (by simp [Ent.at] <;> omega), World.frozen?_setCell _ _ _ _⟩
      · exact .inr (.inr ⟨b, e, hge, he, rfl⟩)
    · exact .inl (SameAt.of_block (setCell_block hro') o')
  · intro r hr
    by_cases hro' : r = e.blk
    · subst hro'
      rcases Nat.lt_or_ge b base with hlt | hge
      · exact .inr (.inl ⟨(b, o), by simp [hlt], e, he, rfl⟩)
      · exact .inr (.inr ⟨b, e, hge, he, rfl⟩)
    · exact .inl (setCell_block hro')
  · rw [World.frozen?_setCell]
    refine ⟨?_, h2⟩
    by_cases hje : (e.at o) = ⟨r, o', none⟩
    · rw [← hje, World.cell?_setCell_same _ _ _ hu0]; rfl
    · rw [World.cell?_setCell_other _ _ _ _ hje]; exact h1
  · split at hp
    · simp at hp; subst hp; exact ⟨e, he⟩
    · cases hp
  · split at hp
    · simp at hp; subst hp; simp only; rw [hg]; exact ⟨Nat.lt_of_lt_of_le hol (room_le _ _), hk⟩
    · cases hp
  · rw [XS.log_note, XS.log_put]

end Go.XM
