/- A plain machine beside the model, and that what it tells the model does: part Xza. Conditions: those of each theorem below. -/
import Derived.Test.YtlaamopkgopleaaXz
namespace Go.XM
set_option linter.unusedVariables false
set_option linter.unusedSimpArgs false
open Go.RowKit
set_option linter.unusedVariables false

section
variable {B : Nat} {w0 : World} {n : Nat} {ops : Array Oper} {Ts : Nat → Tmps} {Ss : Nat → XS} {vs : Nat → XV} {Ws : Nat → List (Nat × Nat)} {ρs : Emb} {ws : World} {D : Nat → Prop} {ρ : Emb} {a : Act} {w : World}

theorem Inv.ord1 (St : Static n ops) (I : Inv B w0 n ops Ts Ss Ws ρs ws D ρ a w) {j k : Nat} (hk : D k) (hj : ¬ D j) (h : j < k) : ordered (predsOf ops.toList) j k = false := by
  cases hq : ordered (predsOf ops.toList) j k with
  | false => rfl
  | true =>
    exfalso
    rcases (ordered_iff _ _ _).1 hq with q | q
    · have := pr_lt St.dir _ _ q; omega
    · exact hj (pr_closed St.dir (fun m hm => (I.cl m hm).2) k (fun o ho d hd => (I.cl k hk).2 o ho d hd) j q)

theorem Inv.ord2 (St : Static n ops) (I : Inv B w0 n ops Ts Ss Ws ρs ws D ρ a w) {i j : Nat} (hi : ∀ o, ops.toList[i]? = some o → ∀ d, d ∈ directs o → D d) (hj : ¬ D j) (h : ordered (predsOf ops.toList) j i = true) : i < j := by
  rcases (ordered_iff _ _ _).1 h with q | q
  · exact pr_lt St.dir _ _ q
  · exact absurd (pr_closed St.dir (fun m hm => (I.cl m hm).2) i hi j q) hj

variable {i : Nat} {Sp S' : XS} {ρ' : Emb} {w' : World} {u : Value}

def addD (D : Nat → Prop) (i : Nat) : Nat → Prop := fun k => D k ∨ k = i

def Emb.or (ρ ρ' : Emb) : Emb := ⟨fun b => (ρ b).or (ρ' b), ρ'.z⟩
theorem Emb.or_le {ρ ρ' : Emb} (hz : ρ.z.le ρ'.z) : ρ.le (ρ.or ρ') := ⟨fun b e h => by unfold Emb.or; simp only; rw [h]; rfl, hz⟩

/-- a block is given up: what an operation still to be done knows of it -/
theorem kd_dead (St : Static n ops) (C : Can ops.toList Ts Ss vs Ws) (I : Inv B w0 n ops Ts Ss Ws ρs ws D ρ a w) {b c j : Nat} (h : Kd ops.toList Ss D b c) (hj : j ≤ ops.toList.length) (hjD : ¬ D j) (hb : b < (Ss j).size) :
    ((Ss j).get b).isGone = true ∨ ∃ cs k, (Ss j).get b = .cells cs k ∧ ∀ o, o < cs.length → Dead ops.toList Ws D j b o := by
  rcases h with ⟨hb0, hg⟩ | ⟨k, hk, hkl, hbk, hg, hng, _⟩
  · exact .inl (C.gone hb0 (Nat.zero_le _) hj hg)
  · rcases Nat.lt_trichotomy k j with q | q | q
    · exact .inl (C.gone hbk q hj hg)
    · subst q; exact absurd hk hjD
    · right
      have hs := C.sizes (i := j) (j := k) (by omega) (by omega)
      obtain ⟨W, _, hf⟩ := C.chain hb (j := k) (by omega) (by omega)
      have hng' := hng (by omega)
      have hf2 := C.fr k hkl b (by omega)
      cases hx : (Ss j).get b with
      | cells cs kk =>
        refine ⟨cs, kk, rfl, fun o ho => ⟨k, hkl, by omega, ?_, .inl ⟨by omega, I.ord1 St hk hjD q⟩⟩⟩
        rw [hx] at hf
        cases hy : (Ss k).get b with
        | cells cs' kk' =>
          rw [hy] at hf hf2
          cases hz : (Ss (k + 1)).get b with
          | cells _ _ => rw [hz] at hg; cases hg
          | iter _ _ => rw [hz] at hg; cases hg
          | gone => rw [hz] at hf2; exact hf2.2 o (Nat.lt_of_lt_of_le (by rw [hf.2.1]; exact ho) (room_le _ _))
        | iter _ _ => rw [hy] at hf; exact hf.elim
        | gone => rw [hy] at hng'; cases hng'
      | iter s pos =>
        exfalso
        rw [hx] at hf
        cases hy : (Ss k).get b with
        | cells cs' kk' => rw [hy] at hf; exact hf.elim
        | iter _ _ =>
          rw [hy] at hf2
          cases hz : (Ss (k + 1)).get b with
          | cells _ _ => rw [hz] at hg; cases hg
          | iter _ _ => rw [hz] at hg; cases hg
          | gone => rw [hz] at hf2; exact hf2.elim
        | gone => rw [hy] at hng'; cases hng'
      | gone =>
        exfalso
        rw [hx] at hf
        have := hf.gone rfl
        rw [hng'] at this; cases this

/-- what an operation writes, another has not given up -/
theorem not_kd (St : Static n ops) (C : Can ops.toList Ts Ss vs Ws) (I : Inv B w0 n ops Ts Ss Ws ρs ws D ρ a w) (hi : i < ops.toList.length) (hiD : ¬ D i)
    (R : Did B w0 Ss vs Ws i (restr ρ (Ss i).size) Sp w ρ' S' w' u) {p : Nat × Nat} (hp : p ∈ Ws i) {c : Nat} : ¬ Kd ops.toList Ss D p.1 c := by
  intro h
  have hpl : p.1 < (Ss i).size := R.ev.wb p hp
  have hw := R.sp _ _ (R.ev.wl p hp)
  rcases h with ⟨hb0, hg⟩ | ⟨k, hk, hkl, hbk, hg, hng, _⟩
  · have := C.gone hb0 (Nat.zero_le i) (by omega) hg
    rw [hw.notGone] at this; cases this
  · rcases Nat.lt_trichotomy k i with q | q | q
    · have := C.gone hbk q (by omega) hg
      rw [hw.notGone] at this; cases this
    · subst q; exact hiD hk
    · have hs := C.sizes (i := i) (j := k) (by omega) (by omega)
      have hng' := hng (by omega)
      have hf2 := C.fr k hkl p.1 (by omega)
      obtain ⟨W, _, hf⟩ := C.chain hpl (j := k) (by omega) (by omega)
      refine C.apart i k hi hkl (by omega) (I.ord1 St hk hiD q) p hp ?_
      cases hx : (Ss i).get p.1 with
      | cells cs kk =>
        rw [hx] at hf hw
        cases hy : (Ss k).get p.1 with
        | cells cs' kk' =>
          rw [hy] at hf hf2
          cases hz : (Ss (k + 1)).get p.1 with
          | cells _ _ => rw [hz] at hg; cases hg
          | iter _ _ => rw [hz] at hg; cases hg
          | gone => rw [hz] at hf2; exact hf2.2 p.2 (by rw [hf.1, room_len hf.2.1]; exact hw.1)
        | iter _ _ => rw [hy] at hf; exact hf.elim
        | gone => rw [hy] at hng'; cases hng'
      | iter s pos =>
        exfalso
        rw [hx] at hf
        cases hy : (Ss k).get p.1 with
        | cells cs' kk' => rw [hy] at hf; exact hf.elim
        | iter _ _ =>
          rw [hy] at hf2
          cases hz : (Ss (k + 1)).get p.1 with
          | cells _ _ => rw [hz] at hg; cases hg
          | iter _ _ => rw [hz] at hg; cases hg
          | gone => rw [hz] at hf2; exact hf2.elim
        | gone => rw [hy] at hng'; cases hng'
      | gone => rw [hx] at hw; exact hw.elim

theorem not_ro (C : Can ops.toList Ts Ss vs Ws) (hi : i < ops.toList.length) (R : Did B w0 Ss vs Ws i (restr ρ (Ss i).size) Sp w ρ' S' w' u) {p : Nat × Nat} (hp : p ∈ Ws i) : ¬ Ro ops.toList Ss p.1 := by
  intro h
  have hw := R.sp _ _ (R.ev.wl p hp)
  rcases C.ro h (Nat.le_of_lt hi) (R.ev.wb p hp) with q | q
  · rw [hw.notRo] at q; cases q
  · rw [hw.notGone] at q; cases q

theorem hit_kd (St : Static n ops) (C : Can ops.toList Ts Ss vs Ws) (I : Inv B w0 n ops Ts Ss Ws ρs ws D ρ a w) (hi : i < ops.toList.length) (hiD : ¬ D i)
    (R : Did B w0 Ss vs Ws i (restr ρ (Ss i).size) Sp w ρ' S' w' u) {p : Nat × Nat} (hp : p ∈ Ws i) {e1 : Ent} (h1 : ρ p.1 = some e1) {b : Nat} {e : Ent} (hb : ρ b = some e) (hbl : e1.blk = e.blk) (hne : p.1 ≠ b) : Kd ops.toList Ss D b p.1 := by
  rcases I.inj p.1 b e1 e h1 hb hbl hne with q | q | q
  · exact absurd q.1 (not_ro C hi R hp)
  · exact absurd q (not_kd St C I hi hiD R hp)
  · exact q

def Has : XBlk → Nat → Prop
  | .cells cs _, o => o < cs.length
  | .iter _ _, o => o = 0
  | .gone, _ => False

/-- which real blocks an operation leaves alone -/
theorem no_hit (St : Static n ops) (C : Can ops.toList Ts Ss vs Ws) (I : Inv B w0 n ops Ts Ss Ws ρs ws D ρ a w) (hi : i < ops.toList.length) (hiD : ¬ D i)
    (R : Did B w0 Ss vs Ws i (restr ρ (Ss i).size) Sp w ρ' S' w' u) {p : Nat × Nat} (hp : p ∈ Ws i) {e1 : Ent} (h1 : ρ p.1 = some e1) {b : Nat} {e : Ent} (hb : ρ b = some e) (hbl : e1.blk = e.blk)
    {j : Nat} (hj : j ≤ ops.toList.length) (hjD : ¬ D j) (hbj : b < (Ss j).size) {o : Nat} (hlive : Has ((Ss j).get b) o) (hnd : ¬ Dead ops.toList Ws D j b o) : p.1 = b := by
  by_cases hne : p.1 = b
  · exact hne
  exfalso
  rcases kd_dead St C I (hit_kd St C I hi hiD R hp h1 hb hbl hne) hj hjD hbj with q | ⟨cs, k, hcs, q⟩
  · revert q hlive; cases (Ss j).get b <;> simp [XBlk.isGone, Has]
  · rw [hcs] at hlive; exact hnd (q o hlive)

/-- a cell that the operation does not write stays as it is in the real world -/
theorem same_cell (St : Static n ops) (C : Can ops.toList Ts Ss vs Ws) (I : Inv B w0 n ops Ts Ss Ws ρs ws D ρ a w) (hi : i < ops.toList.length) (hiD : ¬ D i)
    (R : Did B w0 Ss vs Ws i (restr ρ (Ss i).size) Sp w ρ' S' w' u) {b : Nat} {e : Ent} (hb : ρ b = some e)
    {j : Nat} (hj : j ≤ ops.toList.length) (hjD : ¬ D j) (hbj : b < (Ss j).size) {o : Nat} {cs : List XV} {k : XKind} (hcs : (Ss j).get b = .cells cs k) (ho : o < cs.length) (hnd : ¬ Dead ops.toList Ws D j b o) (hnw : (b, o) ∉ Ws i) : SameAt w w' e.blk (o + e.sh) := by
  rcases R.ev.frame e.blk (o + e.sh) (I.lt b e hb) with q | ⟨p, hp, e1, q1, q2, q3⟩ | ⟨b0, e0, q1, q2, _⟩
  · exact q
  · exfalso
    obtain ⟨hpl, hpe⟩ := restr_some.1 q1
    have hpb := no_hit St C I hi hiD R hp hpe hb q2 hj hjD hbj (o := o) (by rw [hcs]; exact ho) hnd
    obtain ⟨p1, p2⟩ := p
    simp only at hpb q1 q2 q3 hpl hpe
    subst hpb
    rw [hb] at hpe
    injection hpe with hpe
    subst hpe
    rcases q3 with q3 | q3
    · have : p2 = o := by omega
      subst this
      exact hnw hp
    · have hw := R.sp _ _ (R.ev.wl _ hp)
      simp only at hw
      have hag := R.agree p1 hpl
      have hfr := C.fr i hi p1 hpl
      -- given up by i
      have hg : ((Ss (i + 1)).get p1).isGone = true := by
        revert hag q3
        cases S'.get p1 <;> cases (Ss (i + 1)).get p1 <;> simp [Agree, XBlk.isGone]
      cases hx : (Ss i).get p1 with
      | cells ci ki =>
        rw [hx] at hfr
        cases hy : (Ss (i + 1)).get p1 with
        | cells _ _ => rw [hy] at hg; cases hg
        | iter _ _ => rw [hy] at hg; cases hg
        | gone =>
          rw [hy] at hfr
          refine hnw (hfr.2 o (Nat.lt_of_lt_of_le ?_ (room_le _ _)))
          rcases Nat.le_total i j with q | q
          · obtain ⟨W, _, hf⟩ := C.chain hpl q hj
            rw [hx, hcs] at hf
            have := hf.2.1
            omega
          · obtain ⟨W, _, hf⟩ := C.chain hbj q (Nat.le_of_lt hi)
            rw [hx, hcs] at hf
            have := hf.2.1
            omega
      | iter _ _ =>
        rw [hx] at hfr
        cases hy : (Ss (i + 1)).get p1 with
        | cells _ _ => rw [hy] at hg; cases hg
        | iter _ _ => rw [hy] at hg; cases hg
        | gone => rw [hy] at hfr; exact hfr.elim
      | gone => rw [hx] at hw; exact hw.elim
  · have := (restr_some.1 q2).1; omega

theorem same_iter (St : Static n ops) (C : Can ops.toList Ts Ss vs Ws) (I : Inv B w0 n ops Ts Ss Ws ρs ws D ρ a w) (hi : i < ops.toList.length) (hiD : ¬ D i)
    (R : Did B w0 Ss vs Ws i (restr ρ (Ss i).size) Sp w ρ' S' w' u) {b : Nat} {e : Ent} (hb : ρ b = some e)
    {j : Nat} (hj : j ≤ ops.toList.length) (hjD : ¬ D j) (hbj : b < (Ss j).size) {s : List UInt8} {pos : Nat} (hcs : (Ss j).get b = .iter s pos) (hnd : ¬ Dead ops.toList Ws D j b 0) (hnw : (b, 0) ∉ Ws i) : w'.heap[e.blk]? = w.heap[e.blk]? := by
  rcases R.ev.frameI e.blk (I.lt b e hb) with q | ⟨p, hp, e1, q1, q2⟩ | ⟨b0, e0, q1, q2, _⟩
  · exact q
  · exfalso
    obtain ⟨hpl, hpe⟩ := restr_some.1 q1
    have hpb := no_hit St C I hi hiD R hp hpe hb q2 hj hjD hbj (o := 0) (by rw [hcs]; rfl) hnd
    obtain ⟨p1, p2⟩ := p
    simp only at hpb q1 q2 hpl hpe
    subst hpb
    have hw := R.sp _ _ (R.ev.wl _ hp)
    simp only at hw
    have hit : ∃ pi, (Ss i).get p1 = .iter s pi := by
      rcases Nat.le_total i j with q | q
      · obtain ⟨W, _, hf⟩ := C.chain hpl q hj
        rw [hcs] at hf
        revert hf hw
        cases (Ss i).get p1 with
        | cells _ _ => intro _ hf; exact hf.elim
        | iter s' p' => intro _ hf; exact ⟨p', by rw [hf.1]⟩
        | gone => intro hw; exact hw.elim
      · obtain ⟨W, _, hf⟩ := C.chain hbj q (Nat.le_of_lt hi)
        rw [hcs] at hf
        revert hf hw
        cases (Ss i).get p1 with
        | cells _ _ => intro _ hf; exact hf.elim
        | iter s' p' => intro _ hf; exact ⟨p', by rw [hf.1]⟩
        | gone => intro hw; exact hw.elim
    obtain ⟨pi, hpi⟩ := hit
    rw [hpi] at hw
    have : p2 = 0 := hw
    subst this
    exact hnw hp
  · have := (restr_some.1 q2).1; omega

end
end Go.XM
