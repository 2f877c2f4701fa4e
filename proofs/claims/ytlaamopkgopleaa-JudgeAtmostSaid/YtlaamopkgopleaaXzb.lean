/- A plain machine beside the model, and that what it tells the model does: part Xzb. Conditions: those of each theorem below. -/
import Derived.Test.YtlaamopkgopleaaXza
namespace Go.XM
set_option linter.unusedVariables false
set_option linter.unusedSimpArgs false
open Go.RowKit
set_option linter.unusedVariables false

section
variable {B : Nat} {w0 : World} {n : Nat} {ops : Array Oper} {Ts : Nat → Tmps} {Ss : Nat → XS} {vs : Nat → XV} {Ws : Nat → List (Nat × Nat)} {ρs : Emb} {ws : World} {D : Nat → Prop} {ρ : Emb} {a : Act} {w : World}
variable {i : Nat} {Sp S' : XS} {ρ' : Emb} {w' : World} {u : Value}

theorem Inv.fresh (C : Can ops.toList Ts Ss vs Ws) (I : Inv B w0 n ops Ts Ss Ws ρs ws D ρ a w) (hi : i < ops.toList.length) (hiD : ¬ D i) {b : Nat} (h1 : (Ss i).size ≤ b) (h2 : b < (Ss (i + 1)).size) : ρ b = none := by
  cases hq : ρ b with
  | none => rfl
  | some e =>
    exfalso
    rcases I.dom b e hq with q | ⟨k, hk, q1, q2⟩
    · have := C.sizes (Nat.zero_le i) (Nat.le_of_lt hi); omega
    · have hkl := (I.cl k hk).1
      rcases Nat.lt_trichotomy k i with q | q | q
      · have := C.sizes (i := k + 1) (j := i) q (by omega); omega
      · subst q; exact hiD hk
      · have := C.sizes (i := i + 1) (j := k) q (by omega); omega

/-- what lasts goes on to last -/
theorem Did.zle (R : Did B w0 Ss vs Ws i (restr ρ (Ss i).size) Sp w ρ' S' w' u) : ρ.z.le ρ'.z := R.ev.ext.z

theorem or_cases (C : Can ops.toList Ts Ss vs Ws) (I : Inv B w0 n ops Ts Ss Ws ρs ws D ρ a w) (hi : i < ops.toList.length) (hiD : ¬ D i) (R : Did B w0 Ss vs Ws i (restr ρ (Ss i).size) Sp w ρ' S' w' u)
    {b : Nat} {e : Ent} (h : ρ.or ρ' b = some e) : ρ b = some e ∨ (ρ b = none ∧ ρ' b = some e ∧ (Ss i).size ≤ b ∧ b < (Ss (i + 1)).size) := by
  unfold Emb.or at h
  simp only at h
  cases hq : ρ b with
  | some e' => rw [hq] at h; exact .inl h
  | none =>
    rw [hq] at h
    have h' : ρ' b = some e := by simpa using h
    have hlt := R.rel.dom b e h'
    rw [R.size] at hlt
    rcases Nat.lt_or_ge b (Ss i).size with q | q
    · have := R.ev.old b e h' (by rw [R.spsz]; exact q)
      rw [(restr_some.1 this).2] at hq; cases hq
    · exact .inr ⟨rfl, h', q, hlt⟩

theorem or_le' (C : Can ops.toList Ts Ss vs Ws) (I : Inv B w0 n ops Ts Ss Ws ρs ws D ρ a w) (hi : i < ops.toList.length) (hiD : ¬ D i) (R : Did B w0 Ss vs Ws i (restr ρ (Ss i).size) Sp w ρ' S' w' u) : ρ'.le (ρ.or ρ') := by
  refine ⟨?_, ZMap.le_refl _⟩
  intro b e h
  unfold Emb.or
  simp only
  rcases Nat.lt_or_ge b (Ss i).size with q | q
  · have := R.ev.old b e h (by rw [R.spsz]; exact q)
    rw [(restr_some.1 this).2]; rfl
  · have hlt := R.rel.dom b e h
    rw [R.size] at hlt
    rw [I.fresh C hi hiD q hlt]
    simpa using h

theorem or_le_restr (C : Can ops.toList Ts Ss vs Ws) (I : Inv B w0 n ops Ts Ss Ws ρs ws D ρ a w) (hi : i < ops.toList.length) (hiD : ¬ D i) (R : Did B w0 Ss vs Ws i (restr ρ (Ss i).size) Sp w ρ' S' w' u)
    {j : Nat} (hij : i < j) (hj : j ≤ ops.toList.length) : ρ'.le (restr (ρ.or ρ') (Ss j).size) := ⟨fun b e h => by
  have hlt := R.rel.dom b e h
  rw [R.size] at hlt
  have := C.sizes (i := i + 1) (j := j) hij hj
  exact restr_some.2 ⟨by omega, (or_le' C I hi hiD R).m b e h⟩, ZMap.le_refl _⟩

theorem blk_step (St : Static n ops) (C : Can ops.toList Ts Ss vs Ws) (I : Inv B w0 n ops Ts Ss Ws ρs ws D ρ a w) (hi : i < ops.toList.length) (hiD : ¬ D i) (hrd : ∀ o, ops.toList[i]? = some o → ∀ d, d ∈ directs o → D d)
    (R : Did B w0 Ss vs Ws i (restr ρ (Ss i).size) Sp w ρ' S' w' u) {j : Nat} (hj : j ≤ ops.toList.length) (hjD : ¬ addD D i j) {b : Nat} {e : Ent} (hb : ρ.or ρ' b = some e) (hbj : b < (Ss j).size) :
    BlkP (restr (ρ.or ρ') (Ss j).size) B w' e (Dead ops.toList Ws (addD D i) j b) ((Ss j).get b) := by
  have hjD' : ¬ D j := fun h => hjD (.inl h)
  have hji : j ≠ i := fun h => hjD (.inr h)
  -- a cell that is nobody's now was nobody's before, or the operation wrote it
  have hdead : ∀ o, ¬ Dead ops.toList Ws (addD D i) j b o → (b, o) ∉ Ws i → ¬ Dead ops.toList Ws D j b o := by
    rintro o hn hw ⟨k, hk, hkj, hm, q⟩
    refine hn ⟨k, hk, hkj, hm, q.imp id fun q => ⟨q.1, fun h => ?_⟩⟩
    rcases h with h | h
    · exact q.2 h
    · subst h; exact hw hm
  -- the cells that the operation wrote come ahead of what is to come
  have hahead : ∀ o, ¬ Dead ops.toList Ws (addD D i) j b o → (b, o) ∈ Ws i → i < j := by
    intro o hn hw
    rcases Nat.lt_or_ge j ops.toList.length with q | q
    · cases hq : ordered (predsOf ops.toList) j i with
      | true => exact I.ord2 St hrd hjD' hq
      | false => exact absurd ⟨i, hi, hji.symm, hw, .inl ⟨q, hq⟩⟩ hn
    · omega
  rcases or_cases C I hi hiD R hb with hρ | ⟨hnone, hρ', hge, hlt⟩
  · have hold := I.blk j hj hjD' b e hρ hbj
    -- between i and j nobody else writes the cell
    have hquiet : ∀ o, ¬ Dead ops.toList Ws (addD D i) j b o → (b, o) ∈ Ws i → ∀ k, i + 1 ≤ k → k < j → (b, o) ∉ Ws k := by
      intro o hn hw k hk1 hk2 hm
      by_cases hDk : D k
      · exact C.apart i k hi (by omega) (by omega) (I.ord1 St hDk hiD (by omega)) _ hw hm
      · refine hn ⟨k, by omega, by omega, hm, .inr ⟨hk2, fun h => ?_⟩⟩
        rcases h with h | h
        · exact hDk h
        · omega
    cases hx : (Ss j).get b with
    | gone => trivial
    | cells cs k =>
      rw [hx] at hold
      obtain ⟨h1, h2⟩ := hold
      have wr : ∀ o v, cs[o]? = some v → ¬ Dead ops.toList Ws (addD D i) j b o → (b, o) ∈ Ws i → i < j ∧ ∃ c2, S'.get b = .cells c2 k ∧ c2[o]? = some v ∧ BlkR ρ' B w' e (.cells c2 k) := fun o v ho hnd hw => by
        have hij := hahead o hnd hw
        have hbi : b < (Ss i).size := R.ev.wb _ hw
        have hbi1 : b < (Ss (i + 1)).size := by have := C.size i hi; omega
        obtain ⟨W, hW, hf⟩ := C.chain hbi1 (j := j) hij hj
        rw [hx] at hf
        have hag := R.agree b hbi
        cases hy : (Ss (i + 1)).get b with
        | cells c1 k1 =>
          rw [hy] at hf hag
          obtain ⟨rfl, l1, f1, _⟩ := hf
          have hc1 : c1[o]? = some v := by
            rw [← f1 o fun hm => ?_]
            · exact ho
            · obtain ⟨m, m1, m2, m3⟩ := hW _ hm
              exact hquiet o hnd hw m m1 m2 m3
          have hbl := R.rel.blk b e (R.ev.ext.m b e (restr_some.2 ⟨hbi, hρ⟩))
          cases hz : S'.get b with
          | cells c2 k2 =>
            rw [hz] at hag hbl
            obtain ⟨rfl, l2, f2⟩ := hag
            exact ⟨hij, c2, rfl, by rw [f2 o hw]; exact hc1, hbl⟩
          | iter _ _ => rw [hz] at hag; exact hag.elim
          | gone => rw [hz] at hag; exact hag.elim
        | iter _ _ => rw [hy] at hf; exact hf.elim
        | gone => rw [hy] at hf; exact hf.elim
      have hfl : k.flat = true → FlatD (Dead ops.toList Ws D j b) cs → FlatD (Dead ops.toList Ws (addD D i) j b) cs := fun hk hf o v ho hv hnd => by
        by_cases hw : (b, o) ∈ Ws i
        · obtain ⟨_, c2, _, hc2, hbl⟩ := wr o v ho hnd hw
          have hm := List.mem_of_getElem? hc2
          cases k with
          | ro => cases hk
          | own => cases hk
          | arr esz => exact hbl.1.2.2.1 v hm hv
          | loose esz n => exact hbl.1.2.2.2.1 v hm hv
        · exact hf o v ho hv (hdead o hnd hw)
      refine ⟨?_, fun o v ho hv hnd => ?_⟩
      · cases k with
        | ro => exact h1
        | own => exact h1
        | arr esz => exact ⟨h1.1, h1.2.1, hfl rfl h1.2.2.1, fun m hm => R.ev.keep _ _ (h1.2.2.2 m hm).1 (h1.2.2.2 m hm).2⟩
        | loose esz n =>
          obtain ⟨a1, a2, al, af, rsz, a3, am, a4⟩ := h1
          exact ⟨a1, a2, al, hfl rfl af, rsz, a3, am, fun m hm => R.ev.keep _ _ (a4 m hm).1 (a4 m hm).2⟩
      · have hol : o < cs.length := by
          rcases Nat.lt_or_ge o cs.length with q | q
          · exact q
          · rw [List.getElem?_eq_none q] at ho; cases ho
        by_cases hw : (b, o) ∈ Ws i
        · obtain ⟨hij, c2, hz, hc2, hbl⟩ := wr o v ho hnd hw
          obtain ⟨u', q1, q2, q3⟩ := hbl.2 o v hc2 hv
          exact ⟨u', q1, q2.mono (or_le_restr C I hi hiD R hij hj), q3⟩
        · obtain ⟨u', q1, q2, q3⟩ := h2 o v ho hv (hdead o hnd hw)
          obtain ⟨s1, s2⟩ := same_cell St C I hi hiD R hρ hj hjD' hbj hx hol (hdead o hnd hw) hw
          exact ⟨u', s1.trans q1, q2.mono (restr_mono (Emb.or_le R.zle) (Nat.le_refl _)), fun hk => s2.trans (q3 hk)⟩
    | iter s pos =>
      rw [hx] at hold
      refine ⟨hold.1, fun hnd => ?_⟩
      by_cases hw : (b, 0) ∈ Ws i
      · have hij := hahead 0 hnd hw
        have hbi : b < (Ss i).size := R.ev.wb _ hw
        have hbi1 : b < (Ss (i + 1)).size := by have := C.size i hi; omega
        obtain ⟨W, hW, hf⟩ := C.chain hbi1 (j := j) hij hj
        rw [hx] at hf
        have hag := R.agree b hbi
        cases hy : (Ss (i + 1)).get b with
        | cells c1 k1 => rw [hy] at hf; exact hf.elim
        | iter s1 p1 =>
          rw [hy] at hf hag
          obtain ⟨rfl, f1⟩ := hf
          have hp1 := f1 fun hm => (by
            obtain ⟨m, m1, m2, m3⟩ := hW _ hm
            exact hquiet 0 hnd hw m m1 m2 m3)
          subst hp1
          have hbl := R.rel.blk b e (R.ev.ext.m b e (restr_some.2 ⟨hbi, hρ⟩))
          cases hz : S'.get b with
          | cells c2 k2 => rw [hz] at hag; exact absurd hw hag
          | iter s2 p2 =>
            rw [hz] at hag hbl
            obtain ⟨rfl, f2⟩ := hag
            have := f2 hw
            subst this
            exact hbl.2
          | gone => rw [hz] at hag; exact hag.elim
        | gone => rw [hy] at hf; exact hf.elim
      · rw [same_iter St C I hi hiD R hρ hj hjD' hbj hx (hdead 0 hnd hw) hw]
        exact hold.2 (hdead 0 hnd hw)
  · -- a block that the operation made
    have hij : i < j := by
      rcases Nat.lt_or_ge i j with q | q
      · exact q
      · have := C.sizes (i := j) (j := i) q (by omega); omega
    obtain ⟨W, hW, hf⟩ := C.chain hlt (j := j) hij hj
    have hbl := R.rel.blk b e hρ'
    rw [R.newb b hge] at hbl
    have hquiet : ∀ o, ¬ Dead ops.toList Ws (addD D i) j b o → (b, o) ∉ W := by
      intro o hn hm
      obtain ⟨k, k1, k2, k3⟩ := hW _ hm
      by_cases hDk : D k
      · obtain ⟨e', he'⟩ := I.wd k hDk _ k3
        rw [hnone] at he'; cases he'
      · refine hn ⟨k, by omega, by omega, k3, .inr ⟨k2, fun h => ?_⟩⟩
        rcases h with h | h
        · exact hDk h
        · omega
    cases hx : (Ss j).get b with
    | gone => trivial
    | cells cs k =>
      rw [hx] at hf
      cases hy : (Ss (i + 1)).get b with
      | cells c1 k1 =>
        rw [hy] at hf hbl
        obtain ⟨rfl, l1, f1, _⟩ := hf
        obtain ⟨h1, h2⟩ := hbl
        have hfl : Flat c1 → FlatD (Dead ops.toList Ws (addD D i) j b) cs := fun hf o v ho hv hnd => by
          rw [f1 o (hquiet o hnd)] at ho
          exact hf v (List.mem_of_getElem? ho) hv
        refine ⟨?_, fun o v ho hv hnd => ?_⟩
        · cases k with
          | ro => exact h1
          | own => exact h1
          | arr esz => exact ⟨h1.1, h1.2.1, hfl h1.2.2.1, fun m hm => h1.2.2.2 m (by omega)⟩
          | loose esz n =>
            obtain ⟨a1, a2, al, af, rsz, a3, am, a4⟩ := h1
            exact ⟨a1, a2, by omega, hfl af, rsz, a3, am, a4⟩
        · rw [f1 o (hquiet o hnd)] at ho
          obtain ⟨u', q1, q2, q3⟩ := h2 o v ho hv
          exact ⟨u', q1, q2.mono (or_le_restr C I hi hiD R hij hj), q3⟩
      | iter _ _ => rw [hy] at hf; exact hf.elim
      | gone => rw [hy] at hf; exact hf.elim
    | iter s pos =>
      rw [hx] at hf
      cases hy : (Ss (i + 1)).get b with
      | cells c1 k1 => rw [hy] at hf; exact hf.elim
      | iter s1 p1 =>
        rw [hy] at hf hbl
        obtain ⟨rfl, f1⟩ := hf
        refine ⟨hbl.1, fun hnd => ?_⟩
        rw [f1 (hquiet 0 hnd)]
        exact hbl.2
      | gone => rw [hy] at hf; exact hf.elim

end
end Go.XM
