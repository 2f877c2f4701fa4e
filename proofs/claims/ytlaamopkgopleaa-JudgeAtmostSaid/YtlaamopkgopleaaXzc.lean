/- A plain machine beside the model, and that what it tells the model does: part Xzc. Conditions: those of each theorem below. -/
import Derived.Test.YtlaamopkgopleaaXzb
namespace Go.XM
set_option linter.unusedVariables false
set_option linter.unusedSimpArgs false
open Go.RowKit
set_option linter.unusedVariables false

section
variable {B : Nat} {w0 : World} {n : Nat} {ops : Array Oper} {Ts : Nat → Tmps} {Ss : Nat → XS} {vs : Nat → XV} {Ws : Nat → List (Nat × Nat)} {ρs : Emb} {ws : World} {D : Nat → Prop} {ρ : Emb} {a : Act} {w : World}
variable {i : Nat} {Sp S' : XS} {ρ' : Emb} {w' : World} {u : Value}

theorem Kd.mono {D D' : Nat → Prop} (h : ∀ k, D k → D' k) {b c : Nat} (q : Kd ops.toList Ss D b c) : Kd ops.toList Ss D' b c :=
  q.imp id fun ⟨k, hk, r⟩ => ⟨k, h k hk, r⟩

theorem gone_next (R : Did B w0 Ss vs Ws i (restr ρ (Ss i).size) Sp w ρ' S' w' u) {b : Nat} (hb : b < (Ss i).size) (hg : (S'.get b).isGone = true) : ((Ss (i + 1)).get b).isGone = true := by
  have hag := R.agree b hb
  revert hag hg
  cases S'.get b <;> cases (Ss (i + 1)).get b <;> simp [Agree, XBlk.isGone]

theorem inj_new (St : Static n ops) (C : Can ops.toList Ts Ss vs Ws) (I : Inv B w0 n ops Ts Ss Ws ρs ws D ρ a w) (hi : i < ops.toList.length) (hiD : ¬ D i)
    (R : Did B w0 Ss vs Ws i (restr ρ (Ss i).size) Sp w ρ' S' w' u) {b b' : Nat} {e e' : Ent} (hb : ρ b = some e) (hb' : ρ' b' = some e') (hge : (Ss i).size ≤ b') (hq : e.blk = e'.blk) : Kd ops.toList Ss (addD D i) b b' := by
  have hlt := I.lt b e hb
  rcases R.ev.new b' e' hb' hge with q | ⟨b0, e0, q1, q2, _⟩ | ⟨p, hp, e0, q1, q2, q3⟩
  · omega
  · have := (restr_some.1 q2).1; omega
  · obtain ⟨hpl, hpe⟩ := restr_some.1 q1
    have hg := gone_next R hpl q3
    have hw := R.sp _ _ (R.ev.wl p hp)
    have hs := C.size i hi
    by_cases hpb : p.1 = b
    · rw [hpb] at hg hw hpl
      exact .inr ⟨i, .inr rfl, hi, by omega, hg, fun _ => hw.notGone, hge⟩
    · rcases hit_kd St C I hi hiD R hp hpe hb (q2.trans hq.symm) hpb with k | ⟨k, k1, k2, k3, k4, k5, k6⟩
      · exact .inl k
      · exact .inr ⟨k, .inl k1, k2, k3, k4, k5, by omega⟩

theorem inj_step (St : Static n ops) (C : Can ops.toList Ts Ss vs Ws) (I : Inv B w0 n ops Ts Ss Ws ρs ws D ρ a w) (hi : i < ops.toList.length) (hiD : ¬ D i)
    (R : Did B w0 Ss vs Ws i (restr ρ (Ss i).size) Sp w ρ' S' w' u) {b b' : Nat} {e e' : Ent} (hb : ρ.or ρ' b = some e) (hb' : ρ.or ρ' b' = some e') (hq : e.blk = e'.blk) (hne : b ≠ b') :
    (Ro ops.toList Ss b ∧ Ro ops.toList Ss b') ∨ Kd ops.toList Ss (addD D i) b b' ∨ Kd ops.toList Ss (addD D i) b' b := by
  rcases or_cases C I hi hiD R hb with h1 | ⟨_, h1, h2, h3⟩
  · rcases or_cases C I hi hiD R hb' with k1 | ⟨_, k1, k2, k3⟩
    · exact (I.inj b b' e e' h1 k1 hq hne).imp id fun q => q.imp (Kd.mono fun k => .inl) (Kd.mono fun k => .inl)
    · exact .inr (.inl (inj_new St C I hi hiD R h1 k1 k2 hq))
  · rcases or_cases C I hi hiD R hb' with k1 | ⟨_, k1, k2, k3⟩
    · exact .inr (.inr (inj_new St C I hi hiD R k1 h1 h2 hq.symm))
    · have hN := C.sizes (i := i + 1) (j := i + 1) (Nat.le_refl _) hi
      rcases R.rel.inj b b' e e' h1 k1 hq hne with q | q | q
      · rw [R.newb b h2, R.newb b' k2] at q
        exact .inl ⟨⟨i + 1, hi, h3, q.1⟩, ⟨i + 1, hi, k3, q.2⟩⟩
      · rw [R.newb b h2] at q
        exact .inr (.inl (.inr ⟨i, .inr rfl, hi, h3, q, fun q => by omega, k2⟩))
      · rw [R.newb b' k2] at q
        exact .inr (.inr (.inr ⟨i, .inr rfl, hi, k3, q, fun q => by omega, h2⟩))

theorem tput {o : Oper} (T : Tmps) (v : XV) (t : Nat) : tget (putX T o.dst v) t = if o.dst = some t then v else tget T t := by
  unfold putX
  cases hd : o.dst with
  | none => simp
  | some d =>
    simp only [tget_tset, Option.some.injEq]
    by_cases q : t = d
    · subst q; simp
    · rw [if_neg q, if_neg (fun h => q h.symm)]

/-- what nobody puts stays -/
theorem Can.tstay (C : Can ops.toList Ts Ss vs Ws) {i t : Nat} : ∀ {j : Nat}, i ≤ j → j ≤ ops.toList.length → (∀ k, i ≤ k → k < j → ¬ Writes ops.toList k t) → tget (Ts j) t = tget (Ts i) t := by
  intro j
  induction j with
  | zero => intro h _ _; have : i = 0 := by omega
            subst this; rfl
  | succ j ih =>
    intro h hj hn
    rcases Nat.lt_or_ge j i with q | q
    · have : i = j + 1 := by omega
      subst this; rfl
    · rw [← ih q (by omega) fun k h1 h2 => hn k h1 (by omega)]
      have ho : ops.toList[j]? = some (ops.toList[j]'(by omega)) := List.getElem?_eq_getElem _
      rw [C.put j _ ho, tput, if_neg]
      intro hd
      exact hn j q (by omega) ⟨_, ho, hd⟩

theorem put_none (a : Act) (u : Value) : a.put none u = a := rfl

theorem tmp_step (St : Static n ops) (C : Can ops.toList Ts Ss vs Ws) (I : Inv B w0 n ops Ts Ss Ws ρs ws D ρ a w) (hi : i < ops.toList.length) (hiD : ¬ D i) (hrd : ∀ o, ops.toList[i]? = some o → ∀ d, d ∈ directs o → D d)
    (R : Did B w0 Ss vs Ws i (restr ρ (Ss i).size) Sp w ρ' S' w' u) {o : Oper} (ho : ops.toList[i]? = some o) {j : Nat} (hj : j ≤ ops.toList.length) (hjD : ¬ addD D i j) {t : Nat} (hl : Looks ops j t)
    (hw : ∀ k, k < j → Writes ops.toList k t → addD D i k) (hlv : (tget (Ts j) t).live = true) : VR (restr (ρ.or ρ') (Ss j).size) (tget (Ts j) t) ((a.put o.dst u).tmps.getD t undef) := by
  have hjD' : ¬ D j := fun h => hjD (.inl h)
  have hji : j ≠ i := fun h => hjD (.inr h)
  by_cases hd : o.dst = some t
  · have hdt : t < a.tmps.size := by
      have := St.dst i o ho
      unfold okDst at this
      rw [hd] at this
      rw [I.tsz]; simpa using this
    rw [hd, put_getD a t u t hdt, if_pos rfl]
    have hij : i < j := by
      rcases hl with hl | ⟨o', ho', hl⟩
      · omega
      · exact I.ord2 St hrd hjD' (St.tmp j i o' o t ho' ho hji hd (.inl hl))
    rw [C.tstay (i := i + 1) hij hj fun k h1 h2 hk => ?_, C.put i o ho, tput, if_pos hd]
    · exact R.val.mono (or_le_restr C I hi hiD R hij hj)
    · have hDk : D k := by
        rcases hw k h2 hk with q | q
        · exact q
        · omega
      obtain ⟨ok, hok, hkd⟩ := hk
      have hord := St.tmp k i ok o t hok ho (by omega) hd (.inr hkd)
      have := I.ord1 St hDk hiD (by omega)
      rw [ordered_symm, this] at hord
      cases hord
  · have he : (a.put o.dst u).tmps.getD t undef = a.tmps.getD t undef := by
      cases hq : o.dst with
      | none => rfl
      | some d =>
        have hdt : d < a.tmps.size := by
          have := St.dst i o ho
          unfold okDst at this
          rw [hq] at this
          rw [I.tsz]; simpa using this
        rw [put_getD a d u t hdt, if_neg]
        rintro rfl
        exact hd hq
    rw [he]
    refine (I.tmp j hj hjD' t hl (fun k h1 h2 => ?_) hlv).mono (restr_mono (Emb.or_le R.zle) (Nat.le_refl _))
    rcases hw k h1 h2 with q | q
    · exact q
    · subst q
      obtain ⟨o', ho', hd'⟩ := h2
      rw [ho] at ho'
      injection ho' with ho'
      subst ho'
      exact absurd hd' hd

theorem inv_step (St : Static n ops) (C : Can ops.toList Ts Ss vs Ws) (I : Inv B w0 n ops Ts Ss Ws ρs ws D ρ a w) (hi : i < ops.toList.length) (hiD : ¬ D i) (hrd : ∀ o, ops.toList[i]? = some o → ∀ d, d ∈ directs o → D d)
    (R : Did B w0 Ss vs Ws i (restr ρ (Ss i).size) Sp w ρ' S' w' u) {o : Oper} (ho : ops.toList[i]? = some o) : Inv B w0 n ops Ts Ss Ws ρs ws (addD D i) (ρ.or ρ') (a.put o.dst u) w' where
  cl := by
    intro k hk
    rcases hk with hk | rfl
    · exact ⟨(I.cl k hk).1, fun o ho d hd => .inl ((I.cl k hk).2 o ho d hd)⟩
    · exact ⟨hi, fun o ho d hd => .inl (hrd o ho d hd)⟩
  below := R.rel.below
  Bw := I.Bw
  dom := by
    intro b e hb
    rcases or_cases C I hi hiD R hb with h | ⟨_, _, h1, h2⟩
    · exact (I.dom b e h).imp id fun ⟨k, hk, q⟩ => ⟨k, .inl hk, q⟩
    · exact .inr ⟨i, .inr rfl, h1, h2⟩
  lt := by
    intro b e hb
    rcases or_cases C I hi hiD R hb with h | ⟨_, h, _, _⟩
    · have := I.lt b e h; have := R.ev.wsize; omega
    · exact R.rel.lt b e h
  inj := fun b b' e e' hb hb' hq hne => inj_step St C I hi hiD R hb hb' hq hne
  wd := by
    intro k hk p hp
    rcases hk with hk | rfl
    · obtain ⟨e, he⟩ := I.wd k hk p hp; exact ⟨e, (Emb.or_le R.zle).m _ _ he⟩
    · obtain ⟨e, he⟩ := R.ev.wd p hp; exact ⟨e, (Emb.or_le R.zle).m _ _ (restr_some.1 he).2⟩
  wl := by
    intro k hk p hp hlt
    rcases hk with hk | rfl
    · exact I.wl k hk p hp hlt
    · exact C.back hlt (Nat.zero_le _) (Nat.le_of_lt hi) (R.sp _ _ (R.ev.wl p hp))
  blk := fun j hj hjD b e hb hbj => blk_step St C I hi hiD hrd R hj hjD hb hbj
  tmp := fun j hj hjD t hl hw hlv => tmp_step St C I hi hiD hrd R ho hj hjD hl hw hlv
  tsz := by rw [put_size]; exact I.tsz
  dfr := by rw [put_defers]; exact I.dfr
  ext := Emb.le_trans I.ext (Emb.or_le R.zle)
  old := by
    intro b e hb hlt
    rcases or_cases C I hi hiD R hb with h | ⟨_, _, h1, _⟩
    · exact I.old b e h hlt
    · have := C.sizes (Nat.zero_le i) (Nat.le_of_lt hi); omega
  wsize := Nat.le_trans I.wsize R.ev.wsize
  new := by
    intro b e hb hge
    rcases or_cases C I hi hiD R hb with h | ⟨_, h, h1, h2⟩
    · exact (I.new b e h hge).imp id fun ⟨k, hk, q⟩ => ⟨k, .inl hk, q⟩
    · rcases R.ev.new b e h h1 with q | ⟨b0, e0, q1, q2, _⟩ | ⟨p, hp, e0, q1, q2, q3⟩
      · exact .inl (Nat.le_trans I.wsize q)
      · have := (restr_some.1 q2).1; omega
      · obtain ⟨hpl, hpe⟩ := restr_some.1 q1
        rcases Nat.lt_or_ge p.1 (Ss 0).size with hp0 | hp0
        · exact .inr ⟨i, .inr rfl, p, hp, hp0, e0, I.old _ _ hpe hp0, q2, gone_next R hpl q3⟩
        · rcases I.new p.1 e0 hpe hp0 with z | ⟨k, hk, p', z1, z2, e', z3, z4, z5⟩
          · exact .inl (by omega)
          · exact .inr ⟨k, .inl hk, p', z1, z2, e', z3, z4.trans q2, z5⟩
  frame := by
    intro r o hr
    rcases R.ev.frame r o (Nat.lt_of_lt_of_le hr I.wsize) with q | ⟨p, hp, e, q1, q2, q3⟩ | ⟨b0, e0, q1, q2, _⟩
    · rcases I.frame r o hr with z | ⟨k, hk, z⟩
      · exact .inl (z.trans q)
      · exact .inr ⟨k, .inl hk, z⟩
    · obtain ⟨hpl, hpe⟩ := restr_some.1 q1
      rcases Nat.lt_or_ge p.1 (Ss 0).size with hp0 | hp0
      · exact .inr ⟨i, .inr rfl, p, hp, hp0, e, I.old _ _ hpe hp0, q2, q3.imp id fun q3 => gone_next R hpl q3⟩
      · rcases I.new p.1 e hpe hp0 with z | ⟨k, hk, p', z1, z2, e', z3, z4, z5⟩
        · omega
        · exact .inr ⟨k, .inl hk, p', z1, z2, e', z3, z4.trans q2, .inr z5⟩
    · have := (restr_some.1 q2).1; omega
  frameI := by
    intro r hr
    rcases R.ev.frameI r (Nat.lt_of_lt_of_le hr I.wsize) with q | ⟨p, hp, e, q1, q2⟩ | ⟨b0, e0, q1, q2, _⟩
    · rcases I.frameI r hr with z | ⟨k, hk, z⟩
      · exact .inl (q.trans z)
      · exact .inr ⟨k, .inl hk, z⟩
    · obtain ⟨hpl, hpe⟩ := restr_some.1 q1
      rcases Nat.lt_or_ge p.1 (Ss 0).size with hp0 | hp0
      · exact .inr ⟨i, .inr rfl, p, hp, hp0, e, I.old _ _ hpe hp0, q2⟩
      · rcases I.new p.1 e hpe hp0 with z | ⟨k, hk, p', z1, z2, e', z3, z4, z5⟩
        · omega
        · exact .inr ⟨k, .inl hk, p', z1, z2, e', z3, z4.trans q2⟩
    · have := (restr_some.1 q2).1; omega
  keep := fun r o h1 h2 => R.ev.keep r o (I.keep r o h1 h2).1 (I.keep r o h1 h2).2
  fz := by
    refine ⟨R.rel.fz.ok, R.rel.fz.zc, fun b e hb hB t o => ?_⟩
    rcases or_cases C I hi hiD R hb with h | ⟨_, h, _, _⟩
    · cases hq : (ρ.or ρ').z t e.blk o with
      | none => rfl
      | some v =>
        have h1 : ρ.z t e.blk o = some v := R.ev.zold t e.blk o v hq (I.lt b e h)
        rw [I.fz.zd b e h hB t o] at h1
        cases h1
    · exact R.rel.fz.zd b e h hB t o
  zold := fun t r o v h hr => I.zold t r o v (R.ev.zold t r o v h (Nat.lt_of_lt_of_le hr I.wsize)) hr

end
end Go.XM
