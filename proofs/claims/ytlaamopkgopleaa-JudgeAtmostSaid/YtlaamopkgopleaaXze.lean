/- A plain machine beside the model, and that what it tells the model does: part Xze. Conditions: those of each theorem below. -/
import Derived.Test.YtlaamopkgopleaaXzd
namespace Go.XM
set_option linter.unusedVariables false
set_option linter.unusedSimpArgs false
open Go.RowKit
set_option linter.unusedVariables false

theorem filter_lt {p q : Nat → Bool} : ∀ (l : List Nat), (∀ x, x ∈ l → q x = true → p x = true) → (∃ x, x ∈ l ∧ p x = true ∧ q x = false) → (l.filter q).length < (l.filter p).length
  | [], _, ⟨x, hx, _⟩ => by cases hx
  | y :: l, h, ⟨x, hx, h1, h2⟩ => by
    have hle : (l.filter q).length ≤ (l.filter p).length := by
      clear h1 h2 hx
      have h' : ∀ x, x ∈ l → q x = true → p x = true := fun x hx => h x (by simp [hx])
      clear h
      induction l with
      | nil => simp
      | cons z l ih =>
        have ih' := ih fun x hx => h' x (by simp [hx])
        have hz := h' z (by simp)
        simp only [List.filter_cons]
        by_cases q1 : q z = true
        · rw [if_pos q1, if_pos (hz q1)]; simpa using ih'
        · rw [if_neg q1]
          split
          · simp; omega
          · exact ih'
    simp only [List.filter_cons]
    rcases List.mem_cons.1 hx with rfl | hx
    · rw [if_pos h1, if_neg (by simp [h2])]
      simp; omega
    · have := filter_lt l (fun x hx => h x (by simp [hx])) ⟨x, hx, h1, h2⟩
      have hy := h y (by simp)
      by_cases q1 : q y = true
      · rw [if_pos q1, if_pos (hy q1)]; simpa using this
      · rw [if_neg q1]
        split
        · simp; omega
        · exact this

section
variable {P : Program} {B : Nat} {w0 : World} {n : Nat} {ops : Array Oper} {Ts : Nat → Tmps} {Ss : Nat → XS} {vs : Nat → XV} {Ws : Nat → List (Nat × Nat)} {ρs : Emb} {ws : World} {D : Nat → Prop} {ρ : Emb} {a : Act} {w : World}
variable {call : XCallFn} {Wd : List (List (Nat × Nat))}

def undone (N : Nat) (listed : Array Bool) : Nat := ((List.range N).filter fun k => !listed.getD k false).length

def isDone (listed : Array Bool) : Nat → Prop := fun k => listed.getD k false = true

theorem isDone_set {listed : Array Bool} {i : Nat} (hi : i < listed.size) : isDone (listed.setIfInBounds i true) = addD (isDone listed) i := by
  funext k
  apply propext
  unfold isDone addD
  by_cases h : i = k
  · subst h; simp [hi]
  · rw [getD_set_ne false h]
    exact ⟨.inl, fun q => q.resolve_right fun h' => h h'.symm⟩

theorem ready_all (St : Static n ops) {listed : Array Bool} (hl : listed.size = ops.toList.length) (h : Region.ready .any ops listed = []) : ∀ k, k < ops.toList.length → isDone listed k := by
  intro k
  induction k using Nat.strongRecOn with
  | ind k ih =>
    intro hk
    cases hq : listed.getD k false with
    | true => exact hq
    | false =>
      exfalso
      have hm : k ∈ Region.ready .any ops listed := by
        rw [mem_ready]
        have ho : ops.toList[k]? = some (ops.toList[k]) := List.getElem?_eq_getElem hk
        refine ⟨?_, ops.toList[k], by rw [← Array.getElem?_toList]; exact ho, fun e he hb => ?_⟩
        · rw [Array.getD_eq_getD_getElem?] at hq ⊢
          have : k < listed.size := by omega
          simp only [Array.getElem?_eq_getElem this, Option.getD_some] at hq ⊢
          exact hq
        · have hd : e.on ∈ directs ops.toList[k] := by
            unfold directs
            exact List.mem_map.2 ⟨e, List.mem_filter.2 ⟨by simpa using he, hb⟩, rfl⟩
          have := St.dir k _ ho _ hd
          exact ih e.on this (by omega)
      rw [h] at hm
      cases hm

theorem any_ok (hc : CallOK P B w0 call) (St : Static n ops) (C : Can ops.toList Ts Ss vs Ws) (hsub : ∀ k, k < ops.toList.length → ∀ p, p ∈ Ws k → p ∈ Wd.getD k [])
    (hst : ∀ i o, ops.toList[i]? = some o → StepC P call ops.toList (predsOf ops.toList) Wd i o (Ts i) (Ss i) (Ts (i + 1)) (Ss (i + 1)) (vs i) (Ws i)) {Q : Exit → Act → World → Prop}
    (hQ : ∀ D ρ' a' w', (∀ k, k < ops.toList.length → D k) → Inv B w0 n ops Ts Ss Ws ρs ws D ρ' a' w' → Q .normal a' w') :
    ∀ (fuel : Nat) (listed : Array Bool) (ρ : Emb) (a : Act) (w : World), listed.size = ops.toList.length → undone ops.toList.length listed ≤ fuel → Inv B w0 n ops Ts Ss Ws ρs ws (isDone listed) ρ a w → wpAny P .any ops Q fuel listed a w
  | 0, listed, ρ, a, w, hl, hu, I => by
    have hall : ∀ k, k < ops.toList.length → isDone listed k := by
      intro k hk
      cases hq : listed.getD k false with
      | true => exact hq
      | false =>
        exfalso
        have hm : k ∈ (List.range ops.toList.length).filter fun k => !listed.getD k false := List.mem_filter.2 ⟨List.mem_range.2 hk, by rw [hq]; rfl⟩
        have := List.length_pos_of_mem hm
        unfold undone at hu
        omega
    refine ⟨?_, hQ _ _ _ _ hall I⟩
    rw [List.eq_nil_iff_forall_not_mem]
    intro k hk
    rw [mem_ready] at hk
    obtain ⟨h1, o, ho, _⟩ := hk
    have hlt : k < ops.toList.length := by
      rcases Nat.lt_or_ge k ops.toList.length with q | q
      · exact q
      · rw [← Array.getElem?_toList, List.getElem?_eq_none q] at ho; cases ho
    have h2 := hall k hlt
    unfold isDone at h2
    rw [Array.getD_eq_getD_getElem?] at h1 h2
    have : k < listed.size := by omega
    simp only [Array.getElem?_eq_getElem this, Option.getD_some] at h1 h2
    rw [h1] at h2
    cases h2
  | fuel + 1, listed, ρ, a, w, hl, hu, I => by
    refine ⟨fun hr => hQ _ _ _ _ (ready_all St hl hr) I, fun i hi => ?_⟩
    rw [mem_ready] at hi
    obtain ⟨h1, o, ho, hafter⟩ := hi
    rw [← Array.getElem?_toList] at ho
    have hlt : i < ops.toList.length := by
      rcases Nat.lt_or_ge i ops.toList.length with q | q
      · exact q
      · rw [List.getElem?_eq_none q] at ho; cases ho
    have hiD : ¬ isDone listed i := by
      unfold isDone
      rw [Array.getD_eq_getD_getElem?] at h1 ⊢
      have : i < listed.size := by omega
      simp only [Array.getElem?_eq_getElem this, Option.getD_some] at h1 ⊢
      rw [h1]; simp
    have hrd : ∀ o, ops.toList[i]? = some o → ∀ d, d ∈ directs o → isDone listed d := by
      intro o' ho' d hd
      rw [ho] at ho'
      injection ho' with ho'
      subst ho'
      unfold directs at hd
      obtain ⟨e, he, rfl⟩ := List.mem_map.1 hd
      obtain ⟨he1, he2⟩ := List.mem_filter.1 he
      exact hafter e (by simpa using he1) he2
    refine one_any hc St C hsub I hlt hiD hrd ho (hst i o ho) fun ρ' a' w' I' => ?_
    rw [← isDone_set (by omega)] at I'
    refine any_ok hc St C hsub hst hQ fuel _ ρ' a' w' (by simpa using hl) ?_ I'
    have : undone ops.toList.length (listed.setIfInBounds i true) < undone ops.toList.length listed := by
      unfold undone
      refine filter_lt _ (fun x _ hx => ?_) ⟨i, List.mem_range.2 hlt, ?_, ?_⟩
      · cases hq : listed.getD x false with
        | false => rfl
        | true => rw [getD_set_true hq] at hx; cases hx
      · cases hq : listed.getD i false with
        | false => rfl
        | true => exact absurd hq hiD
      · have : i < listed.size := by omega
        simp [this]
    omega

theorem inv_start (C : Can ops.toList Ts Ss vs Ws) (h : Rel B w0 ρ (Ss 0) w) (hT : TR ρ (Ts 0) a.tmps) (hn : a.tmps.size = n) (hdf : a.defers = []) :
    Inv B w0 n ops Ts Ss Ws ρ w (fun _ => False) ρ a w where
  cl := fun k hk => hk.elim
  below := h.below
  Bw := h.Bw
  dom := fun b e he => .inl (h.dom b e he)
  lt := h.lt
  inj := fun b b' e e' he he' hq hne => by
    rcases h.inj b b' e e' he he' hq hne with q | q | q
    · exact .inl ⟨⟨0, Nat.zero_le _, h.dom b e he, q.1⟩, ⟨0, Nat.zero_le _, h.dom b' e' he', q.2⟩⟩
    · exact .inr (.inl (.inl ⟨h.dom b e he, q⟩))
    · exact .inr (.inr (.inl ⟨h.dom b' e' he', q⟩))
  wd := fun k hk => hk.elim
  wl := fun k hk => hk.elim
  blk := fun j hj hjD b e he hbj => by
    have hb0 := h.dom b e he
    have hle : ρ.le (restr ρ (Ss j).size) := ⟨fun c x hx => restr_some.2 ⟨by have := h.dom c x hx; have := C.sizes (Nat.zero_le j) hj; omega, hx⟩, ZMap.le_refl _⟩
    obtain ⟨W, hW, hf⟩ := C.chain hb0 (Nat.zero_le j) hj
    have hq : ∀ o, ¬ Dead ops.toList Ws (fun _ => False) j b o → (b, o) ∉ W := fun o hn hm => by
      obtain ⟨k, _, k2, k3⟩ := hW _ hm
      exact hn ⟨k, by omega, by omega, k3, .inr ⟨k2, fun h => h⟩⟩
    have hbl := h.blk b e he
    revert hbl hf
    cases (Ss 0).get b with
    | cells cs k =>
      cases (Ss j).get b with
      | cells c1 k1 =>
        rintro ⟨rfl, l, f1, _⟩ ⟨h1, h2⟩
        have hfl : Flat cs → FlatD (Dead ops.toList Ws (fun _ => False) j b) c1 := fun hf o v ho hv hnd => by
          rw [f1 o (hq o hnd)] at ho
          exact hf v (List.mem_of_getElem? ho) hv
        refine ⟨?_, fun o v ho hv hnd => ?_⟩
        · cases k1 with
          | ro => exact h1
          | own => exact h1
          | arr esz => exact ⟨h1.1, h1.2.1, hfl h1.2.2.1, fun m hm => h1.2.2.2 m (by omega)⟩
          | loose esz n =>
            obtain ⟨a1, a2, al, af, rsz, a3, am, a4⟩ := h1
            exact ⟨a1, a2, by omega, hfl af, rsz, a3, am, a4⟩
        · rw [f1 o (hq o hnd)] at ho
          obtain ⟨u, q1, q2, q3⟩ := h2 o v ho hv
          exact ⟨u, q1, q2.mono hle, q3⟩
      | iter _ _ => intro h; exact h.elim
      | gone => intro _ _; trivial
    | iter s p =>
      cases (Ss j).get b with
      | cells c1 k1 => intro h; exact h.elim
      | iter s' p' =>
        rintro ⟨rfl, f1⟩ ⟨h1, h2⟩
        exact ⟨h1, fun hnd => by rw [f1 (hq 0 hnd)]; exact h2⟩
      | gone => intro h; exact h.elim
    | gone =>
      cases (Ss j).get b with
      | cells c1 k1 => intro h; exact h.elim
      | iter s' p' => intro h; exact h.elim
      | gone => intro _ _; trivial
  tmp := fun j hj hjD t hl hw hlv => by
    have hle : ρ.le (restr ρ (Ss j).size) := ⟨fun c x hx => restr_some.2 ⟨by have := h.dom c x hx; have := C.sizes (Nat.zero_le j) hj; omega, hx⟩, ZMap.le_refl _⟩
    have hst := C.tstay (Nat.zero_le j) hj fun k _ h2 h3 => hw k h2 h3
    rw [hst] at hlv ⊢
    exact (hT t hlv).mono hle
  tsz := hn
  dfr := hdf
  ext := Emb.le_refl _
  old := fun b e he _ => he
  wsize := Nat.le_refl _
  new := fun b e he hge => by have := h.dom b e he; omega
  frame := fun r o _ => .inl (SameAt.refl _ _ _)
  frameI := fun r _ => .inl rfl
  keep := fun r o h1 h2 => ⟨h1, h2⟩
  fz := h.fz
  zold := fun _ _ _ _ q _ => q

theorem inv_end (C : Can ops.toList Ts Ss vs Ws) (I : Inv B w0 n ops Ts Ss Ws ρs ws D ρ a w) (hD : ∀ k, k < ops.toList.length → D k) {W : List (Nat × Nat)}
    (hW : ∀ p, p ∈ W ↔ p.1 < (Ss 0).size ∧ ∃ k, k < ops.toList.length ∧ p ∈ Ws k) :
    Rel B w0 ρ (Ss ops.toList.length) w ∧ Ev (Ss 0).size ρs (Ss 0) ws ρ (Ss ops.toList.length) w W ∧ TR ρ (Ts ops.toList.length) a.tmps := by
  have hN : ¬ D ops.toList.length := fun h => by have := (I.cl _ h).1; omega
  have hdead : ∀ b o, ¬ Dead ops.toList Ws D ops.toList.length b o := by
    rintro b o ⟨k, hk, _, _, q⟩
    rcases q with q | q
    · exact absurd q.1 (Nat.lt_irrefl _)
    · exact q.2 (hD k hk)
  have hdom : ∀ b e, ρ b = some e → b < (Ss ops.toList.length).size := fun b e he => by
    rcases I.dom b e he with q | ⟨k, hk, _, q⟩
    · have := C.sizes (Nat.zero_le _) (Nat.le_refl ops.toList.length); omega
    · have := C.sizes (i := k + 1) (j := ops.toList.length) (I.cl k hk).1 (Nat.le_refl _); omega
  have hgk : ∀ k, k < ops.toList.length → ∀ b, b < (Ss (k + 1)).size → ((Ss (k + 1)).get b).isGone = true → ((Ss ops.toList.length).get b).isGone = true := fun k hk b hb hg => C.gone hb hk (Nat.le_refl _) hg
  have h0k : ∀ k, k < ops.toList.length → (Ss 0).size ≤ (Ss (k + 1)).size := fun k hk => C.sizes (Nat.zero_le _) hk
  refine ⟨⟨I.below, I.Bw, hdom, fun b e he => ?_, fun b b' e e' he he' hq hne => ?_, I.lt, I.fz⟩, ⟨I.ext, I.old, C.sizes (Nat.zero_le _) (Nat.le_refl _), I.wsize, fun b hb => ?_, fun b hg hb => C.gone hb (Nat.zero_le _) (Nat.le_refl _) hg, fun p hp => ((hW p).1 hp).1,
    fun b e he hge => ?_, fun r o hr => ?_, fun r hr => ?_, I.keep, fun p hp => ?_, fun p hp => ?_, I.zold⟩, fun t => ?_⟩
  · have hbl := I.blk _ (Nat.le_refl _) hN b e he (hdom b e he)
    revert hbl
    cases (Ss ops.toList.length).get b with
    | cells cs k =>
      rintro ⟨h1, h2⟩
      have hfl : FlatD (Dead ops.toList Ws D ops.toList.length b) cs → Flat cs := fun hf v hv hl => by
        obtain ⟨o, ho⟩ := List.mem_iff_getElem?.1 hv
        exact hf o v ho hl (hdead b o)
      refine ⟨?_, fun o v ho hv => ?_⟩
      · cases k with
        | ro => exact h1
        | own => exact h1
        | arr esz => exact ⟨h1.1, h1.2.1, hfl h1.2.2.1, h1.2.2.2⟩
        | loose esz n =>
          obtain ⟨a1, a2, al, af, rsz, a3, am, a4⟩ := h1
          exact ⟨a1, a2, al, hfl af, rsz, a3, am, a4⟩
      obtain ⟨u, q1, q2, q3⟩ := h2 o v ho hv (hdead b o)
      exact ⟨u, q1, q2.mono (restr_le _ _), q3⟩
    | iter s p => rintro ⟨h1, h2⟩; exact ⟨h1, h2 (hdead b 0)⟩
    | gone => intro _; trivial
  · have kd : ∀ c c', Kd ops.toList Ss D c c' → ((Ss ops.toList.length).get c).isGone = true := by
      rintro c c' (⟨h0, hg⟩ | ⟨k, hk, hkl, hbk, hg, _, _⟩)
      · exact C.gone h0 (Nat.zero_le _) (Nat.le_refl _) hg
      · exact hgk k hkl c hbk hg
    rcases I.inj b b' e e' he he' hq hne with ⟨r1, r2⟩ | q | q
    · rcases C.ro r1 (Nat.le_refl _) (hdom b e he) with z | z
      · rcases C.ro r2 (Nat.le_refl _) (hdom b' e' he') with z' | z'
        · exact .inl ⟨z, z'⟩
        · exact .inr (.inr z')
      · exact .inr (.inl z)
    · exact .inr (.inl (kd _ _ q))
    · exact .inr (.inr (kd _ _ q))
  · obtain ⟨W', hW', hf⟩ := C.chain hb (Nat.zero_le _) (Nat.le_refl ops.toList.length)
    refine hf.filter fun o ho => ?_
    obtain ⟨k, _, k2, k3⟩ := hW' _ ho
    exact (hW _).2 ⟨hb, k, k2, k3⟩
  · rcases I.new b e he hge with q | ⟨k, hk, p, hp, hp0, e0, q1, q2, q3⟩
    · exact .inl q
    · have hkl := (I.cl k hk).1
      exact .inr (.inr ⟨p, (hW p).2 ⟨hp0, k, hkl, hp⟩, e0, q1, q2, hgk k hkl p.1 (by have := h0k k hkl; omega) q3⟩)
  · rcases I.frame r o hr with q | ⟨k, hk, p, hp, hp0, e0, q1, q2, q3⟩
    · exact .inl q
    · have hkl := (I.cl k hk).1
      exact .inr (.inl ⟨p, (hW p).2 ⟨hp0, k, hkl, hp⟩, e0, q1, q2, q3.imp id fun q3 => hgk k hkl p.1 (by have := h0k k hkl; omega) q3⟩)
  · rcases I.frameI r hr with q | ⟨k, hk, p, hp, hp0, e0, q1, q2⟩
    · exact .inl q
    · exact .inr (.inl ⟨p, (hW p).2 ⟨hp0, k, (I.cl k hk).1, hp⟩, e0, q1, q2⟩)
  · obtain ⟨hp0, k, hk, hpk⟩ := (hW p).1 hp
    obtain ⟨e, he⟩ := I.wd k (hD k hk) p hpk
    exact ⟨e, I.old _ _ he hp0⟩
  · obtain ⟨hp0, k, hk, hpk⟩ := (hW p).1 hp
    exact I.wl k (hD k hk) p hpk hp0
  · exact fun hlv => (I.tmp _ (Nat.le_refl _) hN t (.inl rfl) (fun k hk _ => hD k hk) hlv).mono (restr_le _ _)

end
end Go.XM
