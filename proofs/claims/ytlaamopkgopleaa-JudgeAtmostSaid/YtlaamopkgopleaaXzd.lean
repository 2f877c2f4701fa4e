/- A plain machine beside the model, and that what it tells the model does: part Xzd. Conditions: those of each theorem below. -/
import Derived.Test.YtlaamopkgopleaaXzc
namespace Go.XM
set_option linter.unusedVariables false
set_option linter.unusedSimpArgs false
open Go.RowKit
set_option linter.unusedVariables false

section
variable {P : Program} {B : Nat} {w0 : World} {n : Nat} {ops : Array Oper} {Ts : Nat → Tmps} {Ss : Nat → XS} {vs : Nat → XV} {Ws : Nat → List (Nat × Nat)} {ρs : Emb} {ws : World} {D : Nat → Prop} {ρ : Emb} {a : Act} {w : World}
variable {i : Nat} {call : XCallFn} {Wd : List (List (Nat × Nat))}

theorem pois_gone {ps : List (Nat × Nat)} {b : Nat} {x y : XBlk} (h : PoisR ps b x y) (hg : x.isGone = true) : y.isGone = true := by
  revert h hg; cases x <;> cases y <;> simp [PoisR, XBlk.isGone]
theorem pois_ro {ps : List (Nat × Nat)} {b : Nat} {x y : XBlk} (h : PoisR ps b x y) (hg : x.isRo = true) : y.isRo = true := by
  cases x with
  | cells cs k =>
    cases y with
    | cells cp kp => obtain ⟨rfl, _⟩ := h; revert hg; cases kp <;> simp [XBlk.isRo]
    | iter _ _ => exact h.elim
    | gone => exact h.elim
  | iter _ _ => cases hg
  | gone => cases hg

/-- where an operation finds itself -/
theorem rel_sp (C : Can ops.toList Ts Ss vs Ws) (I : Inv B w0 n ops Ts Ss Ws ρs ws D ρ a w) (hi : i < ops.toList.length) (hiD : ¬ D i) {ps : List (Nat × Nat)} (hps : ∀ b o, Dead ops.toList Ws D i b o → (b, o) ∈ ps) :
    Rel B w0 (restr ρ (Ss i).size) { (Ss i).poison ps with log := [] } w where
  below := I.below
  Bw := I.Bw
  dom := fun b e h => by
    show b < ((Ss i).poison ps).size
    rw [size_poison]; exact (restr_some.1 h).1
  blk := fun b e h => by
    obtain ⟨hb, he⟩ := restr_some.1 h
    have hold := I.blk i (Nat.le_of_lt hi) hiD b e he hb
    have hp := poison_get ps (Ss i) b
    show BlkR _ B w e (((Ss i).poison ps).get b)
    revert hold hp
    cases (Ss i).get b with
    | cells cs k =>
      cases ((Ss i).poison ps).get b with
      | cells cp kp =>
        rintro ⟨h1, h2⟩ ⟨rfl, l1, a1, a2, _⟩
        have hfl : FlatD (Dead ops.toList Ws D i b) cs → Flat cp := fun hf v hv hl => by
          obtain ⟨o, ho⟩ := List.mem_iff_getElem?.1 hv
          by_cases hm : (b, o) ∈ ps
          · rw [a2 o v hm ho] at hl; cases hl
          · rw [a1 o hm] at ho
            exact hf o v ho hl fun hd => hm (hps b o hd)
        refine ⟨?_, fun o v ho hv => ?_⟩
        · cases kp with
          | ro => exact h1
          | own => exact h1
          | arr esz => exact ⟨h1.1, h1.2.1, hfl h1.2.2.1, fun m hm => h1.2.2.2 m (by omega)⟩
          | loose esz n =>
            obtain ⟨a1', a2', al, af, rsz, a3', am, a4'⟩ := h1
            exact ⟨a1', a2', by omega, hfl af, rsz, a3', am, a4'⟩
        · by_cases hm : (b, o) ∈ ps
          · rw [a2 o v hm ho] at hv; cases hv
          · rw [a1 o hm] at ho
            exact h2 o v ho hv fun hd => hm (hps b o hd)
      | iter _ _ => intro _ h; exact h.elim
      | gone => intro _ h; exact h.elim
    | iter s pos =>
      cases ((Ss i).poison ps).get b with
      | cells cp kp =>
        rintro ⟨h1, h2⟩ ⟨rfl, rfl, _⟩
        exact ⟨⟨h1.1, h1.2.2⟩, fun o v ho => by simp at ho⟩
      | iter s' n' =>
        rintro ⟨h1, h2⟩ ⟨rfl, rfl, hno⟩
        exact ⟨h1, h2 fun hd => hno 0 (hps b 0 hd)⟩
      | gone => intro _ h; exact h.elim
    | gone =>
      cases ((Ss i).poison ps).get b with
      | cells cp kp => intro _ h; exact h.elim
      | iter s' n' => intro _ h; exact h.elim
      | gone => intro _ _; trivial
  inj := fun b b' e e' h h' hq hne => by
    obtain ⟨hb, he⟩ := restr_some.1 h
    obtain ⟨hb', he'⟩ := restr_some.1 h'
    have hp := poison_get ps (Ss i) b
    have hp' := poison_get ps (Ss i) b'
    have kd : ∀ c c', c < (Ss i).size → c' < (Ss i).size → Kd ops.toList Ss D c c' → (((Ss i).poison ps).get c).isGone = true := by
      intro c c' hc hc' hk
      refine pois_gone (poison_get ps (Ss i) c) ?_
      rcases hk with ⟨h0, hg⟩ | ⟨k, hk, hkl, hbk, hg, _, hs⟩
      · exact C.gone h0 (Nat.zero_le _) (Nat.le_of_lt hi) hg
      · refine C.gone hbk ?_ (Nat.le_of_lt hi) hg
        rcases Nat.lt_or_ge k i with q | q
        · exact q
        · have := C.sizes (i := i) (j := k) q (by omega); omega
    rcases I.inj b b' e e' he he' hq hne with ⟨r1, r2⟩ | q | q
    · rcases C.ro r1 (Nat.le_of_lt hi) hb with z | z
      · rcases C.ro r2 (Nat.le_of_lt hi) hb' with z' | z'
        · exact .inl ⟨pois_ro hp z, pois_ro hp' z'⟩
        · exact .inr (.inr (pois_gone hp' z'))
      · exact .inr (.inl (pois_gone hp z))
    · exact .inr (.inl (kd b b' hb hb' q))
    · exact .inr (.inr (kd b' b hb' hb q))
  lt := fun b e h => I.lt b e (restr_some.1 h).2
  fz := ⟨I.fz.ok, I.fz.zc, fun b e h => I.fz.zd b e (restr_some.1 h).2⟩

theorem dead_open (St : Static n ops) (I : Inv B w0 n ops Ts Ss Ws ρs ws D ρ a w) (hrd : ∀ o, ops.toList[i]? = some o → ∀ d, d ∈ directs o → D d) (hsub : ∀ k, k < ops.toList.length → ∀ p, p ∈ Ws k → p ∈ Wd.getD k []) :
    ∀ b o, Dead ops.toList Ws D i b o → (b, o) ∈ openW (predsOf ops.toList) Wd i := by
  rintro b o ⟨k, hk, hki, hm, q⟩
  have hord : ordered (predsOf ops.toList) i k = false := by
    rcases q with q | q
    · exact q.2
    · cases hz : ordered (predsOf ops.toList) i k with
      | false => rfl
      | true =>
        exfalso
        rcases (ordered_iff _ _ _).1 hz with z | z
        · exact q.2 (pr_closed St.dir (fun m hm => (I.cl m hm).2) i hrd k z)
        · have := pr_lt St.dir _ _ z; omega
  have hw := hsub k hk _ hm
  have hkl : k < Wd.length := by
    rcases Nat.lt_or_ge k Wd.length with z | z
    · exact z
    · rw [List.getD_eq_getElem?_getD, List.getElem?_eq_none z] at hw; cases hw
  unfold openW
  rw [List.mem_flatMap]
  refine ⟨k, List.mem_filter.2 ⟨List.mem_range.2 hkl, ?_⟩, hw⟩
  simp [hki, hord]

theorem wanted_eq1 {ρ : Emb} {T : Tmps} {a : Act} (ops : Array Oper) (o : Oper) (h : ∀ t, t ∈ o.looksAt ops → (tget T t).live = true → VR ρ (tget T t) (a.tmps.getD t undef)) {b : Bool} (hw : wantedX ops.toList T o = some b) : Region.wanted o (yielded ops a.tmps) = b := by
  refine wanted_of ops o (fun j want d hg hd hl => h d ?_ hl) hw
  unfold Oper.looksAt
  refine List.mem_append_right _ ?_
  rw [hg]
  simp [hd]

/-- one operation of a region of open order, in the real world -/
theorem one_any (hc : CallOK P B w0 call) (St : Static n ops) (C : Can ops.toList Ts Ss vs Ws) (hsub : ∀ k, k < ops.toList.length → ∀ p, p ∈ Ws k → p ∈ Wd.getD k [])
    (I : Inv B w0 n ops Ts Ss Ws ρs ws D ρ a w) (hi : i < ops.toList.length) (hiD : ¬ D i) (hrd : ∀ o, ops.toList[i]? = some o → ∀ d, d ∈ directs o → D d) {o : Oper} (ho : ops.toList[i]? = some o)
    (hst : StepC P call ops.toList (predsOf ops.toList) Wd i o (Ts i) (Ss i) (Ts (i + 1)) (Ss (i + 1)) (vs i) (Ws i)) {K : Act → World → Prop} {Q : Exit → Act → World → Prop}
    (hK : ∀ ρ' a' w', Inv B w0 n ops Ts Ss Ws ρs ws (addD D i) ρ' a' w' → K a' w') : wpOp P ops Q i K a w := by
  have hps := dead_open St I hrd hsub
  have hrel := rel_sp C I hi hiD hps
  have hlook : ∀ t, t ∈ o.looksAt ops → (tget (Ts i) t).live = true → VR (restr ρ (Ss i).size) (tget (Ts i) t) (a.tmps.getD t undef) := fun t ht hlv => by
    refine I.tmp i (Nat.le_of_lt hi) hiD t (.inr ⟨o, ho, ht⟩) (fun k hk ⟨o', ho', hd⟩ => ?_) hlv
    rcases (ordered_iff _ _ _).1 (St.tmp i k o o' t ho ho' (by omega) hd (.inl ht)) with z | z
    · exact pr_closed St.dir (fun m hm => (I.cl m hm).2) i hrd k z
    · have := pr_lt St.dir _ _ z; omega
  have hsz : ({ (Ss i).poison (openW (predsOf ops.toList) Wd i) with log := [] } : XS).size = (Ss i).size := size_poison _ _
  have hspk : ∀ b q, WOk (({ (Ss i).poison (openW (predsOf ops.toList) Wd i) with log := [] } : XS).get b) q → WOk ((Ss i).get b) q := fun b q h => h.pois (poison_get _ (Ss i) b)
  have hgo : ops[i]? = some o := by rw [← ho, Array.getElem?_toList]
  have hnone : ∀ b, (Ss i).size ≤ b → (Ss i).get b = .gone := fun b hb => by
    cases hx : (Ss i).get b with
    | gone => rfl
    | cells _ _ => have := XS.get_lt (S := Ss i) (b := b) (by rw [hx]; rfl); omega
    | iter _ _ => have := XS.get_lt (S := Ss i) (b := b) (by rw [hx]; rfl); omega
  unfold wpOp
  rw [hgo]
  simp only []
  rcases hst.2 with ⟨hw, S', hs, hWs, hW, hS1⟩ | ⟨hw, hv, hWs, hS1⟩
  · rw [if_pos (wanted_eq1 ops o hlook hw)]
    refine .inl ?_
    refine xstep_wp2 hc hrel (by rw [hsz]; exact Nat.le_refl _) (St.sel i o ho) (fun t ht => hlook t ?_) hs fun u w' ρ' W q1 q2 q3 q4 => ?_
    · unfold Oper.looksAt; exact List.mem_append_left _ ht
    · have hWe : Ws i = W := by rw [hWs, q4]; simp
      refine hK _ _ _ (inv_step St C I hi hiD hrd (Sp := { (Ss i).poison (openW (predsOf ops.toList) Wd i) with log := [] }) (S' := S') (ρ' := ρ') (u := u) ⟨q2, by rw [hWe]; exact q3, q1, hsz, ?_, hspk, fun b hb => ?_, fun b hb => ?_⟩ ho)
      · rw [hS1]; exact (size_restore _ _ _).symm
      · have hr := restore_get (Ss i) (openW (predsOf ops.toList) Wd i) S' b
        rw [hnone b hb] at hr
        rw [hS1]
        exact hr.symm
      · rw [hS1]
        rw [hWe]
        exact agree_of (poison_get _ (Ss i) b) (q3.canon b hb) (restore_get (Ss i) _ S' b) (fun q hq => (hW _ (by rw [hWe]; exact hq)).2) (fun q hq => q3.wl _ hq)
  · rw [if_neg (by rw [wanted_eq1 ops o hlook hw]; simp)]
    have hnv : VR (restr ρ (Ss i).size) (vs i) undef := by rw [hv]; exact VR.tuple [] [] .nil
    refine hK _ _ _ (inv_step St C I hi hiD hrd (Sp := { (Ss i).poison (openW (predsOf ops.toList) Wd i) with log := [] }) (S' := { (Ss i).poison (openW (predsOf ops.toList) Wd i) with log := [] }) (ρ' := restr ρ (Ss i).size) (u := undef)
      ⟨hrel, by rw [hWs]; exact Ev.refl, hnv, hsz, by rw [hS1]; exact hsz, hspk, fun b hb => ?_, fun b hb => ?_⟩ ho)
    · have hp := poison_get (openW (predsOf ops.toList) Wd i) (Ss i) b
      rw [hS1, hnone b hb]
      rw [hnone b hb] at hp
      show ((Ss i).poison _).get b = .gone
      revert hp
      cases ((Ss i).poison (openW (predsOf ops.toList) Wd i)).get b <;> simp [PoisR]
    · rw [hS1, hWs]
      have hp := poison_get (openW (predsOf ops.toList) Wd i) (Ss i) b
      show Agree [] b (((Ss i).poison _).get b) _
      revert hp
      cases (Ss i).get b with
      | cells cs k =>
        cases ((Ss i).poison (openW (predsOf ops.toList) Wd i)).get b with
        | cells cp kp => rintro ⟨rfl, l, _⟩; exact ⟨rfl, l, fun o ho => by cases ho⟩
        | iter _ _ => intro h; exact h.elim
        | gone => intro h; exact h.elim
      | iter s p =>
        cases ((Ss i).poison (openW (predsOf ops.toList) Wd i)).get b with
        | cells cp kp => intro _; exact fun h => by cases h
        | iter s' p' => rintro ⟨rfl, rfl, _⟩; exact ⟨rfl, fun _ => rfl⟩
        | gone => intro h; exact h.elim
      | gone =>
        cases ((Ss i).poison (openW (predsOf ops.toList) Wd i)).get b with
        | cells cp kp => intro h; exact h.elim
        | iter s' p' => intro h; exact h.elim
        | gone => intro _; trivial

end
end Go.XM
