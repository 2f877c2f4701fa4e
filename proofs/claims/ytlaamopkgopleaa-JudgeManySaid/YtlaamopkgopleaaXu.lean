/- A plain machine beside the model, and that what it tells the model does: part Xu. Conditions: those of each theorem below. -/
import Derived.Test.YtlaamopkgopleaaXs
namespace Go.XM
open Go.RowKit
set_option linter.unusedVariables false
set_option linter.unusedSimpArgs false

section
variable {P : Program} {B : Nat} {w0 : World}

theorem Rel.relog {ρ : Emb} {S : XS} {w : World} (h : Rel B w0 ρ S w) (l : List (Nat × Nat)) : Rel B w0 ρ { S with log := l } w :=
  ⟨h.below, h.Bw, h.dom, h.blk, h.inj, h.lt⟩
theorem Ev.relog {base : Nat} {ρ ρ' : Emb} {S S' : XS} {w w' : World} {W : List (Nat × Nat)} (h : Ev base ρ S w ρ' S' w' W) (l l' : List (Nat × Nat)) :
    Ev base ρ { S with log := l } w ρ' { S' with log := l' } w' W :=
  ⟨h.ext, h.old, h.size, h.wsize, h.canon, h.gone, h.wb, h.new, h.frame, h.frameI, h.keep, h.wd, h.wl⟩

/-- new memory alone: nothing turns -/
theorem rel_below {ρ : Emb} {S : XS} {w w' : World} (h : Rel B w0 ρ S w) (hb : Below w.heap.size w w') (base : Nat) : Rel B w0 ρ S w' ∧ Ev base ρ S w ρ S w' [] := by
  have hk : ∀ r, r < w.heap.size → w'.heap[r]? = w.heap[r]? := hb.block
  refine ⟨⟨h.below.trans (hb.mono (Nat.le_trans h.Bw h.below.size)), h.Bw, h.dom, fun b e he => (h.blk b e he).move (Emb.le_refl ρ) (hk _ (h.lt b e he)), h.inj, fun b e he => Nat.lt_of_lt_of_le (h.lt b e he) hb.size⟩,
    ⟨Emb.le_refl ρ, fun _ _ q _ => q, Nat.le_refl _, hb.size, fun b _ => BlkFrame.refl _ _ _, fun _ q _ => q, fun p hp => (by cases hp), fun b e he hq => .inr (.inl ⟨b, e, hq, he, rfl⟩), fun r o hr => .inl (SameAt.of_block (hk r hr) o), fun r hr => .inl (hk r hr), keep_block hk, fun p hp => (by cases hp), fun p hp => (by cases hp)⟩⟩

def PrimOK (P : Program) (B : Nat) (w0 : World) (prim : XPrim) : Prop :=
  ∀ f g, prim f = some g → ∀ args S v, g args S = some v → ∀ ρ w (args' : List Value), Rel B w0 ρ S w → VRs ρ args args' →
    Calls P f args'.toArray w fun e w' => ∃ u, e = .returned u ∧ VR ρ v u ∧ Below w.heap.size w w'

def GoodProg (P : Program) (prim : XPrim) (good : Nat → Array Oper → Bool) : Prop :=
  ∀ f fn c, P.funcs[f]? = some fn → fn.body = some c → prim f = none → goodCode good fn.ntmps c = true

theorem xload_pure {ρ : Emb} {S : XS} {w : World} (h : Rel B w0 ρ S w) {t : TypeId} {p v : XV} {q : Value} (hp : VR ρ p q) (hx : xload P S t p = some v) : ∃ u, (do loadVar t (← asAddr q) : Sem Value).run P w = .ok u w ∧ VR ρ v u := by
  unfold xload at hx
  split at hx
  case h_2 => cases hx
  case h_1 b o =>
  cases hp with
  | ptr _ _ e he =>
  split at hx
  case h_3 => cases hx
  case h_1 hag =>
    split at hx
    case h_2 => cases hx
    case h_1 n hn =>
    split at hx
    case h_2 => cases hx
    case h_1 cs hcs =>
    injection hx with hx
    subst hx
    obtain ⟨us, h1, h2, h3⟩ := cells_read h he n o cs hcs
    refine ⟨.agg us.toArray, ?_, .agg _ _ h1⟩
    have := run_loadCells_list (P := P) w (e.at o) us h3
    rw [h2] at this
    simp [asAddr, loadVar, run_agg hag, run_size hn, this]
  case h_2 hag =>
    obtain ⟨u, hu, hr⟩ := cell_read h he hx
    refine ⟨u, ?_, hr⟩
    simp [asAddr, loadVar, run_agg hag, hu]

def resultOf (a : Act) : ResultVar → Sem Value
  | .tmp t => pure (a.tmps.getD t undef)
  | .cell x t => do loadVar t (← asAddr (a.tmps.getD x undef))

theorem xresult_sound {ρ : Emb} {S : XS} {w : World} (h : Rel B w0 ρ S w) {T : Tmps} {a : Act} (hT : TR ρ T a.tmps) {r : ResultVar} {v : XV} (hx : xresult P T S r = some v) :
    ∃ u, (resultOf a r).run P w = .ok u w ∧ VR ρ v u := by
  cases r with
  | tmp t =>
    simp only [xresult, Option.some.injEq] at hx
    subst hx
    exact ⟨_, rfl, hT t⟩
  | cell x t => exact xload_pure h (hT x) hx

theorem xresults_sound {ρ : Emb} {S : XS} {w : World} (h : Rel B w0 ρ S w) {T : Tmps} {a : Act} (hT : TR ρ T a.tmps) : ∀ (rs : List ResultVar) (l : List XV), xresults P T S rs = some l →
    ∃ us, (rs.mapM (resultOf a)).run P w = .ok us w ∧ VRs ρ l us
  | [], l, hx => by
    simp only [xresults, Option.some.injEq] at hx
    subst hx
    exact ⟨[], by simp, .nil⟩
  | r :: rs, l, hx => by
    simp only [xresults] at hx
    split at hx
    case h_2 => cases hx
    case h_1 v l' hv hl =>
    injection hx with hx
    subst hx
    obtain ⟨u, h1, h2⟩ := xresult_sound h hT hv
    obtain ⟨us, h3, h4⟩ := xresults_sound h hT rs l' hl
    exact ⟨u :: us, by simp [h1, h3], .cons _ _ _ _ h2 h4⟩

theorem results_run {ρ : Emb} {S : XS} {w : World} (h : Rel B w0 ρ S w) {T : Tmps} {a : Act} (hT : TR ρ T a.tmps) {fn : Func} {l : List XV} (hx : xresults P T S fn.results.toList = some l) :
    ∃ u, (results fn a.tmps).run P w = .ok u w ∧ VR ρ (oneOr l) u := by
  obtain ⟨us, h1, h2⟩ := xresults_sound h hT _ l hx
  have hm : (fn.results.mapM (resultOf a)).run P w = .ok us.toArray w := by
    rw [Array.mapM_eq_mapM_toList]
    simp [h1]
  have he : results fn a.tmps = (do let vs ← fn.results.mapM (resultOf a); pure (if h : vs.size = 1 then vs[0] else .tuple vs) : Sem Value) := rfl
  rw [he]
  simp only [Sem.run_bind, hm, Result.andThen_ok, Sem.run_pure]
  refine ⟨_, rfl, ?_⟩
  match l, us, h2 with
  | [], _, .nil => exact VR.tuple [] [] .nil
  | [x], _, .cons _ u _ _ q .nil => simpa [oneOr] using q
  | x :: y :: r, _, .cons _ u _ _ q (.cons _ u2 _ us2 q2 q3) =>
    have : ¬ ((u :: u2 :: us2).toArray.size = 1) := by simp
    rw [dif_neg this]
    exact VR.tuple _ _ (.cons _ _ _ _ q (.cons _ _ _ _ q2 q3))

/-- what nobody can reach is dropped -/
theorem drop_new {ρ ρ' : Emb} {S S1 : XS} {w w' : World} (h : Rel B w0 ρ S w) (h1 : Rel B w0 ρ' S1 w') (he : Ev S.size ρ S w ρ' S1 w' []) (base : Nat) (hb : base ≤ S.size) : Rel B w0 ρ S w' ∧ Ev base ρ S w ρ S w' [] := by
  have hget : ∀ b, b < S.size → S1.get b = S.get b ∨ ((S.get b).isGone = true ∧ (S1.get b).isGone = true) := by
    intro b hlt
    have hc := he.canon b hlt
    revert hc
    cases S.get b with
    | cells cs k =>
      cases S1.get b with
      | cells cs' k' =>
        rintro ⟨rfl, hl, hq, _⟩
        refine .inl ?_
        congr 1
        exact List.ext_getElem? fun i => hq i (by simp)
      | iter s p => intro hc; exact hc.elim
      | gone =>
        rintro ⟨hne, hq⟩
        have := hq 0 (List.length_pos_iff.2 hne)
        cases this
    | iter s p =>
      cases S1.get b with
      | cells cs' k' => intro hc; exact hc.elim
      | iter s' p' => rintro ⟨rfl, hq⟩; refine .inl ?_; rw [hq (by simp)]
      | gone => intro hc; exact hc.elim
    | gone =>
      cases S1.get b with
      | cells cs' k' => intro hc; exact hc.elim
      | iter s' p' => intro hc; exact hc.elim
      | gone => intro _; exact .inl rfl
  have hdom := h.dom
  have hsame : ∀ b, b < S.size → S1.get b = S.get b := fun b hlt => by
    rcases hget b hlt with q | ⟨q1, q2⟩
    · exact q
    · revert q1 q2; cases S.get b <;> cases S1.get b <;> simp [XBlk.isGone]
  refine ⟨⟨h1.below, h.Bw, h.dom, fun b e hbe => ?_, fun b b' e e' hbe hbe' hq hn => ?_, fun b e hbe => h1.lt b e (he.ext b e hbe)⟩,
    ⟨Emb.le_refl ρ, fun _ _ q _ => q, Nat.le_refl _, he.wsize, fun b _ => BlkFrame.refl _ _ _, fun _ q _ => q, fun p hp => (by cases hp), fun b e hbe hq => .inr (.inl ⟨b, e, hq, hbe, rfl⟩), fun r o hr => ?_, fun r hr => ?_, he.keep, fun p hp => (by cases hp), fun p hp => (by cases hp)⟩⟩
  · have hold := h.blk b e hbe
    have hnew := h1.blk b e (he.ext b e hbe)
    rw [hsame b (hdom b e hbe)] at hnew
    revert hold hnew
    cases S.get b with
    | cells cs k =>
      intro hold hnew
      refine ⟨hnew.1, fun o v ho hv => ?_⟩
      obtain ⟨u, q1, q2, q3⟩ := hnew.2 o v ho hv
      obtain ⟨u', p1, p2, p3⟩ := hold.2 o v ho hv
      exact ⟨u, q1, p2.back he.ext q2, q3⟩
    | iter s p => intro _ hnew; exact hnew
    | gone => intro _ _; trivial
  · have := h1.inj b b' e e' (he.ext b e hbe) (he.ext b' e' hbe') hq hn
    rw [hsame b (hdom b e hbe), hsame b' (hdom b' e' hbe')] at this
    exact this
  · rcases he.frame r o hr with q | ⟨p, hp, _⟩ | ⟨b, e, hq, hbe, _⟩
    · exact .inl q
    · cases hp
    · exact absurd (hdom b e hbe) (by omega)
  · rcases he.frameI r hr with q | ⟨p, hp, _⟩ | ⟨b, e, hq, hbe, _⟩
    · exact .inl q
    · cases hp
    · exact absurd (hdom b e hbe) (by omega)

theorem getD_args (args' : List Value) (n : Nat) (t : Nat) : (args'.toArray ++ Array.replicate (n - args'.toArray.size) undef).getD t undef = (args'[t]?).getD undef := by
  rw [Array.getD_eq_getD_getElem?, Array.getElem?_append]
  split
  · simp
  · rename_i h
    simp at h
    rw [List.getElem?_eq_none h]
    simp only [Array.getElem?_replicate]
    split <;> rfl

theorem tr_args {ρ : Emb} {args : List XV} {args' : List Value} (h : VRs ρ args args') (n : Nat) : TR ρ (argsT 0 args []) (args'.toArray ++ Array.replicate (n - args'.toArray.size) undef) := by
  intro t
  rw [getD_args, tget_argsT]
  have hl : (if 0 ≤ t ∧ t < 0 + args.length then (args[t - 0]?).getD (.tuple []) else tget [] t) = (args[t]?).getD (.tuple []) := by
    by_cases q : t < args.length
    · rw [if_pos (by omega)]; simp
    · rw [if_neg (by omega), List.getElem?_eq_none (by omega)]; rfl
  rw [hl]
  cases hq : args[t]? with
  | none =>
    have : args'[t]? = none := by
      rw [List.getElem?_eq_none_iff] at hq ⊢
      rw [← h.length]; exact hq
    rw [this]
    exact VR.tuple [] [] .nil
  | some v =>
    obtain ⟨u, hu, hr⟩ := h.get hq
    rw [hu]
    exact hr

theorem xcall_ok {prim : XPrim} {good : Nat → Array Oper → Bool} {okc : XCallFn → Prop} (hD : DrawOK P B w0 good okc) (hok : ∀ n, okc (xcall P prim n)) (hp : PrimOK P B w0 prim) (hg : GoodProg P prim good) : ∀ n, CallOK P B w0 (xcall P prim n)
  | 0 => fun f args base S v S' hx => by simp [xcall] at hx
  | n + 1 => fun f args base S v S' hx => by
    have ih := xcall_ok hD hok hp hg n
    unfold xcall at hx
    split at hx
    · cases hx
    rename_i fn hf
    split at hx
    · cases hx
    rename_i c hc
    split at hx
    · cases hx
    rename_i hname
    split at hx
    · cases hx
    rename_i hlen
    have hent : Enters P f := ⟨fn, hf, by rw [hc]; rfl, by simpa using hname⟩
    refine ⟨hent, ?_⟩
    split at hx
    · rename_i g hpg
      split at hx
      case h_2 => cases hx
      case h_1 v' hv' =>
      injection hx with hx
      simp only [Prod.mk.injEq] at hx
      obtain ⟨rfl, rfl⟩ := hx
      intro ρ w args' h hb hargs
      refine (hp f g hpg args S v' hv' ρ w args' h hargs).mono ?_
      rintro e w' ⟨u, rfl, hu, hbel⟩
      obtain ⟨r1, r2⟩ := rel_below h hbel base
      exact ⟨u, ρ, [], rfl, hu, r1, r2, rfl⟩
    · rename_i hpn
      split at hx
      case h_2 => cases hx
      case h_1 e T S1 hcode =>
      split at hx
      case isFalse => cases hx
      rename_i hexit
      split at hx
      case h_2 => cases hx
      case h_1 l hl =>
      intro ρ w args' h hb hargs
      have hgc := hg f fn c hf hc hpn
      have hal : args'.length ≤ fn.ntmps := by rw [← hargs.length]; omega
      refine calls_of_wp hf hc ?_
      have h0 : Rel B w0 ρ { S with log := [] } w := h.relog []
      refine xcode_wp hD ih (hok n) (S0 := { S with log := [] }) (ρ0 := ρ) (wi := w) (Nat.le_refl S.size) c (argsT 0 args []) { S with log := [] } _ w e T S1 _ hgc ?_ hcode ?_
      · refine ⟨ρ, [], h0, Ev.refl, rfl, tr_args hargs fn.ntmps, ?_, rfl⟩
        simp
        omega
      · rintro a' w' ⟨ρ', W, q1, q2, q3, q4, q5, q6⟩
        obtain ⟨u, hu1, hu2⟩ := results_run q1 q4 hl
        have fin : ∃ u' ρ'' W', Ending.returned u = .returned u' ∧ VR ρ'' v u' ∧ Rel B w0 ρ'' S' w' ∧ Ev base ρ S w ρ'' S' w' W' ∧ S'.log = W' ++ S.log := by
          have hW : S1.log = W := by rw [q3]; simp
          have q2' : Ev S.size ρ S w ρ' S1 w' W := q2.relog S.log S1.log
          split at hx
          · rename_i hcnd
            injection hx with hx
            simp only [Prod.mk.injEq] at hx
            obtain ⟨rfl, rfl⟩ := hx
            simp only [Bool.and_eq_true] at hcnd
            have hW0 : W = [] := by rw [← hW]; simpa using hcnd.1
            subst hW0
            obtain ⟨r1, r2⟩ := drop_new h q1 q2' base hb
            exact ⟨u, ρ, [], rfl, hu2.under (n := S.size) (fun b e hlt hbe => q2'.old b e hbe hlt) hcnd.2, r1, r2, rfl⟩
          · injection hx with hx
            simp only [Prod.mk.injEq] at hx
            obtain ⟨rfl, rfl⟩ := hx
            refine ⟨u, ρ', W.filter fun p => p.1 < base, rfl, hu2, q1.relog _, ?_, by rw [hW]⟩
            have := q2'.lower (W' := W.filter fun p => p.1 < base) hb (Nat.le_refl _) (fun p => by simp)
            exact this.relog S.log _
        have hbp : bodyPost P fn (fun e w' => ∃ u ρ' W, e = .returned u ∧ VR ρ' v u ∧ Rel B w0 ρ' S' w' ∧ Ev base ρ S w ρ' S' w' W ∧ S'.log = W ++ S.log) .ret a' w' := ⟨q6, u, hu1, fin⟩
        rcases hexit with rfl | rfl
        · exact hbp
        · exact hbp

end
end Go.XM
