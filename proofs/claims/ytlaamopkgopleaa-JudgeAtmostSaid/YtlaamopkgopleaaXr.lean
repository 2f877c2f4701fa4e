/- A plain machine beside the model, and that what it tells the model does: part Xr. Conditions: those of each theorem below. -/
import Derived.Test.YtlaamopkgopleaaXq
import Derived.Orders
namespace Go.XM
set_option linter.unusedVariables false
set_option linter.unusedSimpArgs false
open Go.RowKit
set_option linter.unusedVariables false
set_option linter.unusedSimpArgs false

section
variable {P : Program} {B : Nat} {w0 : World}

/-- a function that a call enters -/
def Enters (P : Program) (f : FuncId) : Prop := ∃ fn, P.funcs[f]? = some fn ∧ fn.body.isSome = true ∧ (fn.name == "runtime.NumGoroutine") = false

theorem run_enter {f : FuncId} (h : Enters P f) (args : Array Value) (w : World) : (callFunc f args).run P w = .ok (.enter f args) w := by
  obtain ⟨fn, h1, h2, h3⟩ := h
  have h4 : fn.body.isNone = false := by cases hb : fn.body <;> simp_all
  simp only [callFunc, Sem.run_bind, run_program, Result.andThen_ok, h1, h3, h4, Bool.false_eq_true, if_false, Sem.run_pure]

def CallOK (P : Program) (B : Nat) (w0 : World) (call : XCallFn) : Prop :=
  ∀ f args base S v S', call f args base S = some (v, S') → Enters P f ∧
    ∀ ρ w (args' : List Value), Rel B w0 ρ S w → base ≤ S.size → VRs ρ args args' →
      Calls P f args'.toArray w fun e w' => ∃ u ρ' W, e = .returned u ∧ VR ρ' v u ∧ Rel B w0 ρ' S' w' ∧ Ev base ρ S w ρ' S' w' W ∧ S'.log = W ++ S.log

variable {call : XCallFn} {base : Nat} {ρ : Emb} {S : XS} {w : World}

theorem simN_wp {s : Sem Next} {v : XV} {S' : XS} {o : Oper} {a : Act} (he : execOp a.eval o = s) (h : SimN P B w0 base ρ S w s v S') {K : Act → World → Prop} {Q : Exit → Act → World → Prop}
    (hK : ∀ u w' ρ' W, VR ρ' v u → Rel B w0 ρ' S' w' → Ev base ρ S w ρ' S' w' W → S'.log = W ++ S.log → K (a.put o.dst u) w') : o.wp P a w K Q := by
  obtain ⟨n, u, w', ρ', W, h1, h2, h3, h4, h5, h6⟩ := h
  unfold Oper.wp
  rw [he, h1]
  rcases h2 with rfl | ⟨rfl, rfl⟩
  · exact hK u w' ρ' W h3 h4 h5 h6
  · exact hK undef w' ρ' W h3 h4 h5 h6

theorem xstep_wpA (hc : CallOK P B w0 call) (h : Rel B w0 ρ S w) (hb : base ≤ S.size) {o : Oper} {T : Tmps} {a0 a : Act} (hT : TR ρ T a0.tmps) {v : XV} {S' : XS} (hx : xstep P call base o T S = some (v, S')) (hev : execOp a.eval o = execOp a0.eval o) {K : Act → World → Prop} {Q : Exit → Act → World → Prop}
    (hK : ∀ u w' ρ' W, VR ρ' v u → Rel B w0 ρ' S' w' → Ev base ρ S w ρ' S' w' W → S'.log = W ++ S.log → K (a.put o.dst u) w') : o.wp P a w K Q := by
  have plain : xop P base o T S = some (v, S') → o.wp P a w K Q := fun hx => simN_wp hev (xop_sound h hb hT hx) hK
  unfold xstep at hx
  split at hx
  · rename_i c hop
    split at hx
    · rename_i f hf
      split at hx
      case h_2 => cases hx
      case h_1 g caps xs hg hxs =>
      obtain ⟨hent, hcall⟩ := hc g (xs ++ caps) base S v S' hx
      have hfr := evalX_vr hT hg
      generalize hu : a0.eval f = u at hfr
      cases hfr with
      | func _ _ ds hds =>
      have hargs := (evalAll_vr hT hxs).append hds
      have hcalls := hcall ρ w _ h hb hargs
      have hrun : (execOp a0.eval o).run P w = .ok (.enter g (((c.args.toList.map a0.eval) ++ ds).toArray)) w := by
        have harr : c.args.map a0.eval ++ ds.toArray = ((c.args.toList.map a0.eval) ++ ds).toArray := by apply Array.toList_inj.1; simp
        simp [execOp, hop, resolve, hf, hu, Deferred.ofValue, invoke, run_enter hent, harr]
      unfold Oper.wp
      rw [hev, hrun]
      refine hcalls.mono ?_
      rintro e w' ⟨u, ρ', W, rfl, h1, h2, h3, h4⟩
      exact hK u w' ρ' W h1 h2 h3 h4
    · exact plain hx
  · exact plain hx

theorem xstep_wp (hc : CallOK P B w0 call) (h : Rel B w0 ρ S w) (hb : base ≤ S.size) {o : Oper} {T : Tmps} {a : Act} (hT : TR ρ T a.tmps) {v : XV} {S' : XS} (hx : xstep P call base o T S = some (v, S')) {K : Act → World → Prop} {Q : Exit → Act → World → Prop}
    (hK : ∀ u w' ρ' W, VR ρ' v u → Rel B w0 ρ' S' w' → Ev base ρ S w ρ' S' w' W → S'.log = W ++ S.log → K (a.put o.dst u) w') : o.wp P a w K Q := xstep_wpA hc h hb hT hx rfl hK

/-! ### temporaries -/
def okDst (n : Nat) (o : Oper) : Bool := match o.dst with | some d => d < n | none => true

theorem TR.mono {ρ ρ' : Emb} (hl : ρ.le ρ') {T : Tmps} {tmps : Array Value} (h : TR ρ T tmps) : TR ρ' T tmps := fun t ht => (h t ht).mono hl

theorem put_getD (a : Act) (d : Nat) (u : Value) (t : Nat) (hd : d < a.tmps.size) : (a.put (some d) u).tmps.getD t undef = if t = d then u else a.tmps.getD t undef := by
  simp only [Act.put, Array.getD_eq_getD_getElem?, Array.getElem?_setIfInBounds]
  by_cases h : t = d
  · subst h; simp [hd]
  · rw [if_neg (fun q => h q.symm), if_neg h]

theorem TR.put {ρ : Emb} {T : Tmps} {a : Act} (h : TR ρ T a.tmps) {o : Oper} (hd : okDst a.tmps.size o = true) {v : XV} {u : Value} (hv : VR ρ v u) : TR ρ (putX T o.dst v) (a.put o.dst u).tmps := by
  intro t
  unfold putX
  unfold okDst at hd
  cases hq : o.dst with
  | none => exact h t
  | some d =>
    rw [hq] at hd
    simp only at hd ⊢
    rw [put_getD a d u t (by simpa using hd), tget_tset]
    split
    · exact fun _ => hv
    · exact h t

@[simp] theorem put_size (a : Act) (d : Option Tmp) (u : Value) : (a.put d u).tmps.size = a.tmps.size := by cases d <;> simp [Act.put]
@[simp] theorem put_defers (a : Act) (d : Option Tmp) (u : Value) : (a.put d u).defers = a.defers := by cases d <;> rfl

theorem wanted_of {ρ : Emb} {T : Tmps} {a : Act} (ops : Array Oper) (o : Oper) (h : ∀ j want d, o.guard = some (j, want) → (ops[j]?).bind (·.dst) = some d → (tget T d).live = true → VR ρ (tget T d) (a.tmps.getD d undef))
    {b : Bool} (hw : wantedX ops.toList T o = some b) : Region.wanted o (yielded ops a.tmps) = b := by
  unfold wantedX at hw
  unfold Region.wanted yielded
  split at hw
  · rename_i hg
    injection hw with hw
    rw [hg]; exact hw
  · rename_i j want hg
    rw [hg]
    simp only [Array.getElem?_toList] at hw
    simp only
    split at hw
    · rename_i d hd
      rw [hd]
      simp only [Option.bind_some]
      have hr := h j want d hg hd
      rw [Array.getD_eq_getD_getElem?] at hr
      generalize tget T d = x at hr hw
      cases hq : a.tmps[d]? with
      | none =>
        rw [hq] at hr
        simp only [Option.getD_none] at hr
        split at hw
        · have := hr rfl; cases this
        · cases hw
        · injection hw with hw
          all_goals (subst hw; rfl)
      | some u =>
        rw [hq] at hr
        simp only [Option.getD_some] at hr
        split at hw
        · have := hr rfl
          cases this
          injection hw with hw
          all_goals (subst hw; rfl)
        · cases hw
        · rename_i hnb hnd
          injection hw with hw
          subst hw
          have hlive : x.live = true := by cases x <;> first | rfl | exact absurd rfl hnd
          have := hr hlive
          cases this with
          | bool b => exact absurd rfl (hnb b)
          | row _ _ _ _ _ h1 => cases h1 <;> rfl
          | rptr _ _ _ _ h1 => cases h1; rfl
          | _ => rfl
    · rename_i hd
      injection hw with hw
      rw [hd]; subst hw; rfl

theorem wanted_eq {ρ : Emb} {T : Tmps} {a : Act} (h : TR ρ T a.tmps) (ops : Array Oper) (o : Oper) {b : Bool} (hw : wantedX ops.toList T o = some b) : Region.wanted o (yielded ops a.tmps) = b :=
  wanted_of ops o (fun _ _ d _ _ => h d) hw

/-- what is behind a piece of code: W since 'base' -/
def Now (P : Program) (B : Nat) (w0 : World) (base n : Nat) (ρ0 : Emb) (S0 : XS) (wi : World) (T' : Tmps) (S' : XS) (a' : Act) (w' : World) : Prop :=
  ∃ ρ' W, Rel B w0 ρ' S' w' ∧ Ev base ρ0 S0 wi ρ' S' w' W ∧ S'.log = W ++ S0.log ∧ TR ρ' T' a'.tmps ∧ a'.tmps.size = n ∧ a'.defers = []

theorem xops_wp (hc : CallOK P B w0 call) (ops : Array Oper) {n : Nat} {ρ0 : Emb} {S0 : XS} {wi : World} (hb : base ≤ S0.size) {Q : Exit → Act → World → Prop} {T' : Tmps} {S' : XS}
    (hQ : ∀ a' w', Now P B w0 base n ρ0 S0 wi T' S' a' w' → Q .normal a' w') :
    ∀ (l : List Oper) (T : Tmps) (S : XS) (a : Act) (w : World), (∀ o, o ∈ l → okDst n o = true) → Now P B w0 base n ρ0 S0 wi T S a w → xops P call base ops.toList l T S = some (T', S') → wpList P ops Q l a w
  | [], T, S, a, w, hl, hn, hx => by
    simp only [xops] at hx
    injection hx with hx
    simp only [Prod.mk.injEq] at hx
    obtain ⟨rfl, rfl⟩ := hx
    exact hQ a w hn
  | o :: l, T, S, a, w, hl, hn, hx => by
    obtain ⟨ρ', W, h1, h2, h3, h4, h5, h6⟩ := hn
    have hd : okDst a.tmps.size o = true := by rw [h5]; exact hl o (by simp)
    simp only [xops] at hx
    unfold wpList
    split at hx
    · rename_i hw
      rw [wanted_eq h4 ops o hw, if_pos rfl]
      split at hx
      case h_2 => cases hx
      case h_1 v S1 hs =>
      refine .inl ?_
      refine xstep_wp hc h1 (by have := h2.size; omega) h4 hs fun u w1 ρ1 W1 q1 q2 q3 q4 => ?_
      refine xops_wp hc ops hb hQ l _ S1 _ w1 (fun o ho => hl o (by simp [ho])) ⟨ρ1, W1 ++ W, q2, h2.trans hb q3, by rw [q4, h3, List.append_assoc], ?_, by simpa using h5, by simpa using h6⟩ hx
      exact (h4.mono q3.ext).put hd q1
    · rename_i hw
      rw [wanted_eq h4 ops o hw, if_neg (by decide)]
      refine xops_wp hc ops hb hQ l _ S _ w (fun o ho => hl o (by simp [ho])) ⟨ρ', W, h1, h2, h3, ?_, by simpa using h5, by simpa using h6⟩ hx
      exact h4.put hd (VR.tuple [] [] .nil)
    · cases hx

end
end Go.XM
