/- A plain machine beside the model, and that what it tells the model does: part Xx. Conditions: those of each theorem below. -/
import Derived.Test.YtlaamopkgopleaaXw
namespace Go.XM
set_option linter.unusedVariables false
set_option linter.unusedSimpArgs false
open Go.RowKit
set_option linter.unusedVariables false

section
variable {P : Program} {call : XCallFn}

/-- one operation of a region of open order -/
def StepC (P : Program) (call : XCallFn) (ops : List Oper) (pr : List (List Nat)) (Wd : List (List (Nat × Nat))) (i : Nat) (o : Oper) (T : Tmps) (S : XS) (T1 : Tmps) (S1 : XS) (v : XV) (W : List (Nat × Nat)) : Prop :=
  T1 = putX T o.dst v ∧
  ((wantedX ops T o = some true ∧ ∃ S', xstep P call S.size o T { S.poison (openW pr Wd i) with log := [] } = some (v, S') ∧ W = S'.log ∧ (∀ p, p ∈ W → p ∈ Wd.getD i [] ∧ p ∉ openW pr Wd i) ∧
      S1 = { XS.restore S S' (openW pr Wd i) with log := S.log }) ∨
   (wantedX ops T o = some false ∧ v = .tuple [] ∧ W = [] ∧ S1 = S))

theorem xopsW_chain {ops : List Oper} {pr : List (List Nat)} {Wd : List (List (Nat × Nat))} : ∀ (l : List Oper) (k : Nat) (T : Tmps) (S : XS) (T' : Tmps) (S' : XS) (ws : List (List (Nat × Nat))),
    xopsW P call ops pr Wd k l T S = some (T', S', ws) → ∃ (Ts : Nat → Tmps) (Ss : Nat → XS) (vs : Nat → XV) (Ws : Nat → List (Nat × Nat)),
      Ts k = T ∧ Ss k = S ∧ Ts (k + l.length) = T' ∧ Ss (k + l.length) = S' ∧ (∀ j, ws[j]? = if j < l.length then some (Ws (k + j)) else none) ∧
      ∀ j o, l[j]? = some o → StepC P call ops pr Wd (k + j) o (Ts (k + j)) (Ss (k + j)) (Ts (k + j + 1)) (Ss (k + j + 1)) (vs (k + j)) (Ws (k + j))
  | [], k, T, S, T', S', ws, h => by
    simp only [xopsW, Option.some.injEq, Prod.mk.injEq] at h
    obtain ⟨rfl, rfl, rfl⟩ := h
    exact ⟨fun _ => T, fun _ => S, fun _ => .dead, fun _ => [], rfl, rfl, rfl, rfl, fun j => by simp, fun j o ho => by simp at ho⟩
  | o :: l, k, T, S, T', S', ws, h => by
    have glue : ∀ (v : XV) (W : List (Nat × Nat)) (T1 : Tmps) (S1 : XS) (ws' : List (List (Nat × Nat))), StepC P call ops pr Wd k o T S T1 S1 v W → xopsW P call ops pr Wd (k + 1) l T1 S1 = some (T', S', ws') → ws = W :: ws' →
        ∃ (Ts : Nat → Tmps) (Ss : Nat → XS) (vs : Nat → XV) (Ws : Nat → List (Nat × Nat)),
          Ts k = T ∧ Ss k = S ∧ Ts (k + (o :: l).length) = T' ∧ Ss (k + (o :: l).length) = S' ∧ (∀ j, ws[j]? = if j < (o :: l).length then some (Ws (k + j)) else none) ∧
          ∀ j o', (o :: l)[j]? = some o' → StepC P call ops pr Wd (k + j) o' (Ts (k + j)) (Ss (k + j)) (Ts (k + j + 1)) (Ss (k + j + 1)) (vs (k + j)) (Ws (k + j)) := by
      intro v W T1 S1 ws' hst hr hws
      obtain ⟨Ts, Ss, vs, Ws, h1, h2, h3, h4, h5, h6⟩ := xopsW_chain l (k + 1) T1 S1 T' S' ws' hr
      refine ⟨fun i => if i = k then T else Ts i, fun i => if i = k then S else Ss i, fun i => if i = k then v else vs i, fun i => if i = k then W else Ws i, by simp, by simp, ?_, ?_, fun j => ?_, fun j o' ho' => ?_⟩
      · simp only [List.length_cons]; rw [if_neg (by omega)]; rw [← h3]; congr 1; omega
      · simp only [List.length_cons]; rw [if_neg (by omega)]; rw [← h4]; congr 1; omega
      · subst hws
        cases j with
        | zero => simp
        | succ j =>
          simp only [List.getElem?_cons_succ, h5, List.length_cons]
          by_cases hj : j < l.length
          · rw [if_pos hj, if_pos (by omega), if_neg (by omega)]; congr 2; omega
          · rw [if_neg hj, if_neg (by omega)]
      · cases j with
        | zero =>
          simp at ho'
          subst ho'
          simp only [Nat.add_zero, if_true]
          rw [if_neg (by omega), if_neg (by omega), h1, h2]
          exact hst
        | succ j =>
          simp at ho'
          have := h6 j o' ho'
          rw [show k + (j + 1) = k + 1 + j by omega]
          simp only []
          rw [if_neg (by omega), if_neg (by omega), if_neg (by omega), if_neg (by omega), if_neg (by omega), if_neg (by omega)]
          exact this
    simp only [xopsW] at h
    split at h
    · rename_i hw
      split at h
      case h_2 => cases h
      case h_1 v S2 hs =>
      split at h
      case isFalse => cases h
      rename_i hall
      split at h
      case h_2 => cases h
      case h_1 T2 S3 ws' hr =>
      simp only [Option.some.injEq, Prod.mk.injEq] at h
      obtain ⟨rfl, rfl, rfl⟩ := h
      refine glue v S2.log _ _ ws' ⟨rfl, .inl ⟨hw, S2, hs, rfl, fun p hp => ?_, rfl⟩⟩ hr rfl
      have := List.all_eq_true.1 hall p hp
      simp only [Bool.and_eq_true, Bool.not_eq_true', List.contains_iff_mem] at this
      exact ⟨this.1, by simpa using this.2⟩
    · rename_i hw
      split at h
      case h_2 => cases h
      case h_1 T2 S3 ws' hr =>
      simp only [Option.some.injEq, Prod.mk.injEq] at h
      obtain ⟨rfl, rfl, rfl⟩ := h
      exact glue (.tuple []) [] _ _ ws' ⟨rfl, .inr ⟨hw, rfl, rfl, rfl⟩⟩ hr rfl
    · cases h

/-- the plain frame of one operation of a region -/
theorem stepC_fr (hc : CallFr call) {ops : List Oper} {pr : List (List Nat)} {Wd : List (List (Nat × Nat))} {i : Nat} {o : Oper} {T : Tmps} {S : XS} {T1 : Tmps} {S1 : XS} {v : XV} {W : List (Nat × Nat)}
    (h : StepC P call ops pr Wd i o T S T1 S1 v W) : S.size ≤ S1.size ∧ S1.log = S.log ∧ (∀ p, p ∈ W → p.1 < S.size) ∧ ∀ b, b < S.size → BlkFrame W b (S.get b) (S1.get b) := by
  rcases h.2 with ⟨hw, S', hs, rfl, hW, rfl⟩ | ⟨hw, rfl, rfl, rfl⟩
  · have hsz : ({ S.poison (openW pr Wd i) with log := [] } : XS).size = S.size := size_poison _ _
    obtain ⟨W, hf⟩ := xstep_fr hc (base := S.size) (by rw [hsz]; exact Nat.le_refl _) hs
    have hlog : S'.log = W := by rw [hf.log]; simp
    rw [hlog]
    refine ⟨?_, rfl, hf.wb, fun b hb => ?_⟩
    · have := hf.size
      rw [hsz] at this
      show S.size ≤ (XS.restore S S' _).size
      rw [size_restore]; exact this
    · have h1 := poison_get (openW pr Wd i) S b
      have h2 := hf.canon b hb
      have h3 := restore_get S (openW pr Wd i) S' b
      exact frame_back h1 h2 h3
  · exact ⟨Nat.le_refl _, rfl, (fun p hp => nomatch hp), fun b _ => BlkFrame.refl _ _ _⟩

theorem chain_fr (hc : CallFr call) {ops : List Oper} {pr : List (List Nat)} {Wd : List (List (Nat × Nat))} {n : Nat} {os : Nat → Option Oper} {Ts : Nat → Tmps} {Ss : Nat → XS} {vs : Nat → XV} {Ws : Nat → List (Nat × Nat)}
    (h : ∀ j, j < n → ∃ o, os j = some o ∧ StepC P call ops pr Wd j o (Ts j) (Ss j) (Ts (j + 1)) (Ss (j + 1)) (vs j) (Ws j)) :
    ∀ i, i ≤ n → (Ss 0).size ≤ (Ss i).size ∧ (Ss i).log = (Ss 0).log ∧ ∀ b, b < (Ss 0).size → ∃ W, (∀ p, p ∈ W → ∃ j, j < i ∧ p ∈ Ws j) ∧ BlkFrame W b ((Ss 0).get b) ((Ss i).get b)
  | 0, _ => ⟨Nat.le_refl _, rfl, fun b _ => ⟨[], (fun p hp => nomatch hp), BlkFrame.refl _ _ _⟩⟩
  | i + 1, hi => by
    obtain ⟨h1, h2, h3⟩ := chain_fr hc h i (by omega)
    obtain ⟨o, ho, hst⟩ := h i (by omega)
    obtain ⟨q1, q2, q3, q4⟩ := stepC_fr hc hst
    refine ⟨by omega, q2.trans h2, fun b hb => ?_⟩
    obtain ⟨W, hW, hf⟩ := h3 b hb
    refine ⟨Ws i ++ W, fun p hp => ?_, hf.trans (q4 b (by omega))⟩
    rcases List.mem_append.1 hp with q | q
    · exact ⟨i, by omega, q⟩
    · obtain ⟨j, hj, hm⟩ := hW p q; exact ⟨j, by omega, hm⟩

theorem xdraw_fr (hc : CallFr call) {base : Nat} {ops : List Oper} {T T' : Tmps} {S S' : XS} (hb : base ≤ S.size) (hx : xdraw P call base ops T S = some (T', S')) : ∃ W, XFr base S S' W := by
  obtain ⟨Wd, S1, ws, h, rfl⟩ := xdraw_eq hx
  obtain ⟨Ts, Ss, vs, Ws, h1, h2, h3, h4, h5, h6⟩ := xopsW_chain ops 0 T S T' S1 ws h
  simp only [Nat.zero_add] at h3 h4 h5 h6
  obtain ⟨q1, q2, q3⟩ := chain_fr (n := ops.length) (os := fun j => ops[j]?) hc (fun j hj => ⟨ops[j], List.getElem?_eq_getElem hj, h6 j _ (List.getElem?_eq_getElem hj)⟩) ops.length (Nat.le_refl _)
  rw [h2, h4] at q1 q2 q3
  refine ⟨ws.flatten.filter fun p => p.1 < base, q1, rfl, fun p hp => by simpa using (List.mem_filter.1 hp).2, fun b hlt => ?_⟩
  obtain ⟨W, hW, hf⟩ := q3 b (by omega)
  refine hf.filter fun o ho => ?_
  obtain ⟨j, hj, hm⟩ := hW _ ho
  refine List.mem_filter.2 ⟨List.mem_flatten.2 ⟨Ws j, List.mem_of_getElem? (i := j) (by rw [h5, if_pos hj]), hm⟩, by simpa using hlt⟩

theorem xops_fr (hc : CallFr call) {base : Nat} {ops : List Oper} : ∀ (l : List Oper) (T T' : Tmps) (S S' : XS), base ≤ S.size → xops P call base ops l T S = some (T', S') → ∃ W, XFr base S S' W
  | [], T, T', S, S', hb, hx => by
    simp only [xops, Option.some.injEq, Prod.mk.injEq] at hx
    obtain ⟨rfl, rfl⟩ := hx
    exact ⟨_, XFr.refl _ _⟩
  | o :: l, T, T', S, S', hb, hx => by
    simp only [xops] at hx
    split at hx
    · split at hx
      case h_2 => cases hx
      case h_1 v S1 hs =>
      obtain ⟨W, h1⟩ := xstep_fr hc hb hs
      obtain ⟨W2, h2⟩ := xops_fr hc l _ _ _ _ (Nat.le_trans hb h1.size) hx
      exact ⟨_, h1.trans h2⟩
    · exact xops_fr hc l _ _ _ _ hb hx
    · cases hx

/-- the frame of a piece of code: its heap's end may be dropped -/
structure XFrB (base : Nat) (S S' : XS) (W : List (Nat × Nat)) : Prop where
  size : base ≤ S'.size
  log : S'.log = W ++ S.log
  wb : ∀ p, p ∈ W → p.1 < base
  canon : ∀ b, b < base → BlkFrame W b (S.get b) (S'.get b)
theorem XFr.weak {base : Nat} {S S' : XS} {W : List (Nat × Nat)} (hb : base ≤ S.size) (h : XFr base S S' W) : XFrB base S S' W := ⟨Nat.le_trans hb h.size, h.log, h.wb, h.canon⟩
theorem XFrB.trans {base : Nat} {S1 S2 S3 : XS} {W1 W2 : List (Nat × Nat)} (h : XFrB base S1 S2 W1) (k : XFrB base S2 S3 W2) : XFrB base S1 S3 (W2 ++ W1) :=
  ⟨k.size, by rw [k.log, h.log, List.append_assoc], fun p hp => by rcases List.mem_append.1 hp with q | q <;> first | exact k.wb p q | exact h.wb p q,
    fun b hb => (h.canon b hb).trans (k.canon b hb)⟩

theorem head_fr {lv : Lives} {base : Nat} {c : Code} {T T' : Tmps} {S S' : XS} (hb : base ≤ S.size) (h : headPr lv base c T S = some (T', S')) : XFrB base S S' [] := by
  have same : some (T, S) = some (T', S') → XFrB base S S' [] := fun h => by
    injection h with h; simp only [Prod.mk.injEq] at h; obtain ⟨_, rfl⟩ := h
    exact (XFr.refl _ _).weak hb
  unfold headPr at h
  split at h
  · split at h
    · rename_i h0
      subst h0
      unfold prune at h
      simp only at h
      split at h
      · split at h
        · injection h with h; simp only [Prod.mk.injEq] at h; obtain ⟨_, rfl⟩ := h
          exact ⟨Nat.zero_le _, rfl, (fun p hp => by cases hp), fun b hb => by omega⟩
        · cases h
      · cases h
    · exact same h
  · exact same h

theorem xcode_fr (hc : CallFr call) {lv : Lives} {fuel base : Nat} : ∀ (c : Code) (T T' : Tmps) (S S' : XS) (e : XExit), base ≤ S.size → xcode P call lv fuel base c T S = some (e, T', S') → ∃ W, XFrB base S S' W := by
  intro c
  induction c with
  | skip => intro T T' S S' e hb hx; simp only [xcode, Option.some.injEq, Prod.mk.injEq] at hx; obtain ⟨_, _, rfl⟩ := hx; exact ⟨_, (XFr.refl _ _).weak hb⟩
  | region id ops draw =>
    intro T T' S S' e hb hx
    simp only [xcode] at hx
    split at hx
    case h_2 => cases hx
    case h_1 T1 S1 hr =>
    simp only [Option.some.injEq, Prod.mk.injEq] at hx
    obtain ⟨_, _, rfl⟩ := hx
    split at hr
    · obtain ⟨W, h⟩ := xdraw_fr hc hb hr; exact ⟨W, h.weak hb⟩
    · obtain ⟨W, h⟩ := xops_fr hc _ _ _ _ _ hb hr; exact ⟨W, h.weak hb⟩
  | seq x y ihx ihy =>
    intro T T' S S' e hb hx
    simp only [xcode] at hx
    split at hx
    · rename_i T1 S1 h1
      obtain ⟨W1, f1⟩ := ihx _ _ _ _ _ hb h1
      obtain ⟨W2, f2⟩ := ihy _ _ _ _ _ f1.size hx
      exact ⟨_, f1.trans f2⟩
    · exact ihx _ _ _ _ _ hb hx
  | cond c x y ihx ihy =>
    intro T T' S S' e hb hx
    simp only [xcode] at hx
    split at hx
    · exact ihx _ _ _ _ _ hb hx
    · exact ihy _ _ _ _ _ hb hx
    · cases hx
  | block id c ih =>
    intro T T' S S' e hb hx
    simp only [xcode] at hx
    split at hx
    · rename_i id' T1 S1 h1
      obtain ⟨W1, f1⟩ := ih _ _ _ _ _ hb h1
      split at hx <;> (simp only [Option.some.injEq, Prod.mk.injEq] at hx; obtain ⟨_, _, rfl⟩ := hx; exact ⟨_, f1⟩)
    · exact ih _ _ _ _ _ hb hx
  | loop c ih =>
    intro T T' S S' e hb hx
    simp only [xcode] at hx
    have key : ∀ (k : Nat) (T : Tmps) (S : XS), base ≤ S.size → xloop (headPr lv base c) (xcode P call lv fuel base c) k T S = some (e, T', S') → ∃ W, XFrB base S S' W := by
      intro k
      induction k with
      | zero => intro T S hb hx; simp [xloop] at hx
      | succ k ihk =>
        intro T S hb hx
        simp only [xloop] at hx
        split at hx
        · cases hx
        rename_i T0 S0 hpr
        have f0 := head_fr hb hpr
        split at hx
        · cases hx
        · rename_i T1 S1 h1
          obtain ⟨W1, f1⟩ := ih _ _ _ _ _ f0.size h1
          obtain ⟨W2, f2⟩ := ihk _ _ f1.size hx
          exact ⟨_, (f0.trans f1).trans f2⟩
        · rename_i e1 T1 S1 hne h1
          obtain ⟨W1, f1⟩ := ih _ _ _ _ _ f0.size h1
          split at hx
          case h_2 => cases hx
          case h_1 T2 S2 hpr2 =>
          injection hx with hx
          simp only [Prod.mk.injEq] at hx
          obtain ⟨_, _, rfl⟩ := hx
          exact ⟨_, (f0.trans f1).trans (head_fr f1.size hpr2)⟩
    exact key fuel T S hb hx
  | exit id => intro T T' S S' e hb hx; simp only [xcode, Option.some.injEq, Prod.mk.injEq] at hx; obtain ⟨_, _, rfl⟩ := hx; exact ⟨_, (XFr.refl _ _).weak hb⟩
  | ret => intro T T' S S' e hb hx; simp only [xcode, Option.some.injEq, Prod.mk.injEq] at hx; obtain ⟨_, _, rfl⟩ := hx; exact ⟨_, (XFr.refl _ _).weak hb⟩
  | rangeFunc f ps x y ihx ihy => intro T T' S S' e hb hx; simp [xcode] at hx
  | scope c ih => intro T T' S S' e hb hx; simp [xcode] at hx
  | label l => intro T T' S S' e hb hx; simp [xcode] at hx
  | goto l => intro T T' S S' e hb hx; simp [xcode] at hx
  | refuse why => intro T T' S S' e hb hx; simp [xcode] at hx

theorem xcall_fr {prim : XPrim} : ∀ n, CallFr (xcall P prim n)
  | 0 => fun f args base S v S' hb hx => by simp [xcall] at hx
  | n + 1 => fun f args base S v S' hb hx => by
    have ih := xcall_fr (prim := prim) n
    unfold xcall at hx
    split at hx
    · cases hx
    split at hx
    · cases hx
    split at hx
    · cases hx
    split at hx
    · cases hx
    split at hx
    · split at hx
      · split at hx
        case h_2 => cases hx
        injection hx with hx; simp only [Prod.mk.injEq] at hx; obtain ⟨_, rfl⟩ := hx; exact ⟨_, XFr.refl _ _⟩
      · split at hx
        case h_2 => cases hx
        split at hx
        case h_2 => cases hx
        split at hx
        · cases hx
        injection hx with hx; simp only [Prod.mk.injEq] at hx; obtain ⟨_, rfl⟩ := hx; exact ⟨_, XFr.refl _ _⟩
    · split at hx
      case h_2 => cases hx
      case h_1 e T S1 hcode =>
      split at hx
      case isFalse => cases hx
      split at hx
      case h_2 => cases hx
      obtain ⟨W, hf⟩ := xcode_fr (S := { S with log := [] }) (base := S.size) ih _ _ _ _ _ (Nat.le_refl _) hcode
      split at hx
      · injection hx with hx; simp only [Prod.mk.injEq] at hx; obtain ⟨_, rfl⟩ := hx; exact ⟨_, XFr.refl _ _⟩
      · injection hx with hx; simp only [Prod.mk.injEq] at hx; obtain ⟨_, rfl⟩ := hx
        have hlog : S1.log = W := by rw [hf.log]; simp
        refine ⟨S1.log.filter fun p => p.1 < base, hf.size, rfl, fun p hp => by simpa using (List.mem_filter.1 hp).2, fun b hlt => ?_⟩
        exact (hf.canon b (Nat.lt_of_lt_of_le hlt hb)).filter fun o ho => List.mem_filter.2 ⟨by rw [hlog]; exact ho, by simpa using hlt⟩

end
end Go.XM
