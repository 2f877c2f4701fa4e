/- A plain machine beside the model, and that what it tells the model does: part Xw. Conditions: those of each theorem below. -/
import Derived.Test.YtlaamopkgopleaaXv
namespace Go.XM
set_option linter.unusedVariables false
set_option linter.unusedSimpArgs false
open Go.RowKit
set_option linter.unusedVariables false

/-! ### poison, and back -/
def PoisR (ps : List (Nat × Nat)) (b : Nat) : XBlk → XBlk → Prop
  | .cells cs k, .cells cs' k' => k' = k ∧ cs'.length = cs.length ∧ (∀ o : Nat, (b, o) ∉ ps → cs'[o]? = cs[o]?) ∧ (∀ (o : Nat) (v : XV), (b, o) ∈ ps → cs'[o]? = some v → v = .dead) ∧ (∀ o : Nat, cs[o]? = some XV.dead → cs'[o]? = some XV.dead)
  | .iter s n, .iter s' n' => s' = s ∧ n' = n ∧ ∀ o, (b, o) ∉ ps
  | .iter _ _, .cells cs k => cs = [] ∧ k = .own ∧ ∃ o, (b, o) ∈ ps
  | .gone, .gone => True
  | _, _ => False

@[simp] theorem size_poison1 (S : XS) (p : Nat × Nat) : (S.poison1 p).size = S.size := by unfold XS.poison1; split <;> simp
@[simp] theorem log_poison1 (S : XS) (p : Nat × Nat) : (S.poison1 p).log = S.log := by unfold XS.poison1; split <;> simp
theorem size_poison : ∀ (ps : List (Nat × Nat)) (S : XS), (S.poison ps).size = S.size
  | [], S => rfl
  | p :: ps, S => by unfold XS.poison; rw [List.foldl_cons]; exact (size_poison ps _).trans (by simp)

theorem poison1_get (S : XS) (p : Nat × Nat) (b : Nat) : PoisR [p] b (S.get b) ((S.poison1 p).get b) := by
  by_cases hb : b = p.1
  · subst hb
    unfold XS.poison1
    cases hg : S.get p.1 with
    | cells cs k =>
      have hng : (S.get p.1).isGone = false := by rw [hg]; rfl
      simp only
      rw [XS.get_put_same _ hng]
      refine ⟨rfl, by simp, fun o ho => ?_, fun o v ho hv => ?_, fun o ho => ?_⟩
      · rw [List.getElem?_set_ne]; intro q; subst q; exact ho (by simp)
      · have : o = p.2 := by simpa [Prod.ext_iff] using ho
        subst this
        rw [List.getElem?_set] at hv
        simp at hv
        exact hv.2.symm
      · by_cases q : p.2 = o
        · subst q
          have hlt : p.2 < cs.length := by
            rcases Nat.lt_or_ge p.2 cs.length with q | q
            · exact q
            · rw [List.getElem?_eq_none q] at ho; cases ho
          rw [List.getElem?_set_self hlt]
        · rw [List.getElem?_set_ne q]; exact ho
    | iter s n =>
      have hng : (S.get p.1).isGone = false := by rw [hg]; rfl
      simp only
      rw [XS.get_put_same _ hng]
      exact ⟨rfl, rfl, p.2, by simp⟩
    | gone => simp only; rw [hg]; trivial
  · have he : (S.poison1 p).get b = S.get b := by
      unfold XS.poison1
      split
      · exact XS.get_put_other _ hb
      · exact XS.get_put_other _ hb
      · rfl
    rw [he]
    have hnot : ∀ o, (b, o) ∉ [p] := fun o ho => by
      simp at ho
      exact hb (by rw [← ho])
    cases S.get b with
    | cells cs k => exact ⟨rfl, rfl, fun _ _ => rfl, fun o v ho _ => absurd ho (hnot o), fun _ h => h⟩
    | iter s n => exact ⟨rfl, rfl, hnot⟩
    | gone => trivial

theorem PoisR.trans {p1 p2 : List (Nat × Nat)} {b : Nat} {x y z : XBlk} (h : PoisR p1 b x y) (k : PoisR p2 b y z) : PoisR (p1 ++ p2) b x z := by
  cases x <;> cases y <;> simp only [PoisR] at h <;> cases z <;> simp only [PoisR] at k ⊢
  · obtain ⟨a1, a2, a3, a4, a5⟩ := h
    obtain ⟨c1, c2, c3, c4, c5⟩ := k
    refine ⟨c1.trans a1, c2.trans a2, fun o ho => ?_, fun o v ho hv => ?_, fun o ho => c5 o (a5 o ho)⟩
    · simp only [List.mem_append, not_or] at ho
      exact (c3 o ho.2).trans (a3 o ho.1)
    · by_cases q : (b, o) ∈ p2
      · exact c4 o v q hv
      · rw [c3 o q] at hv
        exact a4 o v ((List.mem_append.1 ho).resolve_right q) hv
  · obtain ⟨rfl, rfl, o, ho⟩ := h
    obtain ⟨c1, c2, c3, c4, c5⟩ := k
    exact ⟨List.eq_nil_of_length_eq_zero c2, c1, o, List.mem_append.2 (.inl ho)⟩
  · obtain ⟨rfl, rfl, h3⟩ := h
    obtain ⟨k1, k2, o, ho⟩ := k
    exact ⟨k1, k2, o, List.mem_append.2 (.inr ho)⟩
  · obtain ⟨rfl, rfl, h3⟩ := h
    obtain ⟨rfl, rfl, k3⟩ := k
    refine ⟨rfl, rfl, fun o ho => ?_⟩
    rcases List.mem_append.1 ho with q | q
    · exact h3 o q
    · exact k3 o q

theorem PoisR.nil (b : Nat) (x : XBlk) : PoisR [] b x x := by
  cases x with
  | cells cs k => exact ⟨rfl, rfl, fun _ _ => rfl, fun o v ho _ => (by cases ho), fun _ h => h⟩
  | iter s n => exact ⟨rfl, rfl, fun o ho => by cases ho⟩
  | gone => trivial

theorem poison_get : ∀ (ps : List (Nat × Nat)) (S : XS) (b : Nat), PoisR ps b (S.get b) ((S.poison ps).get b)
  | [], S, b => PoisR.nil b _
  | p :: ps, S, b => by
    have h1 := poison1_get S p b
    have h2 := poison_get ps (S.poison1 p) b
    have : (S.poison (p :: ps)) = (S.poison1 p).poison ps := rfl
    rw [this]
    exact h1.trans h2

/-- back: x the first, y behind the operation, z restored -/
def RestR (ps : List (Nat × Nat)) (b : Nat) (x y : XBlk) : XBlk → Prop
  | z => match x, y with
    | .cells cs _, .cells cs' k' => ∃ cs'', z = .cells cs'' k' ∧ cs''.length = cs'.length ∧ (∀ o : Nat, (b, o) ∉ ps → cs''[o]? = cs'[o]?) ∧ (∀ o : Nat, (b, o) ∈ ps → o < cs'.length → cs''[o]? = some (cs.getD o .dead))
    | .iter s n, y => ((∃ o, (b, o) ∈ ps) ∧ y.isGone = false ∧ z = .iter s n) ∨ (((∀ o, (b, o) ∉ ps) ∨ y.isGone = true) ∧ z = y)
    | _, y => z = y

@[simp] theorem size_restore1 (S0 S : XS) (p : Nat × Nat) : (XS.restore1 S0 S p).size = S.size := by unfold XS.restore1; split <;> (try split) <;> simp
theorem size_restore (S0 : XS) : ∀ (ps : List (Nat × Nat)) (S : XS), (XS.restore S0 S ps).size = S.size
  | [], S => rfl
  | p :: ps, S => by unfold XS.restore; rw [List.foldl_cons]; exact (size_restore S0 ps _).trans (by simp)

theorem restore1_get (S0 S : XS) (p : Nat × Nat) (b : Nat) : RestR [p] b (S0.get b) (S.get b) ((XS.restore1 S0 S p).get b) := by
  by_cases hb : b = p.1
  · subst hb
    unfold XS.restore1
    cases hg0 : S0.get p.1 with
    | cells cs k =>
      cases hg : S.get p.1 with
      | cells cs' k' =>
        have hng : (S.get p.1).isGone = false := by rw [hg]; rfl
        simp only
        rw [XS.get_put_same _ hng]
        refine ⟨_, rfl, by simp, fun o ho => ?_, fun o ho hlt => ?_⟩
        · rw [List.getElem?_set_ne]; intro q; subst q; exact ho (by simp)
        · have : o = p.2 := by simpa [Prod.ext_iff] using ho
          subst this
          rw [List.getElem?_set_self hlt]
      | iter s n => simp only; rw [hg]; rfl
      | gone => simp only; rw [hg]; rfl
    | iter s n =>
      cases hg : S.get p.1 with
      | gone => simp only; rw [hg]; exact .inr ⟨.inr rfl, rfl⟩
      | cells cs k =>
        have hng : (S.get p.1).isGone = false := by rw [hg]; rfl
        simp only
        rw [XS.get_put_same _ hng]
        exact .inl ⟨⟨p.2, by simp⟩, rfl, rfl⟩
      | iter s' n' =>
        have hng : (S.get p.1).isGone = false := by rw [hg]; rfl
        simp only
        rw [XS.get_put_same _ hng]
        exact .inl ⟨⟨p.2, by simp⟩, rfl, rfl⟩
    | gone => simp only; rfl
  · have he : (XS.restore1 S0 S p).get b = S.get b := by
      unfold XS.restore1
      split
      · split
        · exact XS.get_put_other _ hb
        · rfl
      · split
        · rfl
        · exact XS.get_put_other _ hb
      · rfl
    rw [he]
    have hnot : ∀ o, (b, o) ∉ [p] := fun o ho => by
      simp at ho
      exact hb (by rw [← ho])
    cases S0.get b with
    | cells cs k =>
      cases S.get b with
      | cells cs' k' => exact ⟨cs', rfl, rfl, fun _ _ => rfl, fun o ho _ => absurd ho (hnot o)⟩
      | iter s n => rfl
      | gone => rfl
    | iter s n => exact .inr ⟨.inl hnot, rfl⟩
    | gone => rfl


theorem RestR.nil (b : Nat) (x y : XBlk) : RestR [] b x y y := by
  cases x with
  | cells cs k =>
    cases y with
    | cells cs' k' => exact ⟨cs', rfl, rfl, fun _ _ => rfl, fun o ho => by cases ho⟩
    | iter s n => rfl
    | gone => rfl
  | iter s n => exact .inr ⟨.inl (fun o ho => by cases ho), rfl⟩
  | gone => rfl

theorem RestR.trans {p1 p2 : List (Nat × Nat)} {b : Nat} {x y z u : XBlk} (h : RestR p1 b x y z) (k : RestR p2 b x z u) : RestR (p1 ++ p2) b x y u := by
  cases x with
  | cells cs kk =>
    cases y with
    | cells cs' k' =>
      obtain ⟨c1, rfl, l1, a1, b1⟩ := h
      obtain ⟨c2, rfl, l2, a2, b2⟩ := k
      refine ⟨c2, rfl, l2.trans l1, fun o ho => ?_, fun o ho hlt => ?_⟩
      · simp only [List.mem_append, not_or] at ho
        exact (a2 o ho.2).trans (a1 o ho.1)
      · by_cases q : (b, o) ∈ p2
        · exact b2 o q (by omega)
        · rw [a2 o q]
          exact b1 o ((List.mem_append.1 ho).resolve_right q) hlt
    | iter s n => cases h; cases k; rfl
    | gone => cases h; cases k; rfl
  | iter s n =>
    rcases h with ⟨⟨o, ho⟩, hy, rfl⟩ | ⟨hc, rfl⟩
    · refine .inl ⟨⟨o, List.mem_append.2 (.inl ho)⟩, hy, ?_⟩
      rcases k with ⟨_, _, rfl⟩ | ⟨_, rfl⟩ <;> rfl
    · rcases k with ⟨⟨o, ho⟩, hy, rfl⟩ | ⟨hk, rfl⟩
      · exact .inl ⟨⟨o, List.mem_append.2 (.inr ho)⟩, hy, rfl⟩
      · refine .inr ⟨?_, rfl⟩
        rcases hc with hc | hc
        · rcases hk with hk | hk
          · refine .inl fun o ho => ?_
            rcases List.mem_append.1 ho with q | q
            · exact hc o q
            · exact hk o q
          · exact .inr hk
        · exact .inr hc
  | gone => cases h; cases k; rfl

theorem restore_get (S0 : XS) : ∀ (ps : List (Nat × Nat)) (S : XS) (b : Nat), RestR ps b (S0.get b) (S.get b) ((XS.restore S0 S ps).get b)
  | [], S, b => RestR.nil b _ _
  | p :: ps, S, b => by
    have h1 := restore1_get S0 S p b
    have h2 := restore_get S0 ps (XS.restore1 S0 S p) b
    have : (XS.restore S0 S (p :: ps)) = XS.restore S0 (XS.restore1 S0 S p) ps := rfl
    rw [this]
    exact h1.trans h2

/-- an operation under poison, and what was poisoned put back -/
theorem frame_back {ps W : List (Nat × Nat)} {b : Nat} {x y y' z : XBlk} (h1 : PoisR ps b x y) (h2 : BlkFrame W b y y') (h3 : RestR ps b x y' z) : BlkFrame W b x z := by
  cases x with
  | cells cs k =>
    cases y with
    | cells cp kp =>
      obtain ⟨rfl, l1, a1, a2, a3⟩ := h1
      cases y' with
      | cells cq kq =>
        obtain ⟨rfl, l2, b1, b2⟩ := h2
        obtain ⟨cz, rfl, l3, c1, c2⟩ := h3
        refine ⟨rfl, by omega, fun o ho => ?_, fun o ho => ?_⟩
        · by_cases q : (b, o) ∈ ps
          · rcases Nat.lt_or_ge o cs.length with hlt | hge
            · rw [c2 o q (by omega), List.getD_eq_getElem?_getD, List.getElem?_eq_getElem hlt]; rfl
            · rw [List.getElem?_eq_none (by omega), List.getElem?_eq_none hge]
          · rw [c1 o q, b1 o ho, a1 o q]
        · by_cases q : (b, o) ∈ ps
          · have hlt : o < cs.length := by
              rcases Nat.lt_or_ge o cs.length with hq | hq
              · exact hq
              · rw [List.getElem?_eq_none hq] at ho; cases ho
            rw [c2 o q (by omega), List.getD_eq_getElem?_getD, ho]; rfl
          · rw [c1 o q]; exact b2 o (a3 o ho)
      | iter s n => exact h2.elim
      | gone =>
        obtain ⟨d1, d2⟩ := h2
        cases h3
        rw [room_len (k := kp) l1] at d1 d2
        exact ⟨d1, d2⟩
    | iter s n => exact h1.elim
    | gone => exact h1.elim
  | iter s n =>
    cases y with
    | cells cp kp =>
      obtain ⟨rfl, rfl, o, ho⟩ := h1
      cases y' with
      | cells cq kq =>
        rcases h3 with ⟨_, _, rfl⟩ | ⟨hc, rfl⟩
        · exact ⟨rfl, fun _ => rfl⟩
        · rcases hc with hc | hc
          · exact absurd ho (hc o)
          · cases hc
      | iter s n => exact h2.elim
      | gone => exact absurd h2.1 (by simp [XKind.room])
    | iter s' n' =>
      obtain ⟨rfl, rfl, hno⟩ := h1
      rcases h3 with ⟨⟨o, ho⟩, _, _⟩ | ⟨_, rfl⟩
      · exact absurd ho (hno o)
      · exact h2
    | gone => exact h1.elim
  | gone =>
    cases y with
    | cells cp kp => exact h1.elim
    | iter s' n' => exact h1.elim
    | gone =>
      have hz : z = y' := h3
      subst hz
      exact h2

end Go.XM
