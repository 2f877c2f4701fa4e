/- A plain machine beside the model, and that what it tells the model does: part Xv. Conditions: those of each theorem below. -/
import Derived.Test.YtlaamopkgopleaaXu
namespace Go.XM
set_option linter.unusedVariables false
set_option linter.unusedSimpArgs false
open Go.RowKit
set_option linter.unusedVariables false

/-- what the plain machine itself leaves alone -/
structure XFr (base : Nat) (S S' : XS) (W : List (Nat × Nat)) : Prop where
  size : S.size ≤ S'.size
  log : S'.log = W ++ S.log
  wb : ∀ p, p ∈ W → p.1 < base
  canon : ∀ b, b < base → BlkFrame W b (S.get b) (S'.get b)

theorem XFr.refl (base : Nat) (S : XS) : XFr base S S [] := ⟨Nat.le_refl _, rfl, (fun p hp => by cases hp), fun b _ => BlkFrame.refl _ _ _⟩
theorem XFr.trans {base : Nat} {S1 S2 S3 : XS} {W1 W2 : List (Nat × Nat)} (h : XFr base S1 S2 W1) (k : XFr base S2 S3 W2) : XFr base S1 S3 (W2 ++ W1) :=
  ⟨Nat.le_trans h.size k.size, by rw [k.log, h.log, List.append_assoc], fun p hp => by rcases List.mem_append.1 hp with q | q <;> first | exact k.wb p q | exact h.wb p q,
    fun b hb => (h.canon b hb).trans (k.canon b hb)⟩
theorem XFr.push {base : Nat} {S : XS} (hb : base ≤ S.size) (x : XBlk) : XFr base S (S.push x) [] :=
  ⟨by simp, rfl, (fun p hp => by cases hp), fun b hlt => by rw [XS.get_push_old _ _ (by omega)]; exact BlkFrame.refl _ _ _⟩

theorem store1_fr {base b o : Nat} {S S' : XS} {v : XV} (hx : S.store1 base b o v = some S') : XFr base S S' (if b < base then [(b, o)] else []) ∧ S'.size = S.size := by
  unfold XS.store1 at hx
  split at hx
  case h_2 => cases hx
  case h_1 cs k hg =>
  split at hx
  · cases hx
  split at hx
  case h_2 => cases hx
  case h_1 c hc =>
  split at hx
  case isFalse => cases hx
  injection hx with hx
  subst hx
  have hng : (S.get b).isGone = false := by rw [hg]; rfl
  obtain ⟨hco, hcl⟩ : cs[o]? = some c ∧ c.live = true := by
    unfold cellAt at hc
    split at hc
    · split at hc
      · rename_i hl; injection hc with hc; subst hc; exact ⟨by assumption, hl⟩
      · cases hc
    · cases hc
  refine ⟨⟨by simp, by rw [XS.log_note, XS.log_put], fun p hp => ?_, fun c' hlt => ?_⟩, by simp⟩
  · split at hp
    · simp at hp; subst hp; assumption
    · cases hp
  · rw [XS.get_note]
    by_cases hcb : c' = b
    · subst hcb
      rw [XS.get_put_same _ hng, hg, if_pos hlt]
      refine ⟨rfl, by simp, fun o' ho' => ?_, fun o' ho' => ?_⟩
      · rw [List.getElem?_set_ne]
        intro hq; subst hq; exact ho' (by simp)
      · by_cases hoo : o' = o
        · subst hoo; rw [hco] at ho'; injection ho' with ho'; subst ho'; cases hcl
        · rw [List.getElem?_set_ne (by omega)]; exact ho'
    · rw [XS.get_put_other _ hcb]; exact BlkFrame.refl _ _ _

theorem storeN_fr {base b : Nat} : ∀ (vs : List XV) (o : Nat) (S S' : XS), S.storeN base b o vs = some S' → (∃ W, XFr base S S' W) ∧ S'.size = S.size
  | [], o, S, S', hx => by simp only [XS.storeN] at hx; injection hx with hx; subst hx; exact ⟨⟨[], XFr.refl _ _⟩, rfl⟩
  | v :: vs, o, S, S', hx => by
    simp only [XS.storeN] at hx
    split at hx
    case h_2 => cases hx
    case h_1 S1 h1 =>
    obtain ⟨p1, p2⟩ := store1_fr h1
    obtain ⟨⟨W, q1⟩, q2⟩ := storeN_fr vs (o + 1) S1 S' hx
    exact ⟨⟨_, p1.trans q1⟩, by omega⟩

theorem kill_fr {base b : Nat} {S : XS} {cs : List XV} {k : XKind} (hg : S.get b = .cells cs k) (hne : 0 < k.room cs) : XFr base S (S.kill base b (k.room cs)) (if b < base then noteAll b (k.room cs) [] else []) := by
  have hng : (S.get b).isGone = false := by rw [hg]; rfl
  refine ⟨by simp, XS.log_kill S base b (k.room cs), fun p hp => ?_, fun c hlt => ?_⟩
  · split at hp
    · rcases (mem_noteAll _ _ _ _).1 hp with ⟨q, _⟩ | q
      · rw [q]; assumption
      · cases q
    · cases hp
  · by_cases hcb : c = b
    · subst hcb
      rw [XS.get_kill_same _ _ hng, hg, if_pos hlt]
      exact ⟨hne, fun o ho => (mem_noteAll _ _ _ _).2 (.inl ⟨rfl, ho⟩)⟩
    · rw [XS.get_kill_other S base _ hcb]; exact BlkFrame.refl _ _ _

theorem next_fr {base : Nat} {S S' : XS} {x v : XV} (hx : xnext base S x = some (v, S')) : ∃ W, XFr base S S' W := by
  unfold xnext at hx
  split at hx
  case h_2 => cases hx
  case h_1 b =>
  split at hx
  case h_2 => cases hx
  case h_1 s pos hg =>
  split at hx
  · injection hx with hx
    simp only [Prod.mk.injEq] at hx
    obtain ⟨_, rfl⟩ := hx
    have hng : (S.get b).isGone = false := by rw [hg]; rfl
    refine ⟨_, by simp, by rw [XS.log_note, XS.log_put], fun p hp => ?_, fun c hlt => ?_⟩
    · split at hp
      · simp at hp; subst hp; assumption
      · cases hp
    · rw [XS.get_note]
      by_cases hcb : c = b
      · subst hcb
        rw [XS.get_put_same _ hng, hg, if_pos hlt]
        exact ⟨rfl, fun hm => absurd (by simp) hm⟩
      · rw [XS.get_put_other _ hcb]; exact BlkFrame.refl _ _ _
  · injection hx with hx
    simp only [Prod.mk.injEq] at hx
    obtain ⟨_, rfl⟩ := hx
    exact ⟨_, XFr.refl _ _⟩

theorem append_fr {P : Program} {base : Nat} {S S' : XS} (hb : base ≤ S.size) {t : TypeId} {s v : XV} {new : List XV} {n : Nat} (hx : xappend P base S t s new n = some (v, S')) : ∃ W, XFr base S S' W := by
  unfold xappend at hx
  split at hx
  case h_2 => cases hx
  split at hx
  case h_2 => cases hx
  split at hx
  · cases hx
  have hr : ∀ {u : XV}, some (u, S) = some (v, S') → ∃ W, XFr base S S' W := fun h => by
    injection h with h; simp only [Prod.mk.injEq] at h; obtain ⟨_, rfl⟩ := h; exact ⟨_, XFr.refl _ _⟩
  have hp : ∀ {u : XV} {x : XBlk}, some (u, S.push x) = some (v, S') → ∃ W, XFr base S S' W := fun h => by
    injection h with h; simp only [Prod.mk.injEq] at h; obtain ⟨_, rfl⟩ := h; exact ⟨_, XFr.push hb _⟩
  split at hx
  case h_5 => cases hx
  case h_1 => split at hx <;> first | exact hr hx | (split at hx <;> first | exact hp hx | cases hx)
  case h_2 b =>
    split at hx
    · exact hr hx
    · split at hx
      case h_2 => cases hx
      case h_1 cs esz m hg =>
      split at hx
      · injection hx with hx
        simp only [Prod.mk.injEq] at hx
        obtain ⟨_, rfl⟩ := hx
        have := kill_fr (base := base) hg (by simp [XKind.room])
        exact ⟨_, this.trans (XFr.push (by simpa using hb) _)⟩
      · cases hx
  case h_3 b o len cap =>
    split at hx
    · split at hx
      · exact hr hx
      · cases hx
    · split at hx
      · split at hx
        case h_2 => cases hx
        case h_1 S2 h2 =>
        injection hx with hx; simp only [Prod.mk.injEq] at hx; obtain ⟨_, rfl⟩ := hx
        exact (storeN_fr _ _ _ _ h2).1
      · split at hx
        · split at hx
          · split at hx
            · split at hx
              · exact hp hx
              · cases hx
            · cases hx
          · cases hx
        · cases hx
  case h_4 t m cs len => split at hx <;> first | exact hr hx | (split at hx <;> first | exact hp hx | cases hx)

theorem convert_fr {P : Program} {base : Nat} {S S' : XS} (hb : base ≤ S.size) {src dst : TypeId} {x v : XV} (hx : xconvert P S src dst x = some (v, S')) : ∃ W, XFr base S S' W := by
  have hr : ∀ {u : XV}, some (u, S) = some (v, S') → ∃ W, XFr base S S' W := fun h => by
    injection h with h; simp only [Prod.mk.injEq] at h; obtain ⟨_, rfl⟩ := h; exact ⟨_, XFr.refl _ _⟩
  have hl : ∀ {cs : List XV} {n : Nat}, some (looseOf S cs n) = some (v, S') → ∃ W, XFr base S S' W := fun h => by
    injection h with h; unfold looseOf at h; simp only [Prod.mk.injEq] at h; obtain ⟨_, rfl⟩ := h; exact ⟨_, XFr.push hb _⟩
  unfold xconvert at hx
  split at hx
  · cases hx
  split at hx
  · split at hx
    · exact hr hx
    · split at hx
      · exact hr hx
      · cases hx
  · split at hx
    · exact hr hx
    · split at hx
      · split at hx
        · exact hl hx
        · split at hx
          · exact hl hx
          · cases hx
      · cases hx
  · split at hx
    · split at hx
      · split at hx
        · split at hx
          · exact hr hx
          · cases hx
        · cases hx
      · cases hx
    · cases hx

theorem builtin_fr {P : Program} {base : Nat} {S S' : XS} (hb : base ≤ S.size) {b : Builtin} {ts : List TypeId} {xs : List XV} {v : XV} (hx : xbuiltin P base S b ts xs = some (v, S')) : ∃ W, XFr base S S' W := by
  have hr : ∀ {o : Option XV}, (match o with | some v => some (v, S) | none => none) = some (v, S') → ∃ W, XFr base S S' W := fun {o} h => by
    cases o with
    | none => cases h
    | some u => injection h with h; simp only [Prod.mk.injEq] at h; obtain ⟨_, rfl⟩ := h; exact ⟨_, XFr.refl _ _⟩
  unfold xbuiltin at hx
  split at hx
  · split at hx
    · split at hx
      · split at hx
        · split at hx
          · cases hx
          · exact append_fr hb hx
        · cases hx
      · cases hx
    · cases hx
  · exact hr hx
  · exact hr hx
  · exact hr hx
  · exact hr hx
  · cases hx

theorem xop_fr {P : Program} {base : Nat} {S S' : XS} (hb : base ≤ S.size) {o : Oper} {T : Tmps} {v : XV} (hx : xop P base o T S = some (v, S')) : ∃ W, XFr base S S' W := by
  have hr : ∀ {o : Option XV}, (o.map fun v => (v, S)) = some (v, S') → ∃ W, XFr base S S' W := fun {o} h => by
    simp only [Option.map_eq_some_iff, Prod.mk.injEq] at h
    obtain ⟨_, _, _, rfl⟩ := h
    exact ⟨_, XFr.refl _ _⟩
  have hr' : ∀ {u : XV}, some (u, S) = some (v, S') → ∃ W, XFr base S S' W := fun h => by
    injection h with h; simp only [Prod.mk.injEq] at h; obtain ⟨_, rfl⟩ := h; exact ⟨_, XFr.refl _ _⟩
  have hp : ∀ {u : XV} {x : XBlk}, some (u, S.push x) = some (v, S') → ∃ W, XFr base S S' W := fun h => by
    injection h with h; simp only [Prod.mk.injEq] at h; obtain ⟨_, rfl⟩ := h; exact ⟨_, XFr.push hb _⟩
  obtain ⟨dst, op, ty, pos, after, guard⟩ := o
  unfold xop at hx
  cases op with
  | move x => exact hr hx
  | assign x => exact hr hx
  | pick c x y => simp only at hx; split at hx <;> first | exact hr hx | cases hx
  | alloc t => simp only at hx; split at hx <;> first | (split at hx <;> first | exact hp hx | cases hx) | cases hx
  | box t x => simp only at hx; split at hx <;> first | (split at hx <;> first | exact hp hx | cases hx) | cases hx
  | build t ps => simp only at hx; split at hx <;> first | exact hr hx | cases hx
  | buildSlice t n ps =>
    simp only at hx
    split at hx
    case h_2 => cases hx
    unfold xbuildSlice at hx
    split at hx
    case h_2 => cases hx
    split at hx
    case h_2 => cases hx
    split at hx
    case isFalse => cases hx
    split at hx
    · exact hp hx
    · cases hx
  | load t x => simp only at hx; split at hx <;> first | exact hr hx | cases hx
  | store t x y =>
    simp only at hx
    split at hx
    case h_2 => cases hx
    simp only [Option.map_eq_some_iff, Prod.mk.injEq] at hx
    obtain ⟨S2, hS, _, rfl⟩ := hx
    unfold xstore at hS
    split at hS
    · split at hS
      · exact (storeN_fr _ _ _ _ hS).1
      · cases hS
    · cases hS
  | nilCheck x => simp only at hx; split at hx <;> first | exact hr' hx | cases hx
  | binOp op t x y yt => simp only at hx; split at hx <;> first | exact hr hx | cases hx
  | unOp op t x => simp only at hx; split at hx <;> first | exact hr hx | cases hx
  | convert src dst x => simp only at hx; split at hx <;> first | exact convert_fr hb hx | cases hx
  | makeInterface t x => simp only at hx; split at hx <;> first | (split at hx <;> first | exact hr' hx | cases hx) | cases hx
  | makeFunc fn first caps =>
    cases fn <;> first | cases hx | skip
    simp only at hx
    split at hx
    · simp only [Option.map_eq_some_iff, Prod.mk.injEq] at hx
      obtain ⟨_, _, _, rfl⟩ := hx
      exact ⟨_, XFr.refl _ _⟩
    · cases hx
  | makeSlice t x y =>
    simp only at hx
    split at hx
    case h_2 => cases hx
    unfold xmakeSlice at hx
    split at hx
    case h_2 => cases hx
    split at hx
    case h_2 => cases hx
    split at hx
    case h_2 => cases hx
    split at hx
    · exact hp hx
    · cases hx
  | slice t x lo hi mx => simp only at hx; split at hx <;> first | exact hr hx | cases hx
  | fieldAddr t x f => simp only at hx; split at hx <;> first | exact hr hx | cases hx
  | field t x f => simp only at hx; split at hx <;> first | exact hr hx | cases hx
  | indexAddr t x i => simp only at hx; split at hx <;> first | exact hr hx | cases hx
  | index t x i => simp only at hx; split at hx <;> first | exact hr hx | cases hx
  | range t x => simp only at hx; split at hx <;> first | (split at hx <;> first | exact hp hx | cases hx) | cases hx
  | next x isS => simp only at hx; split at hx <;> first | (split at hx <;> first | exact next_fr hx | cases hx) | cases hx
  | typeAssert x xt t ok => simp only at hx; split at hx <;> first | exact hr hx | cases hx
  | extract x i => simp only at hx; split at hx <;> first | exact hr hx | cases hx
  | call c => simp only at hx; split at hx <;> first | (split at hx <;> first | exact builtin_fr hb hx | cases hx) | cases hx
  | _ => cases hx

def CallFr (call : XCallFn) : Prop := ∀ f args base S v S', base ≤ S.size → call f args base S = some (v, S') → ∃ W, XFr base S S' W

theorem xstep_fr {P : Program} {call : XCallFn} (hc : CallFr call) {base : Nat} {S S' : XS} (hb : base ≤ S.size) {o : Oper} {T : Tmps} {v : XV} (hx : xstep P call base o T S = some (v, S')) : ∃ W, XFr base S S' W := by
  unfold xstep at hx
  split at hx
  · split at hx
    · split at hx
      · exact hc _ _ _ _ _ _ hb hx
      · cases hx
    · exact xop_fr hb hx
  · exact xop_fr hb hx

end Go.XM
