/- A plain machine beside the model, and that what it tells the model does: part Xzk. Conditions: those of each theorem below. -/
import Derived.Test.YtlaamopkgopleaaXzj
namespace Go.XM
set_option linter.unusedVariables false
set_option linter.unusedSimpArgs false
set_option linter.unusedVariables false

/-! ### more fuel tells the same -/
section
variable {P : Program}

def CallLe (c c' : XCallFn) : Prop := ∀ f args base S r, c f args base S = some r → c' f args base S = some r
theorem CallLe.refl (c : XCallFn) : CallLe c c := fun _ _ _ _ _ h => h

variable {call call' : XCallFn}

theorem xstep_mono (hc : CallLe call call') {base : Nat} {o : Oper} {T : Tmps} {S : XS} {r : XV × XS} (h : xstep P call base o T S = some r) : xstep P call' base o T S = some r := by
  unfold xstep at h ⊢
  split at h
  · split at h
    · split at h
      · exact hc _ _ _ _ _ h
      · cases h
    · exact h
  · exact h

theorem xops_mono (hc : CallLe call call') {base : Nat} {ops : List Oper} : ∀ (l : List Oper) (T : Tmps) (S : XS) (r : Tmps × XS), xops P call base ops l T S = some r → xops P call' base ops l T S = some r
  | [], T, S, r, h => h
  | o :: l, T, S, r, h => by
    simp only [xops] at h ⊢
    split at h
    · split at h
      · rename_i v S' hs
        rw [xstep_mono hc hs]
        exact xops_mono hc l _ _ _ h
      · cases h
    · exact xops_mono hc l _ _ _ h
    · cases h

theorem xlook_mono (hc : CallLe call call') {ops : List Oper} : ∀ (l : List Oper) (T : Tmps) (S : XS) (r : Tmps × XS × List (List (Nat × Nat))), xlook P call ops l T S = some r → xlook P call' ops l T S = some r
  | [], T, S, r, h => h
  | o :: l, T, S, r, h => by
    simp only [xlook] at h ⊢
    split at h
    · split at h
      · rename_i v S' hs
        rw [xstep_mono hc hs]
        simp only
        split at h
        · rename_i T2 S2 ws hl
          rw [xlook_mono hc l _ _ _ hl]
          exact h
        · cases h
      · cases h
    · split at h
      · rename_i T2 S2 ws hl
        rw [xlook_mono hc l _ _ _ hl]
        exact h
      · cases h
    · cases h

theorem xopsW_mono (hc : CallLe call call') {ops : List Oper} {pr : List (List Nat)} {Wd : List (List (Nat × Nat))} : ∀ (l : List Oper) (i : Nat) (T : Tmps) (S : XS) (r : Tmps × XS × List (List (Nat × Nat))), xopsW P call ops pr Wd i l T S = some r → xopsW P call' ops pr Wd i l T S = some r
  | [], i, T, S, r, h => h
  | o :: l, i, T, S, r, h => by
    simp only [xopsW] at h ⊢
    split at h
    · split at h
      · rename_i v S' hs
        rw [xstep_mono hc hs]
        simp only
        split at h
        · rename_i hall
          rw [if_pos hall]
          split at h
          · rename_i T2 S2 ws hl
            rw [xopsW_mono hc l _ _ _ _ hl]
            exact h
          · cases h
        · cases h
      · cases h
    · split at h
      · rename_i T2 S2 ws hl
        rw [xopsW_mono hc l _ _ _ _ hl]
        exact h
      · cases h
    · cases h

theorem xdraw_mono (hc : CallLe call call') {base : Nat} {ops : List Oper} {T : Tmps} {S : XS} {r : Tmps × XS} (h : xdraw P call base ops T S = some r) : xdraw P call' base ops T S = some r := by
  unfold xdraw at h ⊢
  split at h
  · cases h
  · rename_i T1 S1 Wd hl
    rw [xlook_mono hc _ _ _ _ hl]
    simp only
    split at h
    · rename_i hq
      rw [if_pos hq]; exact h
    · rename_i hq
      rw [if_neg hq]
      split at h
      · rename_i T' S' ws hw
        rw [xopsW_mono hc _ _ _ _ _ hw]
        exact h
      · cases h

theorem xcode_mono (hc : CallLe call call') {lv : Lives} {m n base : Nat} (hmn : m ≤ n) : ∀ (c : Code) (T : Tmps) (S : XS) (r : XExit × Tmps × XS), xcode P call lv m base c T S = some r → xcode P call' lv n base c T S = some r := by
  intro c
  induction c with
  | skip => intro T S r h; exact h
  | region id ops draw =>
    intro T S r h
    simp only [xcode] at h ⊢
    cases draw with
    | true =>
      simp only [if_true] at h ⊢
      split at h
      · rename_i T' S' hd
        rw [xdraw_mono hc hd]; exact h
      · cases h
    | false =>
      simp only [Bool.false_eq_true, if_false] at h ⊢
      split at h
      · rename_i T' S' hd
        rw [xops_mono hc _ _ _ _ hd]; exact h
      · cases h
  | seq a b iha ihb =>
    intro T S r h
    simp only [xcode] at h ⊢
    split at h
    · rename_i T' S' ha
      rw [iha _ _ _ ha]
      exact ihb _ _ _ h
    · rename_i hne
      rw [iha _ _ _ h]
      obtain ⟨e, T1, S1⟩ := r
      cases e with
      | normal => exact absurd h (hne _ _)
      | exit id => rfl
      | ret => rfl
  | cond c a b iha ihb =>
    intro T S r h
    simp only [xcode] at h ⊢
    split at h
    · exact iha _ _ _ h
    · exact ihb _ _ _ h
    · cases h
  | block id c ih =>
    intro T S r h
    simp only [xcode] at h ⊢
    split at h
    · rename_i id' T' S' hb
      rw [ih _ _ _ hb]
      exact h
    · rename_i hne
      rw [ih _ _ _ h]
      obtain ⟨e, T1, S1⟩ := r
      cases e with
      | normal => rfl
      | exit id => exact absurd h (hne _ _ _)
      | ret => rfl
  | loop c ih =>
    intro T S r h
    simp only [xcode] at h ⊢
    have key : ∀ (k k' : Nat), k ≤ k' → ∀ (T : Tmps) (S : XS), xloop (headPr lv base c) (xcode P call lv m base c) k T S = some r → xloop (headPr lv base c) (xcode P call' lv n base c) k' T S = some r := by
      intro k
      induction k with
      | zero => intro k' _ T S h; simp [xloop] at h
      | succ k ihk =>
        intro k' hk T S h
        obtain ⟨j, rfl⟩ : ∃ j, k' = j + 1 := ⟨k' - 1, by omega⟩
        simp only [xloop] at h ⊢
        split at h
        · cases h
        rename_i T0 S0 hp
        split at h
        · cases h
        · rename_i T1 S1 hb
          rw [ih _ _ _ hb]
          exact ihk j (by omega) _ _ h
        · rename_i e1 T1 S1 hne hb
          rw [ih _ _ _ hb]
          cases e1 with
          | normal => exact (hne rfl).elim
          | exit id => exact h
          | ret => exact h
    exact key m n hmn T S h
  | exit id => intro T S r h; exact h
  | ret => intro T S r h; exact h
  | rangeFunc f ps x y ihx ihy => intro T S r h; simp [xcode] at h
  | scope c ih => intro T S r h; simp [xcode] at h
  | label l => intro T S r h; simp [xcode] at h
  | goto l => intro T S r h; simp [xcode] at h
  | refuse why => intro T S r h; simp [xcode] at h

theorem xcall_mono {prim : XPrim} : ∀ {m n : Nat}, m ≤ n → CallLe (xcall P prim m) (xcall P prim n)
  | 0, n, _ => fun f args base S r h => by simp [xcall] at h
  | m + 1, n, hmn => fun f args base S r h => by
    obtain ⟨j, rfl⟩ : ∃ j, n = j + 1 := ⟨n - 1, by omega⟩
    have ih := xcall_mono (prim := prim) (m := m) (n := j) (by omega)
    unfold xcall at h ⊢
    split at h
    · cases h
    split at h
    · cases h
    split at h
    · cases h
    rename_i hname
    rw [if_neg hname]
    split at h
    · cases h
    rename_i hlen
    rw [if_neg hlen]
    split at h
    · exact h
    · split at h
      · rename_i e T S1 hcode
        rw [xcode_mono ih (by omega) _ _ _ _ hcode]
        exact h
      · cases h

/-- a loop from its head on -/
def loopC (pr : Tmps → XS → Option (Tmps × XS)) (body : Tmps → XS → Option (XExit × Tmps × XS)) : Nat → Tmps → XS → Option (XExit × Tmps × XS)
  | 0, _, _ => none
  | n + 1, T0, S0 => match body T0 S0 with
    | none => none
    | some (.normal, T', S') => (match pr T' S' with
      | some (T1, S1) => loopC pr body n T1 S1
      | none => none)
    | some (e, T', S') => match pr T' S' with
      | some (T2, S2) => some (e, T2, S2)
      | none => none

theorem xloop_head {pr : Tmps → XS → Option (Tmps × XS)} {body : Tmps → XS → Option (XExit × Tmps × XS)} : ∀ (n : Nat) (T : Tmps) (S : XS) (T0 : Tmps) (S0 : XS), pr T S = some (T0, S0) → xloop pr body n T S = loopC pr body n T0 S0
  | 0, T, S, T0, S0, h => rfl
  | n + 1, T, S, T0, S0, h => by
    simp only [xloop, loopC, h]
    cases hb : body T0 S0 with
    | none => rfl
    | some r =>
      obtain ⟨e, T', S'⟩ := r
      cases e with
      | normal =>
        simp only
        cases hp : pr T' S' with
        | none => cases n <;> simp [xloop, hp]
        | some q => exact xloop_head n T' S' q.1 q.2 hp
      | exit id => rfl
      | ret => rfl

end
end Go.XM
