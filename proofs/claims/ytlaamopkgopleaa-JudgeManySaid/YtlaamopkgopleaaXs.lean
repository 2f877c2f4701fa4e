/- A plain machine beside the model, and that what it tells the model does: part Xs. Conditions: those of each theorem below. -/
import Derived.Test.YtlaamopkgopleaaXr
import Derived.LoopN
namespace Go.XM
open Go.RowKit
set_option linter.unusedVariables false

section
variable {P : Program} {B : Nat} {w0 : World}

/-- what a region of open order owes (proved in Xt) -/
def DrawOK (P : Program) (B : Nat) (w0 : World) (good : Nat → Array Oper → Bool) (okc : XCallFn → Prop) : Prop :=
  ∀ (call : XCallFn) (base n id : Nat) (ops : Array Oper) (ρ0 : Emb) (S0 : XS) (wi : World) (T T' : Tmps) (S S' : XS) (a : Act) (w : World) (Q : Exit → Act → World → Prop),
    CallOK P B w0 call → okc call → base ≤ S0.size → good n ops = true → Now P B w0 base n ρ0 S0 wi T S a w → xdraw P call base ops.toList T S = some (T', S') →
    (∀ a' w', Now P B w0 base n ρ0 S0 wi T' S' a' w' → Q .normal a' w') → (Code.region id ops true).wp P Q a w

def goodCode (good : Nat → Array Oper → Bool) (n : Nat) : Code → Bool
  | .region _ ops draw => ops.toList.all (okDst n) && (!draw || good n ops)
  | .seq a b => goodCode good n a && goodCode good n b
  | .cond _ a b => goodCode good n a && goodCode good n b
  | .block _ c => goodCode good n c
  | .loop c => goodCode good n c
  | _ => true

def exitOf : XExit → Exit
  | .normal => .normal
  | .exit id => .exit id
  | .ret => .ret

theorem cond_val {ρ : Emb} {T : Tmps} {a : Act} (hT : TR ρ T a.tmps) {c : Operand} {b : Bool} (h : evalX T c = some (.bool b)) : a.eval c = .bool b := by
  have hr := evalX_vr hT h
  generalize a.eval c = u at hr
  cases hr
  rfl

theorem xcode_wp {good : Nat → Array Oper → Bool} {okc : XCallFn → Prop} (hD : DrawOK P B w0 good okc) {call : XCallFn} (hc : CallOK P B w0 call) (hok : okc call) {fuel base n : Nat} {ρ0 : Emb} {S0 : XS} {wi : World} (hb : base ≤ S0.size) :
    ∀ (c : Code) (T : Tmps) (S : XS) (a : Act) (w : World) (e : XExit) (T' : Tmps) (S' : XS) (Q : Exit → Act → World → Prop), goodCode good n c = true → Now P B w0 base n ρ0 S0 wi T S a w →
      xcode P call fuel base c T S = some (e, T', S') → (∀ a' w', Now P B w0 base n ρ0 S0 wi T' S' a' w' → Q (exitOf e) a' w') → c.wp P Q a w := by
  intro c
  induction c with
  | skip =>
    intro T S a w e T' S' Q hg hn hx hQ
    simp only [xcode, Option.some.injEq, Prod.mk.injEq] at hx
    obtain ⟨rfl, rfl, rfl⟩ := hx
    exact wp_skip (hQ a w hn)
  | region id ops draw =>
    intro T S a w e T' S' Q hg hn hx hQ
    simp only [goodCode, Bool.and_eq_true] at hg
    simp only [xcode] at hx
    split at hx
    case h_2 => cases hx
    case h_1 T1 S1 hr =>
    simp only [Option.some.injEq, Prod.mk.injEq] at hx
    obtain ⟨rfl, rfl, rfl⟩ := hx
    cases draw with
    | false =>
      simp only [Bool.false_eq_true, if_false] at hr
      exact wp_region_list (xops_wp hc ops hb hQ ops.toList T S a w (fun o ho => List.all_eq_true.1 hg.1 o ho) hn hr)
    | true =>
      simp only [if_true] at hr
      exact hD call base n id ops ρ0 S0 wi T T1 S S1 a w Q hc hok hb (by simpa using hg.2) hn hr hQ
  | seq x y ihx ihy =>
    intro T S a w e T' S' Q hg hn hx hQ
    simp only [goodCode, Bool.and_eq_true] at hg
    simp only [xcode] at hx
    refine wp_seq ?_
    split at hx
    · rename_i T1 S1 h1
      refine ihx T S a w .normal T1 S1 _ hg.1 hn h1 fun a1 w1 hn1 => ?_
      exact ihy T1 S1 a1 w1 e T' S' Q hg.2 hn1 hx hQ
    · rename_i hne
      refine ihx T S a w e T' S' _ hg.1 hn hx fun a1 w1 hn1 => ?_
      have := hQ a1 w1 hn1
      cases e with
      | normal => exact absurd hx (hne _ _)
      | exit id => exact this
      | ret => exact this
  | cond c x y ihx ihy =>
    intro T S a w e T' S' Q hg hn hx hQ
    simp only [goodCode, Bool.and_eq_true] at hg
    simp only [xcode] at hx
    obtain ⟨ρ', W, h1, h2, h3, h4, h5, h6⟩ := hn
    split at hx
    · rename_i hcv
      exact wp_cond_true (cond_val h4 hcv) (ihx T S a w e T' S' Q hg.1 ⟨ρ', W, h1, h2, h3, h4, h5, h6⟩ hx hQ)
    · rename_i hcv
      exact wp_cond_false (cond_val h4 hcv) (ihy T S a w e T' S' Q hg.2 ⟨ρ', W, h1, h2, h3, h4, h5, h6⟩ hx hQ)
    · cases hx
  | block id c ih =>
    intro T S a w e T' S' Q hg hn hx hQ
    simp only [goodCode] at hg
    simp only [xcode] at hx
    refine wp_block ?_
    split at hx
    · rename_i id' T1 S1 h1
      refine ih T S a w (.exit id') T1 S1 _ hg hn h1 fun a1 w1 hn1 => ?_
      show Exit.inBlock id Q (.exit id') a1 w1
      simp only [Exit.inBlock]
      split at hx
      · rename_i hid
        simp only [Option.some.injEq, Prod.mk.injEq] at hx
        obtain ⟨rfl, rfl, rfl⟩ := hx
        rw [if_pos hid]
        exact hQ a1 w1 hn1
      · rename_i hid
        simp only [Option.some.injEq, Prod.mk.injEq] at hx
        obtain ⟨rfl, rfl, rfl⟩ := hx
        rw [if_neg hid]
        exact hQ a1 w1 hn1
    · rename_i hne
      refine ih T S a w e T' S' _ hg hn hx fun a1 w1 hn1 => ?_
      have := hQ a1 w1 hn1
      cases e with
      | normal => exact this
      | exit id => exact absurd hx (hne _ _ _)
      | ret => exact this
  | loop c ih =>
    intro T S a w e T' S' Q hg hn hx hQ
    simp only [goodCode] at hg
    simp only [xcode] at hx
    have key : ∀ (k : Nat) (T : Tmps) (S : XS) (a : Act) (w : World), Now P B w0 base n ρ0 S0 wi T S a w → xloop (xcode P call fuel base c) k T S = some (e, T', S') → Code.rounds P c Q k a w := by
      intro k
      induction k with
      | zero => intro T S a w hn hx; simp [xloop] at hx
      | succ k ihk =>
        intro T S a w hn hx
        rw [rounds_succ]
        simp only [xloop] at hx
        split at hx
        · rename_i T1 S1 h1
          refine ih T S a w .normal T1 S1 _ hg hn h1 fun a1 w1 hn1 => ?_
          exact ihk T1 S1 a1 w1 hn1 hx
        · rename_i hne
          refine ih T S a w e T' S' _ hg hn hx fun a1 w1 hn1 => ?_
          have := hQ a1 w1 hn1
          cases e with
          | normal => exact absurd hx (hne _ _)
          | exit id => exact this
          | ret => exact this
    exact wp_loop_rounds fuel (key fuel T S a w hn hx)
  | exit id =>
    intro T S a w e T' S' Q hg hn hx hQ
    simp only [xcode, Option.some.injEq, Prod.mk.injEq] at hx
    obtain ⟨rfl, rfl, rfl⟩ := hx
    exact wp_exit (hQ a w hn)
  | ret =>
    intro T S a w e T' S' Q hg hn hx hQ
    simp only [xcode, Option.some.injEq, Prod.mk.injEq] at hx
    obtain ⟨rfl, rfl, rfl⟩ := hx
    exact wp_ret (hQ a w hn)
  | rangeFunc f ps x y ihx ihy => intro T S a w e T' S' Q hg hn hx hQ; simp [xcode] at hx
  | scope c ih => intro T S a w e T' S' Q hg hn hx hQ; simp [xcode] at hx
  | label l => intro T S a w e T' S' Q hg hn hx hQ; simp [xcode] at hx
  | goto l => intro T S a w e T' S' Q hg hn hx hQ; simp [xcode] at hx
  | refuse why => intro T S a w e T' S' Q hg hn hx hQ; simp [xcode] at hx

end
end Go.XM
