/- A plain machine beside the model, and that what it tells the model does: part Xzm. Conditions: those of each theorem below. -/
import Derived.Test.YtlaamopkgopleaaXzl
namespace Go.XM
set_option linter.unusedVariables false
set_option linter.unusedSimpArgs false
set_option linter.unusedVariables false
set_option linter.unusedSimpArgs false

section
variable {P : Program} {A : Type} {r : A}

def Teq (T T' : Tmps) : Prop := ∀ t, tget T t = tget T' t
theorem Teq.refl (T : Tmps) : Teq T T := fun _ => rfl
theorem Teq.put {T T' : Tmps} (h : Teq T T') (d : Option Tmp) (v : XV) : Teq (putX T d v) (putX T' d v) := fun t => by
  unfold putX
  cases d with
  | none => exact h t
  | some d => simp only [tget_tset]; split <;> first | rfl | exact h t
theorem Teq.same {T T' : Tmps} (h : Teq T T') {d : Nat} {v : XV} (hv : tget T' d = v) : Teq T (tset T' d v) := fun t => by
  rw [tget_tset]
  split
  · rename_i q; subst q; rw [h, hv]
  · exact h t
theorem Teq.step {T T' : Tmps} (h : Teq T T') (call : XCallFn) (base : Nat) (o : Oper) (S : XS) : xstep P call base o T S = xstep P call base o T' S := xstep_congr fun t _ => h t
theorem Teq.eval {T T' : Tmps} (h : Teq T T') (x : Operand) : evalX T x = evalX T' x := evalX_congr fun t _ => h t

def FnOK (callN : XCallFn) (K : KOr A) : Prop := ∀ g F, K.fn g = some F → ∃ F0 : List XV → Option XV, (∀ args k (r : A), F args k = some r → ∃ v, F0 args = some v ∧ k v = some r) ∧
  (∀ args base S v, underAll 0 args = true → F0 args = some v → callN g args base S = some (v, S)) ∧
  (∀ args as base S v, underAll 0 args = false → hardAll (hard true S 50) args = some as → F0 as = some v → v.lent = false → callN g args base S = some (v, S))

variable {call callN : XCallFn} {K : KOr A}

theorem kcallf_sound (hle : CallLe call callN) (hf : FnOK callN K) {base : Nat} {g : FuncId} {args : List XV} {S : XS} {k : XV → XS → Option A} (h : kcallf call K base g args S k = some r) :
    ∃ v S', callN g args base S = some (v, S') ∧ k v S' = some r := by
  unfold kcallf at h
  split at h
  · rename_i F hF
    obtain ⟨F0, f1, f2, f3⟩ := hf g F hF
    split at h
    · rename_i hu
      obtain ⟨v, hv, h⟩ := f1 _ _ _ h
      exact ⟨v, S, f2 args base S v hu hv, h⟩
    · rename_i hu
      split at h
      · rename_i as has
        obtain ⟨v, hv, h⟩ := f1 _ _ _ h
        cases hl : v.lent with
        | true => rw [hl] at h; cases h
        | false =>
          rw [hl] at h
          exact ⟨v, S, f3 args as base S v (by simpa using hu) has hv hl, h⟩
      · cases h
  · split at h
    · rename_i v S' hv; exact ⟨v, S', hle _ _ _ _ _ hv, h⟩
    · cases h

theorem kstep_sound (hle : CallLe call callN) (hf : FnOK callN K) {base : Nat} {o : Oper} {T : Tmps} {S : XS} {k : XV → XS → Option A} (h : kstep P call K base o T S k = some r) :
    ∃ v S', xstep P callN base o T S = some (v, S') ∧ k v S' = some r := by
  obtain ⟨dst, op, ty, pos, after, guard⟩ := o
  have dflt : ∀ {x : Option (XV × XS)}, (match x with | some (v, S') => k v S' | none => none) = some r → ∃ v S', x = some (v, S') ∧ k v S' = some r := fun {x} h => by
    split at h
    · rename_i v S'; exact ⟨v, S', rfl, h⟩
    · cases h
  cases op with
  | call c =>
    unfold kstep at h
    unfold xstep
    simp only at h ⊢
    split at h
    · rename_i f hcal
      rw [hcal]
      simp only
      split at h
      · rename_i g caps xs hg hxs
        rw [hg, hxs]
        exact kcallf_sound hle hf h
      · cases h
    · rename_i hcal
      rw [hcal]
      simp only
      split at h
      · rename_i t t2 s x hts hxs
        split at h
        · rename_i e he hz
          obtain ⟨new, n, ha, h⟩ := kappended_sound h
          obtain ⟨v, S', hx, h⟩ := kappend_sound h
          refine ⟨v, S', ?_, h⟩
          unfold xop
          simp only [hcal, hxs]
          unfold xbuiltin
          simp only [hts, he, hz, ha, Bool.false_and, Bool.false_eq_true, if_false]
          exact hx
        · cases h
      · cases h
    · rename_i hn1 hn2
      obtain ⟨v, S', hx, h⟩ := dflt h
      refine ⟨v, S', ?_, h⟩
      split
      · rename_i f hcal; exact absurd hcal (hn1 f)
      · exact hx
  | pick c a b =>
    unfold kstep at h
    simp only at h
    unfold xstep xop
    simp only
    split at h
    · rename_i v hc
      split at h
      · rename_i x y hx hy
        cases v with
        | true => exact ⟨x, S, by simp [hc, hx], h⟩
        | false => exact ⟨y, S, by simp [hc, hy], h⟩
      · rename_i x hx hy
        cases v with
        | true => exact ⟨x, S, by simp [hc, hx], h⟩
        | false => cases h
      · rename_i y hx hy
        cases v with
        | true => cases h
        | false => exact ⟨y, S, by simp [hc, hy], h⟩
      · cases h
    · cases h
  | load t a =>
    unfold kstep at h
    simp only at h
    unfold xstep xop
    simp only
    split at h
    · rename_i p hp
      obtain ⟨v, hv, h⟩ := kload_sound h
      exact ⟨v, S, by simp [hp, hv], h⟩
    · cases h
  | indexAddr t x i =>
    unfold kstep at h
    simp only at h
    unfold xstep xop
    simp only
    split at h
    · rename_i a b ha hb
      obtain ⟨v, hv, h⟩ := kindexAddr_sound h
      exact ⟨v, S, by simp [ha, hb, hv], h⟩
    · cases h
  | index t x i =>
    unfold kstep at h
    simp only at h
    unfold xstep xop
    simp only
    split at h
    · rename_i a b ha hb
      obtain ⟨v, hv, h⟩ := kindex_sound h
      exact ⟨v, S, by simp [ha, hb, hv], h⟩
    · cases h
  | slice t x lo hi mx =>
    unfold kstep at h
    simp only at h
    unfold xstep xop
    simp only
    split at h
    · rename_i a b c d ha hb hc hd
      obtain ⟨v, hv, h⟩ := kslice_sound h
      exact ⟨v, S, by simp [ha, hb, hc, hd, hv], h⟩
    · cases h
  | binOp op t x y yt =>
    unfold kstep at h
    simp only at h
    unfold xstep xop
    simp only
    split at h
    · rename_i a b ha hb
      obtain ⟨v, hv, h⟩ := kbin_sound h
      exact ⟨v, S, by simp [ha, hb, hv], h⟩
    · cases h
  | convert src dstT x =>
    unfold kstep at h
    simp only at h
    unfold xstep xop
    simp only
    split at h
    · rename_i a ha
      obtain ⟨v, S', hv, h⟩ := kconvert_sound h
      exact ⟨v, S', by simp [ha, hv], h⟩
    · cases h
  | makeSlice t l c =>
    unfold kstep at h
    simp only at h
    unfold xstep xop
    simp only
    split at h
    · rename_i a b ha hb
      obtain ⟨v, S', hv, h⟩ := kmake_sound h
      exact ⟨v, S', by simp [ha, hb, hv], h⟩
    · cases h
  | next x isS =>
    unfold kstep at h
    simp only at h
    unfold xstep xop
    simp only
    split at h
    · rename_i his
      rw [if_pos his]
      split at h
      · rename_i v hv
        obtain ⟨v', S', hv', h⟩ := knext_sound h
        exact ⟨v', S', by simp [hv, hv'], h⟩
      · cases h
    · cases h
  | _ => exact dflt h

theorem want_cases {ops : List Oper} {o : Oper} {T T' : Tmps} (hT : Teq T T') {run skip : Tmps → Option A}
    (h : kguard ops o T' run skip = some r) :
    ∃ T2, Teq T T2 ∧ ((wantedX ops T o = some true ∧ run T2 = some r) ∨ (wantedX ops T o = some false ∧ skip T2 = some r)) := by
  unfold kguard at h
  unfold wantedX
  split at h
  · rename_i hg
    rw [hg]
    exact ⟨T', hT, .inl ⟨rfl, h⟩⟩
  · rename_i j want hg
    rw [hg]
    simp only
    split at h
    · rename_i hd
      rw [hd]
      exact ⟨T', hT, .inr ⟨rfl, h⟩⟩
    · rename_i d hd
      rw [hd]
      simp only
      rw [hT d]
      split at h
      · rename_i b hb
        rw [hb]
        cases want with
        | true =>
          cases b with
          | true => exact ⟨_, hT.same hb, .inl ⟨rfl, h⟩⟩
          | false => exact ⟨_, hT.same hb, .inr ⟨rfl, h⟩⟩
        | false =>
          cases b with
          | true => exact ⟨_, hT.same hb, .inr ⟨rfl, h⟩⟩
          | false => exact ⟨_, hT.same hb, .inl ⟨rfl, h⟩⟩
      · cases h
      · rename_i hnb hnd
        refine ⟨T', hT, .inr ⟨?_, h⟩⟩
        split
        · rename_i b hb; exact absurd hb (hnb b)
        · rename_i hb; exact absurd hb hnd
        · rfl

theorem kops_sound (hle : CallLe call callN) (hf : FnOK callN K) {base : Nat} {ops : List Oper} {k : Tmps → XS → Option A} : ∀ (l : List Oper) (T T' : Tmps) (S : XS), Teq T T' → kops P call K false base ops l T' S k = some r →
    ∃ T1 T1' S1, xops P callN base ops l T S = some (T1, S1) ∧ Teq T1 T1' ∧ k T1' S1 = some r
  | [], T, T', S, hT, h => ⟨T, T', S, rfl, hT, h⟩
  | o :: l, T, T', S, hT, h => by
    simp only [kops] at h
    simp only [xops]
    obtain ⟨T2, hT2, hw⟩ := want_cases hT h
    rcases hw with ⟨hw, h⟩ | ⟨hw, h⟩
    · rw [hw]
      simp only
      obtain ⟨v, S', hs, h⟩ := kstep_sound hle hf h
      rw [← hT2.step] at hs
      rw [hs]
      exact kops_sound hle hf l _ _ S' (hT2.put o.dst v) h
    · rw [hw]
      exact kops_sound hle hf l _ _ S (hT2.put o.dst _) h

theorem klook_sound (hle : CallLe call callN) (hf : FnOK callN K) {base : Nat} {ops : List Oper} {k : Tmps → XS → Option A} : ∀ (l : List Oper) (T T' : Tmps) (S : XS), Teq T T' → kops P call K true base ops l T' S k = some r →
    ∃ T1 T1' S1 ws, xlook P callN ops l T S = some (T1, S1, ws) ∧ ws.all List.isEmpty = true ∧ Teq T1 T1' ∧ k T1' S1 = some r
  | [], T, T', S, hT, h => ⟨T, T', S, [], rfl, rfl, hT, h⟩
  | o :: l, T, T', S, hT, h => by
    simp only [kops] at h
    simp only [xlook]
    obtain ⟨T2, hT2, hw⟩ := want_cases hT h
    rcases hw with ⟨hw, h⟩ | ⟨hw, h⟩
    · rw [hw]
      simp only
      obtain ⟨v, S', hs, h⟩ := kstep_sound hle hf h
      rw [← hT2.step] at hs
      rw [hs]
      simp only
      unfold kquiet at h
      split at h
      · rename_i hlog
        obtain ⟨T1, T1', S1, ws, h1, h2, h3, h4⟩ := klook_sound hle hf l _ _ S' (hT2.put o.dst v) h
        rw [h1]
        exact ⟨T1, T1', S1, S'.log :: ws, rfl, by simp [hlog, h2], h3, h4⟩
      · cases h
    · rw [hw]
      simp only
      obtain ⟨T1, T1', S1, ws, h1, h2, h3, h4⟩ := klook_sound hle hf l _ _ S (hT2.put o.dst _) h
      rw [h1]
      exact ⟨T1, T1', S1, [] :: ws, rfl, by simp [h2], h3, h4⟩

theorem pruneT_congr {keep : List Nat} {T T' : Tmps} (h : Teq T T') : ∀ (ts : List Nat) (B : Tmps), pruneT keep T ts B = pruneT keep T' ts B
  | [], B => rfl
  | t :: ts, B => by
    simp only [pruneT, h t]
    split
    · split
      · exact pruneT_congr h ts _
      · rfl
    · exact pruneT_congr h ts _

theorem head_congr {lv : Lives} {c : Code} {T T' : Tmps} {S : XS} (h : Teq T T') {T0' : Tmps} {S0 : XS} (hp : headPr lv 0 c T' S = some (T0', S0)) : ∃ T0, headPr lv 0 c T S = some (T0, S0) ∧ Teq T0 T0' := by
  unfold headPr at hp ⊢
  split at hp
  · rename_i rows ts hl
    simp only [if_true] at hp ⊢
    have : prune rows ts T S = prune rows ts T' S := by
      unfold prune
      have e1 : (ts.flatMap fun t => (tget T t).addrs) = ts.flatMap fun t => (tget T' t).addrs := by
        congr 1; funext t; rw [h t]
      simp only [e1, pruneT_congr h]
    rw [this, hp]
    exact ⟨T0', rfl, Teq.refl _⟩
  · rename_i hl
    injection hp with hp
    simp only [Prod.mk.injEq] at hp
    obtain ⟨rfl, rfl⟩ := hp
    exact ⟨T, rfl, h⟩

/-- the loops of a piece of code -/
def loopsIn : Code → List Code
  | .seq a b => loopsIn a ++ loopsIn b
  | .cond _ a b => loopsIn a ++ loopsIn b
  | .block _ c => loopsIn c
  | .loop c => [c]
  | _ => []

def LpOK (P : Program) (prim : XPrim) (lv : Lives) (c : Code) (g : Tmps → XS → (XExit → Tmps → XS → Option A) → Option A) : Prop :=
  ∀ T0 T0' S0 k (r : A), Teq T0 T0' → g T0' S0 k = some r → ∃ m e T1 T1' S1, (∀ n, m ≤ n → loopC (headPr lv 0 c) (xcode P (xcall P prim n) lv n 0 c) n T0 S0 = some (e, T1, S1)) ∧ Teq T1 T1' ∧ k e T1' S1 = some r

theorem kcode_sound {prim : XPrim} {lv : Lives} {N fuel : Nat} (hf : ∀ n, N ≤ n → FnOK (xcall P prim n) K) : ∀ (c : Code) (T T' : Tmps) (S : XS) (k : XExit → Tmps → XS → Option A) (r : A),
    (∀ c', c' ∈ loopsIn c → ∀ g, K.lp (headId c') = some g → LpOK P prim lv c' g) → Teq T T' → kcode P (xcall P prim N) K lv fuel 0 c T' S k = some r →
    ∃ m e T1 T1' S1, (∀ n, m ≤ n → xcode P (xcall P prim n) lv n 0 c T S = some (e, T1, S1)) ∧ Teq T1 T1' ∧ k e T1' S1 = some r := by
  intro c
  induction c with
  | skip => intro T T' S k r hl hT h; exact ⟨0, .normal, T, T', S, fun n _ => rfl, hT, h⟩
  | region id ops draw =>
    intro T T' S k r hl hT h
    simp only [kcode] at h
    cases draw with
    | false =>
      have hN := kops_sound (xcall_mono (Nat.le_refl N)) (hf N (Nat.le_refl _)) ops.toList T T' S hT h
      obtain ⟨T1, T1', S1, h1, h2, h3⟩ := hN
      refine ⟨N, .normal, T1, T1', S1, fun n hn => ?_, h2, h3⟩
      simp only [xcode, Bool.false_eq_true, if_false]
      rw [xops_mono (xcall_mono hn) _ _ _ _ h1]
    | true =>
      obtain ⟨T1, T1', S1, ws, h1, hq, h2, h3⟩ := klook_sound (xcall_mono (Nat.le_refl N)) (hf N (Nat.le_refl _)) ops.toList T T' S hT h
      refine ⟨N, .normal, T1, T1', { S1 with log := S.log }, fun n hn => ?_, h2, h3⟩
      simp only [xcode, if_true]
      unfold xdraw
      rw [xlook_mono (xcall_mono hn) _ _ _ _ h1]
      simp only
      rw [if_pos hq]
  | seq a b iha ihb =>
    intro T T' S k r hl hT h
    simp only [kcode] at h
    obtain ⟨m, e, T1, T1', S1, h1, h2, h3⟩ := iha T T' S _ r (fun c' hc => hl c' (by simp [loopsIn, hc])) hT h
    cases e with
    | normal =>
      obtain ⟨m2, e2, T2, T2', S2, q1, q2, q3⟩ := ihb T1 T1' S1 k r (fun c' hc => hl c' (by simp [loopsIn, hc])) h2 h3
      refine ⟨max m m2, e2, T2, T2', S2, fun n hn => ?_, q2, q3⟩
      simp only [xcode]
      rw [h1 n (by omega)]
      exact q1 n (by omega)
    | exit id =>
      refine ⟨m, .exit id, T1, T1', S1, fun n hn => ?_, h2, h3⟩
      simp only [xcode]
      rw [h1 n hn]
    | ret =>
      refine ⟨m, .ret, T1, T1', S1, fun n hn => ?_, h2, h3⟩
      simp only [xcode]
      rw [h1 n hn]
  | cond c a b iha ihb =>
    intro T T' S k r hl hT h
    simp only [kcode] at h
    split at h
    · rename_i v hv
      rw [← hT.eval] at hv
      cases v with
      | true =>
        obtain ⟨m, e, T1, T1', S1, h1, h2, h3⟩ := iha T T' S k r (fun c' hc => hl c' (by simp [loopsIn, hc])) hT h
        exact ⟨m, e, T1, T1', S1, fun n hn => by simp only [xcode, hv]; exact h1 n hn, h2, h3⟩
      | false =>
        obtain ⟨m, e, T1, T1', S1, h1, h2, h3⟩ := ihb T T' S k r (fun c' hc => hl c' (by simp [loopsIn, hc])) hT h
        exact ⟨m, e, T1, T1', S1, fun n hn => by simp only [xcode, hv]; exact h1 n hn, h2, h3⟩
    · cases h
  | block id c ih =>
    intro T T' S k r hl hT h
    simp only [kcode] at h
    obtain ⟨m, e, T1, T1', S1, h1, h2, h3⟩ := ih T T' S _ r (fun c' hc => hl c' (by simpa [loopsIn] using hc)) hT h
    cases e with
    | normal => exact ⟨m, .normal, T1, T1', S1, fun n hn => by simp only [xcode]; rw [h1 n hn], h2, h3⟩
    | ret => exact ⟨m, .ret, T1, T1', S1, fun n hn => by simp only [xcode]; rw [h1 n hn], h2, h3⟩
    | exit id' =>
      simp only at h3
      cases hq : Nat.beq id' id with
      | true =>
        rw [hq] at h3
        exact ⟨m, .normal, T1, T1', S1, fun n hn => by simp only [xcode]; rw [h1 n hn]; simp only; rw [if_pos ((beqI _ _).1 hq)], h2, h3⟩
      | false =>
        rw [hq] at h3
        refine ⟨m, .exit id', T1, T1', S1, fun n hn => ?_, h2, h3⟩
        simp only [xcode]
        rw [h1 n hn]
        simp only
        rw [if_neg]
        intro z
        rw [(beqI _ _).2 z] at hq
        cases hq
  | loop c ih =>
    intro T T' S k r hl hT h
    simp only [kcode] at h
    split at h
    case h_2 => cases h
    rename_i T0' S0 hp
    split at h
    case h_2 => cases h
    rename_i g hg
    obtain ⟨T0, hp0, hT0⟩ := head_congr hT hp
    obtain ⟨m, e, T1, T1', S1, h1, h2, h3⟩ := hl c (by simp [loopsIn]) g hg T0 T0' S0 k r hT0 h
    refine ⟨m, e, T1, T1', S1, fun n hn => ?_, h2, h3⟩
    simp only [xcode]
    rw [xloop_head n T S T0 S0 hp0]
    exact h1 n hn
  | exit id => intro T T' S k r hl hT h; exact ⟨0, .exit id, T, T', S, fun n _ => rfl, hT, h⟩
  | ret => intro T T' S k r hl hT h; exact ⟨0, .ret, T, T', S, fun n _ => rfl, hT, h⟩
  | rangeFunc f ps x y ihx ihy => intro T T' S k r hl hT h; simp [kcode] at h
  | scope c ih => intro T T' S k r hl hT h; simp [kcode] at h
  | label l => intro T T' S k r hl hT h; simp [kcode] at h
  | goto l => intro T T' S k r hl hT h; simp [kcode] at h
  | refuse why => intro T T' S k r hl hT h; simp [kcode] at h

end
end Go.XM
