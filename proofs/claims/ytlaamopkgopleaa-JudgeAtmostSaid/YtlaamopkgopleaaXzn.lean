/- A plain machine beside the model, and that what it tells the model does: part Xzn. Conditions: those of each theorem below. -/
import Derived.Test.YtlaamopkgopleaaXzm
namespace Go.XM
set_option linter.unusedVariables false
set_option linter.unusedSimpArgs false
set_option linter.unusedVariables false
set_option linter.unusedSimpArgs false

/-! ### functions that are known, loops that are known -/
structure FnE where
  id : Nat
  ar : Nat
  F : List XV → Option XV

def findE (g : Nat) : List FnE → Option FnE
  | [] => none
  | e :: r => if Nat.beq e.id g then some e else findE g r

def FnE.go (e : FnE) (args : List XV) : Option XV := if Nat.beq args.length e.ar then e.F args else none

def primOf (l : List FnE) (live : FuncId → Nat → Option (List Nat)) : XPrim := ⟨fun g => match findE g l with
  | some e => some e.go
  | none => none, live⟩

def fitB (P : Program) (l : List FnE) : Bool := l.all fun e => match P.funcs[e.id]? with
  | some fn => fn.body.isSome && !(fn.name == "runtime.NumGoroutine") && Nat.ble e.ar fn.ntmps
  | none => false

noncomputable def kOf {A : Type} (prim : XPrim) (lp : Nat → Option (Tmps → XS → (XExit → Tmps → XS → Option A) → Option A)) : KOr A := ⟨fun g => match prim.fn g with
  | some F0 => some fun args k => match F0 args with
    | some v => k v
    | none => none
  | none => none, lp⟩

section
variable {P : Program}

theorem findE_some {g : Nat} : ∀ {l : List FnE} {e : FnE}, findE g l = some e → e ∈ l ∧ e.id = g
  | [], e, h => by cases h
  | x :: r, e, h => by
    simp only [findE] at h
    split at h
    · rename_i hq
      injection h with h
      subst h
      exact ⟨by simp, (beqI _ _).1 hq⟩
    · obtain ⟨h1, h2⟩ := findE_some h
      exact ⟨by simp [h1], h2⟩

theorem primOf_some {l : List FnE} {live : FuncId → Nat → Option (List Nat)} {g : FuncId} {F0 : List XV → Option XV} (h : (primOf l live).fn g = some F0) : ∃ e, e ∈ l ∧ e.id = g ∧ F0 = e.go := by
  unfold primOf at h
  simp only at h
  split at h
  · rename_i e he
    injection h with h
    obtain ⟨h1, h2⟩ := findE_some he
    exact ⟨e, h1, h2, h.symm⟩
  · cases h

theorem primOf_ok {l : List FnE} {live : FuncId → Nat → Option (List Nat)} (h : ∀ e, e ∈ l → Pure P e.id e.F) : PrimOK P (primOf l live) := fun g F0 hg => by
  obtain ⟨e, h1, h2, rfl⟩ := primOf_some hg
  subst h2
  intro args v hv
  unfold FnE.go at hv
  split at hv
  · exact h e h1 args v hv
  · cases hv

theorem primOf_fn {A : Type} {l : List FnE} {live : FuncId → Nat → Option (List Nat)} {lp : Nat → Option (Tmps → XS → (XExit → Tmps → XS → Option A) → Option A)} (hfit : fitB P l = true) {n : Nat} (hn : 1 ≤ n) : FnOK (xcall P (primOf l live) n) (kOf (primOf l live) lp) := by
  intro g F hF
  unfold kOf at hF
  simp only at hF
  split at hF
  case h_2 => cases hF
  rename_i F0 hF0
  injection hF with hF
  subst hF
  obtain ⟨e, h1, h2, rfl⟩ := primOf_some hF0
  subst h2
  obtain ⟨j, rfl⟩ : ∃ j, n = j + 1 := ⟨n - 1, by omega⟩
  have hfe := List.all_eq_true.1 hfit e h1
  split at hfe
  case h_2 => cases hfe
  rename_i fn hfn
  simp only [Bool.and_eq_true, Bool.not_eq_true'] at hfe
  obtain ⟨⟨hb, hname⟩, har⟩ := hfe
  obtain ⟨c, hc⟩ := Option.isSome_iff_exists.1 hb
  have har' : e.ar ≤ fn.ntmps := (bleI _ _).1 har
  refine ⟨e.go, fun args k r h => ?_, fun args base S v hu hv => ?_, fun args as base S v hu has hv hl => ?_⟩
  · simp only at h
    split at h
    · rename_i v hv; exact ⟨v, hv, h⟩
    · cases h
  · have hlen : args.length = e.ar := by
      unfold FnE.go at hv
      split at hv
      · rename_i q; exact (beqI _ _).1 q
      · cases hv
    unfold xcall
    simp only [hfn, hc, hname, Bool.false_eq_true, if_false]
    rw [if_neg (by omega)]
    simp only [hF0, hu, if_true, hv]
  · have hlen : args.length = e.ar := by
      unfold FnE.go at hv
      split at hv
      · rename_i q; have := (beqI _ _).1 q; rw [(hardAll_get has).1] at this; exact this
      · cases hv
    unfold xcall
    simp only [hfn, hc, hname, Bool.false_eq_true, if_false]
    rw [if_neg (by omega)]
    simp only [hF0, hu, Bool.false_eq_true, if_false, has, hv, hl]

/-- what a function answers at its end, read out -/
noncomputable def kfin (P : Program) (fn : Func) (t : Bool) (e : XExit) (T : Tmps) (S : XS) : Option XV :=
  match e with
  | .exit _ => none
  | _ => match xresults P T S fn.results.toList with
    | some l => if S.log.isEmpty && (oneOr l).under 0 then hard t XS.none 50 (oneOr l) else hard t { S with log := [] } 50 (oneOr l)
    | none => none

theorem xresult_congr {T T' : Tmps} (h : Teq T T') (S : XS) (v : ResultVar) : xresult P T S v = xresult P T' S v := by
  cases v with
  | tmp t => simp only [xresult, h.eval]
  | cell a t => simp only [xresult, h.eval]
theorem xresults_congr {T T' : Tmps} (h : Teq T T') (S : XS) : ∀ rs, xresults P T S rs = xresults P T' S rs
  | [] => rfl
  | v :: rs => by simp only [xresults, xresult_congr h, xresults_congr h S rs]

theorem hard_log (t : Bool) (S : XS) (l : List (Nat × Nat)) : ∀ n v, hard t { S with log := l } n v = hard t S n v
  | 0, v => rfl
  | n + 1, v => by
    have ih := hard_log t S l n
    have hf : hard t { S with log := l } n = hard t S n := funext ih
    have hg : ∀ b, ({ S with log := l } : XS).get b = S.get b := fun b => rfl
    cases v <;> simp only [hard, hf, hg]

/-- a function, told from its end -/
theorem fn_pure (hm : P.follows .mixedOrders = true) (hg : goodAll P = true) {l : List FnE} {live : FuncId → Nat → Option (List Nat)} (hp : ∀ e, e ∈ l → Pure P e.id e.F) (hfit : fitB P l = true) {f : FuncId} {fn : Func} {c : Code} (hf : P.funcs[f]? = some fn) (hc : fn.body = some c)
    (hname : (fn.name == "runtime.NumGoroutine") = false) (hnot : findE f l = none) {t : Bool} {N fuel : Nat} (hN : 1 ≤ N) {F : List XV → Option XV}
    (h : ∀ args v, F args = some v → args.length ≤ fn.ntmps ∧ ∃ lp : Nat → Option (Tmps → XS → (XExit → Tmps → XS → Option XV) → Option XV), (∀ c', c' ∈ loopsIn c → ∀ g, lp (headId c') = some g → LpOK P (primOf l live) (livesOf fn (live f)) c' g) ∧ kcode P (xcall P (primOf l live) N) (kOf (primOf l live) lp) (livesOf fn (live f)) fuel 0 c (argsT 0 args []) XS.none (kfin P fn t) = some v) : Pure P f F := by
  refine pure_of hm hg (prim := primOf l live) (primOf_ok hp) fun args v hv => ?_
  obtain ⟨hlen, lp, hlp, hk⟩ := h args v hv
  obtain ⟨m, e, T1, T1', S1, h1, h2, h3⟩ := kcode_sound (fun n hn => primOf_fn hfit (Nat.le_trans hN hn)) c (argsT 0 args []) (argsT 0 args []) XS.none _ v hlp (Teq.refl _) hk
  refine ⟨m + 1, t, ?_⟩
  have hpn : (primOf l live).fn f = none := by unfold primOf; simp only [hnot]
  unfold kfin at h3
  have hS : ({ XS.none with log := [] } : XS) = XS.none := rfl
  have hsz : XS.none.size = 0 := rfl
  have run : ∀ (he : e = .normal ∨ e = .ret) l', xresults P T1 S1 fn.results.toList = some l' → (if S1.log.isEmpty && (oneOr l').under 0 then hard t XS.none 50 (oneOr l') else hard t { S1 with log := [] } 50 (oneOr l')) = some v → prun P (primOf l live) (m + 1) f t args = some v := fun he l' hl hr => by
    have h1' : xcode P (xcall P (primOf l live) m) (livesOf fn ((primOf l live).live f)) m XS.none.size c (argsT 0 args []) { XS.none with log := [] } = some (e, T1, S1) := h1 m (Nat.le_refl _)
    unfold prun xcall
    simp only [hf, hc, hname, Bool.false_eq_true, if_false]
    rw [if_neg (by omega)]
    simp only [hpn, h1']
    rw [if_pos he]
    simp only [hl, hsz]
    split at hr
    · rename_i hc'
      rw [if_pos hc']
      exact hr
    · rename_i hc'
      rw [if_neg hc']
      simp only
      rw [hard_log] at hr ⊢
      exact hr
  cases e with
  | exit id => cases h3
  | normal =>
    simp only at h3
    rw [← xresults_congr h2] at h3
    split at h3
    · rename_i l' hl; exact run (.inl rfl) l' hl h3
    · cases h3
  | ret =>
    simp only at h3
    rw [← xresults_congr h2] at h3
    split at h3
    · rename_i l' hl; exact run (.inr rfl) l' hl h3
    · cases h3

/-! ### loops -/
noncomputable def mkT (rows : Nat) (l : List (Nat × XV)) : Tmps := l.foldl (fun T p => tset T p.1 p.2) (deadT rows)

/-- what a round comes to: the next head, or the end -/
noncomputable def kround (lv : Lives) (c : Code) (e : XExit) (T : Tmps) (S : XS) : Option ((Tmps × XS) ⊕ (XExit × Tmps × XS)) :=
  match headPr lv 0 c T S with
  | none => none
  | some (T1, S1) => match e with
    | .normal => some (.inl (T1, S1))
    | .exit id => some (.inr (.exit id, T1, S1))
    | .ret => some (.inr (.ret, T1, S1))

/-- rounds, as many as there are -/
def rounds {X R : Type} (step : X → Option (X ⊕ R)) : Nat → X → Option R
  | 0, _ => none
  | n + 1, x => match step x with
    | some (.inl x') => rounds step n x'
    | some (.inr r) => some r
    | none => none

theorem loop_runs {prim : XPrim} {lv : Lives} {N fuel : Nat} {X : Type} {K : X → KOr ((Tmps × XS) ⊕ (XExit × Tmps × XS))} (hf : ∀ x n, N ≤ n → FnOK (xcall P prim n) (K x)) {c : Code}
    (hlp : ∀ x c', c' ∈ loopsIn c → ∀ g, (K x).lp (headId c') = some g → LpOK P prim lv c' g) {H : X → Tmps × XS} {step : X → Option (X ⊕ (XExit × Tmps × XS))}
    (hs : ∀ x a, step x = some a → kcode P (xcall P prim N) (K x) lv fuel 0 c (H x).1 (H x).2 (kround lv c) = some (match a with | .inl x' => .inl (H x') | .inr r => .inr r)) :
    ∀ (k : Nat) (x : X) (T : Tmps) (r : XExit × Tmps × XS), Teq T (H x).1 → rounds step k x = some r → ∃ m T1, Teq T1 r.2.1 ∧ ∀ n j, m ≤ n → k ≤ j → loopC (headPr lv 0 c) (xcode P (xcall P prim n) lv n 0 c) j T (H x).2 = some (r.1, T1, r.2.2)
  | 0, x, T, r, hT, h => by cases h
  | k + 1, x, T, r, hT, h => by
    simp only [rounds] at h
    cases hst : step x with
    | none => rw [hst] at h; cases h
    | some a =>
      rw [hst] at h
      obtain ⟨m, e, T1, T1', S1, h1, h2, h3⟩ := kcode_sound (hf x) c T (H x).1 (H x).2 _ _ (hlp x) hT (hs x a hst)
      have body : ∀ {n : Nat}, m ≤ n → xcode P (xcall P prim n) lv n 0 c T (H x).2 = some (e, T1, S1) := fun hn => h1 _ hn
      unfold kround at h3
      split at h3
      case h_1 => cases h3
      rename_i T2' S2 hp
      obtain ⟨T2, hp2, hT2⟩ := head_congr h2 hp
      have split_ : ∀ (j n : Nat), m ≤ n → loopC (headPr lv 0 c) (xcode P (xcall P prim n) lv n 0 c) (j + 1) T (H x).2 = (match e with | .normal => loopC (headPr lv 0 c) (xcode P (xcall P prim n) lv n 0 c) j T2 S2 | e => some (e, T2, S2)) := fun j n hn => by
        simp only [loopC, body hn]
        cases e <;> simp [hp2]
      cases a with
      | inr r' =>
        simp only [Option.some.injEq] at h
        subst h
        cases e with
        | normal => simp at h3
        | exit id =>
          simp only [Option.some.injEq, Sum.inr.injEq] at h3
          subst h3
          refine ⟨m, T2, hT2, fun n j hn hj => ?_⟩
          obtain ⟨j', rfl⟩ : ∃ j', j = j' + 1 := ⟨j - 1, by omega⟩
          exact split_ j' n hn
        | ret =>
          simp only [Option.some.injEq, Sum.inr.injEq] at h3
          subst h3
          refine ⟨m, T2, hT2, fun n j hn hj => ?_⟩
          obtain ⟨j', rfl⟩ : ∃ j', j = j' + 1 := ⟨j - 1, by omega⟩
          exact split_ j' n hn
      | inl x' =>
        simp only at h
        cases e with
        | exit id => simp at h3
        | ret => simp at h3
        | normal =>
          simp only [Option.some.injEq, Sum.inl.injEq] at h3
          have e1 : T2' = (H x').1 := by rw [← h3]
          have e2 : S2 = (H x').2 := by rw [← h3]
          subst e1 e2
          obtain ⟨m2, T3, q3, q4⟩ := loop_runs hf hlp hs k x' T2 r hT2 h
          refine ⟨max m m2, T3, q3, fun n j hn hj => ?_⟩
          obtain ⟨j', rfl⟩ : ∃ j', j = j' + 1 := ⟨j - 1, by omega⟩
          rw [split_ j' n (by omega)]
          exact q4 n j' (by omega) (by omega)

/-- is a state the one that is awaited? -/
noncomputable def at_ {A : Type} (T : Tmps) (S : XS) (T' : Tmps) (S' : XS) (x : Option A) : Option A := open Classical in if T = T' ∧ S = S' then x else none
theorem at_self {A : Type} (T : Tmps) (S : XS) (x : Option A) : at_ T S T S x = x := by unfold at_; rw [if_pos ⟨rfl, rfl⟩]

/-- a loop that is known from where it begins -/
theorem lp_at {A : Type} {prim : XPrim} {lv : Lives} {N fuel : Nat} {X : Type} {K : X → KOr ((Tmps × XS) ⊕ (XExit × Tmps × XS))} (hf : ∀ x n, N ≤ n → FnOK (xcall P prim n) (K x)) {c : Code}
    (hlp : ∀ x c', c' ∈ loopsIn c → ∀ g, (K x).lp (headId c') = some g → LpOK P prim lv c' g) {H : X → Tmps × XS} {step : X → Option (X ⊕ (XExit × Tmps × XS))}
    (hs : ∀ x a, step x = some a → kcode P (xcall P prim N) (K x) lv fuel 0 c (H x).1 (H x).2 (kround lv c) = some (match a with | .inl x' => .inl (H x') | .inr r => .inr r))
    {x : X} {n : Nat} {res : XExit × Tmps × XS} (hr : rounds step n x = some res) {G : (XExit → Tmps → XS → Option A) → Option A} (hG : ∀ k (r : A), G k = some r → k res.1 res.2.1 res.2.2 = some r) :
    LpOK P prim lv c (fun T S k => at_ T S (H x).1 (H x).2 (G k)) := by
  intro T0 T0' S0 k r hT h
  unfold at_ at h
  simp only at h
  split at h
  case isFalse => cases h
  rename_i he
  obtain ⟨rfl, rfl⟩ := he
  obtain ⟨m, T1, q1, q2⟩ := loop_runs hf hlp hs n x T0 res hT hr
  exact ⟨max m n, res.1, T1, res.2.1, res.2.2, fun j hj => q2 j j (by omega) (by omega), q1, hG k r h⟩

/-! ### a loop that counts, and looks for what is amiss -/
def firstBad (bad : Nat → Bool) (n k : Nat) : Option Nat := (List.range' k (n - k)).find? bad

theorem scan {R : Type} {n : Nat} {bad : Nat → Bool} {step : Int → Option (Int ⊕ R)} {rb : Nat → R} {re : R} (h1 : ∀ k : Nat, k < n → step k = some (bif bad k then .inr (rb k) else .inl ((k : Int) + 1))) (h2 : step n = some (.inr re)) :
    ∀ (d k : Nat), k + d = n → rounds step (d + 1) k = some (match firstBad bad n k with | some j => rb j | none => re)
  | 0, k, hk => by
    have : k = n := by omega
    subst this
    simp [rounds, h2, firstBad]
  | d + 1, k, hk => by
    rw [rounds, h1 k (by omega)]
    have hr : firstBad bad n k = if bad k then some k else firstBad bad n (k + 1) := by
      unfold firstBad
      rw [show n - k = (n - (k + 1)) + 1 by omega, List.range'_succ, List.find?_cons]
      cases bad k <;> rfl
    cases hb : bad k with
    | true => simp [hr, hb]
    | false =>
      have := scan h1 h2 d (k + 1) (by omega)
      simp only [hr, hb, cond_false, Bool.false_eq_true, if_false]
      exact this

theorem firstBad_none {bad : Nat → Bool} {n : Nat} : firstBad bad n 0 = none ↔ ∀ k, k < n → bad k = false := by
  unfold firstBad
  rw [List.find?_eq_none]
  simp only [List.mem_range', Nat.sub_zero]
  constructor
  · intro h k hk
    have := h k ⟨k, hk, by omega⟩
    simpa using this
  · rintro h x ⟨i, hi, rfl⟩
    have := h (0 + 1 * i) (by omega)
    rw [this]; decide

/-- what a loop that looks for what is amiss comes to -/
def scanned {R : Type} (bad : Nat → Bool) (n : Nat) (rb : Nat → R) (re : R) : R := match firstBad bad n 0 with
  | some j => rb j
  | none => re

theorem scan_loop {prim : XPrim} {lv : Lives} {N fuel : Nat} {K : KOr ((Tmps × XS) ⊕ (XExit × Tmps × XS))} (hf : ∀ n, N ≤ n → FnOK (xcall P prim n) K) {c : Code} (hlp : loopsIn c = []) {n : Nat} {bad : Nat → Bool} {H : Int → Tmps × XS}
    {rb : Nat → XExit × Tmps × XS} {re : XExit × Tmps × XS}
    (h1 : ∀ k : Nat, k < n → kcode P (xcall P prim N) K lv fuel 0 c (H k).1 (H k).2 (kround lv c) = some (bif bad k then .inr (rb k) else .inl (H ((k : Int) + 1))))
    (h2 : kcode P (xcall P prim N) K lv fuel 0 c (H n).1 (H n).2 (kround lv c) = some (.inr re)) {A : Type} {G : (XExit → Tmps → XS → Option A) → Option A}
    (hG : ∀ k (r : A), G k = some r → k (scanned bad n rb re).1 (scanned bad n rb re).2.1 (scanned bad n rb re).2.2 = some r) : LpOK P prim lv c (fun T S k => at_ T S (H 0).1 (H 0).2 (G k)) := by
  let step : Int → Option (Int ⊕ (XExit × Tmps × XS)) := fun x => match x with
    | .ofNat k => if k < n then some (bif bad k then .inr (rb k) else .inl ((k : Int) + 1)) else if k = n then some (.inr re) else none
    | _ => none
  have hs : ∀ (k : Nat), step k = if k < n then some (bif bad k then .inr (rb k) else .inl ((k : Int) + 1)) else if k = n then some (.inr re) else none := fun k => rfl
  refine lp_at (fuel := fuel) (K := fun _ => K) (fun _ => hf) (fun _ c' hc => by rw [hlp] at hc; cases hc) (step := step) (fun x a hx => ?_) (x := 0) (n := n + 1) (res := scanned bad n rb re) ?_ hG
  · cases x with
    | negSucc k => cases hx
    | ofNat k =>
      have hx' : step k = some a := hx
      rw [hs] at hx'
      split at hx'
      · rename_i hk
        injection hx' with hx'
        subst hx'
        have := h1 k hk
        refine this.trans ?_
        cases bad k <;> rfl
      · split at hx'
        · rename_i hk
          injection hx' with hx'
          subst hx'
          subst hk
          exact h2
        · cases hx'
  · have := scan (n := n) (bad := bad) (step := step) (rb := rb) (re := re) (fun k hk => by rw [hs, if_pos hk]) (by rw [hs, if_neg (Nat.lt_irrefl _), if_pos rfl]) n 0 (by omega)
    exact this

theorem scanned_eq {R : Type} {bad : Nat → Bool} {n : Nat} {rb : Nat → R} {re : R} : (scanned bad n rb re = re ∧ firstBad bad n 0 = none) ∨ ∃ j, scanned bad n rb re = rb j ∧ firstBad bad n 0 = some j := by
  unfold scanned
  cases firstBad bad n 0 with
  | none => exact .inl ⟨rfl, rfl⟩
  | some j => exact .inr ⟨j, rfl, rfl⟩

/-! ### reading rows of one kind -/
theorem rdB_map {A : Type} (l : List Bool) (o : Nat) (k : Bool → Option A) : rdB (l.map .bool) o k = match l[o]? with | some v => k v | none => none := by
  unfold rdB
  rw [List.getElem?_map]
  cases l[o]? <;> rfl
theorem rdI_map {A : Type} (kd : IntKind) (l : List Int) (o : Nat) (k : Int → Option A) : rdI kd (l.map (.int kd)) o k = match l[o]? with | some v => k v | none => none := by
  unfold rdI
  rw [List.getElem?_map]
  cases l[o]? with
  | none => rfl
  | some v => simp
theorem rdS_map {A : Type} (l : List (List UInt8)) (o : Nat) (k : List UInt8 → Option A) : rdS (l.map .str) o k = match l[o]? with | some v => k v | none => none := by
  unfold rdS
  rw [List.getElem?_map]
  cases l[o]? <;> rfl
theorem within_nat {k n : Nat} (h : k < n) : within (k : Int) n = true := within_iff.2 ⟨by omega, by omega⟩
theorem gd_true {A : Type} (k : Option A) : gd true k = k := rfl

end
end Go.XM
