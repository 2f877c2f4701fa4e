/- A plain machine beside the model, and that what it tells the model does: part Xzo. Conditions: those of each theorem below. -/
import Derived.Test.YtlaamopkgopleaaXzn
namespace Go.XM
set_option linter.unusedVariables false
set_option linter.unusedSimpArgs false
set_option linter.unusedVariables false

/-! ### functions that are known by a law in plain Lean: of what an encoding gives, the answer -/
section
variable {X Y : Type}

noncomputable def okC (enc : X → List XV) (good : X → Prop) (args : List XV) : Bool := open Classical in decide (∃ x, enc x = args ∧ good x)
noncomputable def valC (enc : X → List XV) (good : X → Prop) (ans : X → Y) (y0 : Y) (args : List XV) : Y := open Classical in if h : ∃ x, enc x = args ∧ good x then ans (Classical.choose h) else y0

structure Known where
  id : Nat
  ar : Nat
  ok : List XV → Bool
  val : List XV → XV

noncomputable def known (id ar : Nat) (enc : X → List XV) (good : X → Prop) (ans : X → Y) (y0 : Y) (shape : Y → XV) : Known := ⟨id, ar, okC enc good, fun args => shape (valC enc good ans y0 args)⟩
def Known.F (e : Known) (args : List XV) : Option XV := cond (e.ok args) (some (e.val args)) none
def Known.e (e : Known) : FnE := ⟨e.id, e.ar, e.F⟩

theorem okC_of {enc : X → List XV} {good : X → Prop} {x : X} (h : good x) : okC enc good (enc x) = true := by
  unfold okC
  exact @decide_eq_true _ (Classical.propDecidable _) ⟨x, rfl, h⟩
theorem valC_of {enc : X → List XV} (hinj : ∀ x y, enc x = enc y → x = y) {good : X → Prop} {ans : X → Y} {y0 : Y} {x : X} (h : good x) : valC enc good ans y0 (enc x) = ans x := by
  unfold valC
  have hex : ∃ x', enc x' = enc x ∧ good x' := ⟨x, rfl, h⟩
  rw [dif_pos hex]
  rw [hinj _ _ (Classical.choose_spec hex).1]
theorem known_inv {id ar : Nat} {enc : X → List XV} {good : X → Prop} {ans : X → Y} {y0 : Y} {shape : Y → XV} (hinj : ∀ x y, enc x = enc y → x = y) {args : List XV} {v : XV} (h : (known id ar enc good ans y0 shape).F args = some v) :
    ∃ x, args = enc x ∧ good x ∧ v = shape (ans x) := by
  unfold Known.F known at h
  simp only at h
  cases hok : okC enc good args with
  | false => rw [hok] at h; cases h
  | true =>
    rw [hok] at h
    simp only [cond_true, Option.some.injEq] at h
    have hex : ∃ x, enc x = args ∧ good x := by
      unfold okC at hok
      exact @of_decide_eq_true _ (Classical.propDecidable _) hok
    obtain ⟨x, rfl, hg⟩ := hex
    refine ⟨x, rfl, hg, ?_⟩
    rw [valC_of hinj hg] at h
    exact h.symm
end

def findK (g : Nat) : List Known → Option Known
  | [] => none
  | e :: r => if Nat.beq e.id g then some e else findK g r

noncomputable def kOfK {A : Type} (l : List Known) (lp : Nat → Option (Tmps → XS → (XExit → Tmps → XS → Option A) → Option A)) : KOr A := ⟨fun g => match findK g l with
  | some e => some fun args k => gd (Nat.beq args.length e.ar && e.ok args) (k (e.val args))
  | none => none, lp⟩

theorem findK_E (g : Nat) : ∀ l : List Known, findE g (l.map Known.e) = (findK g l).map Known.e
  | [] => rfl
  | e :: r => by
    simp only [List.map_cons, findE, findK]
    have : e.e.id = e.id := rfl
    rw [this]
    split
    · rfl
    · exact findK_E g r

def primK (l : List Known) (live : FuncId → Nat → Option (List Nat)) : XPrim := primOf (l.map Known.e) live

section
variable {P : Program}

/-- the known functions as the machine has them, told from their end -/
theorem primK_fn {A : Type} {l : List Known} {live : FuncId → Nat → Option (List Nat)} {lp : Nat → Option (Tmps → XS → (XExit → Tmps → XS → Option A) → Option A)} (hfit : fitB P (l.map Known.e) = true) {n : Nat} (hn : 1 ≤ n) : FnOK (xcall P (primK l live) n) (kOfK l lp) := by
  intro g F hF
  unfold kOfK at hF
  simp only at hF
  split at hF
  case h_2 => cases hF
  rename_i e he
  injection hF with hF
  subst hF
  have hfe : findE g (l.map Known.e) = some e.e := by rw [findK_E, he]; rfl
  have := primOf_fn (A := A) (P := P) (l := l.map Known.e) (live := live) (lp := lp) hfit hn g (fun args k => match e.e.go args with | some v => k v | none => none) (by
    unfold kOf primOf
    simp only [hfe]
    rfl)
  obtain ⟨F0, h1, h2, h3⟩ := this
  refine ⟨F0, fun args k r h => h1 args k r ?_, h2, h3⟩
  replace h : cond (Nat.beq args.length e.ar && e.ok args) (k (e.val args)) none = some r := h
  cases hc : (Nat.beq args.length e.ar && e.ok args) with
  | false => rw [hc] at h; cases h
  | true =>
    rw [hc] at h
    simp only [cond_true] at h
    simp only [Bool.and_eq_true] at hc
    have : e.e.go args = some (e.val args) := by
      unfold FnE.go
      rw [if_pos (by exact hc.1)]
      show e.F args = _
      unfold Known.F
      rw [hc.2]; rfl
    simp only [this]
    exact h

theorem fn_run {l : List FnE} {live : FuncId → Nat → Option (List Nat)} {f : FuncId} {fn : Func} {c : Code} (hf : P.funcs[f]? = some fn) (hc : fn.body = some c)
    (hname : (fn.name == "runtime.NumGoroutine") = false) (hnot : findE f l = none) {t : Bool} {N fuel : Nat} {args : List XV} {v : XV} (hlen : args.length ≤ fn.ntmps) {K : KOr XV}
    (hK : ∀ n, N ≤ n → FnOK (xcall P (primOf l live) n) K) (hlp : ∀ c', c' ∈ loopsIn c → ∀ g, K.lp (headId c') = some g → LpOK P (primOf l live) (livesOf fn (live f)) c' g)
    (hk : kcode P (xcall P (primOf l live) N) K (livesOf fn (live f)) fuel 0 c (argsT 0 args []) XS.none (kfin P fn t) = some v) : ∃ n t, prun P (primOf l live) n f t args = some v := by
  obtain ⟨m, e, T1, T1', S1, h1, h2, h3⟩ := kcode_sound hK c (argsT 0 args []) (argsT 0 args []) XS.none _ v hlp (Teq.refl _) hk
  refine ⟨m + 1, t, ?_⟩
  have hpn : (primOf l live).fn f = none := by unfold primOf; simp only [hnot]
  unfold kfin at h3
  have hS : ({ XS.none with log := [] } : XS) = XS.none := rfl
  have hsz : XS.none.size = 0 := rfl
  have run : ∀ (he : e = .normal ∨ e = .ret) l', xresults P T1 S1 fn.results.toList = some l' → (if S1.log.isEmpty && (oneOr l').under 0 then hard t XS.none 50 (oneOr l') else hard t { S1 with log := [] } 50 (oneOr l')) = some v → prun P (primOf l live) (m + 1) f t args = some v := fun he l' hl hr => by
    have h1' : xcode P (xcall P (primOf l live) m) (livesOf fn ((primOf l live).live f)) m XS.none.size c (argsT 0 args []) { XS.none with log := [] } = some (e, T1, S1) := h1 m (Nat.le_refl _)
    unfold prun xcall
    simp only [hf, hc, hname, Bool.false_eq_true, if_false]
    rw [if_neg (by omega)]
    simp only [hpn, h1']
    rw [if_pos he]
    simp only [hl, hsz]
    split at hr
    · rename_i hc'
      rw [if_pos hc']
      exact hr
    · rename_i hc'
      rw [if_neg hc']
      simp only
      rw [hard_log] at hr ⊢
      exact hr
  cases e with
  | exit id => cases h3
  | normal =>
    simp only at h3
    rw [← xresults_congr h2] at h3
    split at h3
    · rename_i l' hl; exact run (.inl rfl) l' hl h3
    · cases h3
  | ret =>
    simp only at h3
    rw [← xresults_congr h2] at h3
    split at h3
    · rename_i l' hl; exact run (.inr rfl) l' hl h3
    · cases h3

/-- a function of the program is as a law in plain Lean tells -/
theorem known_pure {X Y : Type} (hm : P.follows .mixedOrders = true) (hg : goodAll P = true) {l : List Known} {live : FuncId → Nat → Option (List Nat)} (hp : ∀ e, e ∈ l → Pure P e.id e.F) (hfit : fitB P (l.map Known.e) = true) {f : FuncId} {fn : Func} {c : Code} (hf : P.funcs[f]? = some fn) (hc : fn.body = some c)
    (hname : (fn.name == "runtime.NumGoroutine") = false) (hnot : findK f l = none) {t : Bool} {N fuel ar : Nat} (hN : 1 ≤ N) (har : ar ≤ fn.ntmps) {enc : X → List XV} {good : X → Prop} {ans : X → Y} {y0 : Y} {shape : Y → XV}
    (hinj : ∀ x y, enc x = enc y → x = y) (hlen : ∀ x, (enc x).length = ar) (h : ∀ x, good x → ∃ lp : Nat → Option (Tmps → XS → (XExit → Tmps → XS → Option XV) → Option XV), (∀ c', c' ∈ loopsIn c → ∀ g, lp (headId c') = some g → LpOK P (primK l live) (livesOf fn (live f)) c' g) ∧
      kcode P (xcall P (primK l live) N) (kOfK l lp) (livesOf fn (live f)) fuel 0 c (argsT 0 (enc x) []) XS.none (kfin P fn t) = some (shape (ans x))) : Pure P f (known f ar enc good ans y0 shape).F := by
  refine pure_of hm hg (prim := primK l live) (primOf_ok (fun e he => ?_)) fun args v hv => ?_
  · obtain ⟨e', h1, rfl⟩ := List.mem_map.1 he
    exact hp e' h1
  · obtain ⟨x, rfl, hx, rfl⟩ := known_inv hinj hv
    obtain ⟨lp, hlp, hk⟩ := h x hx
    exact fn_run (l := l.map Known.e) (live := live) (K := kOfK l lp) hf hc hname (by rw [findK_E, hnot]; rfl) (by rw [hlen]; exact har) (fun n hn => primK_fn hfit (Nat.le_trans hN hn)) hlp hk
end

/-! ### a loop that looks for what is amiss, with its two ends -/
noncomputable def ends {A : Type} (H : Int → Tmps × XS) (eb ee : XExit) (bad : Bool) (j : Int) (n : Nat) (k : XExit → Tmps → XS → Option A) : Option A := cond bad (k eb (H j).1 (H j).2) (k ee (H n).1 (H n).2)

/-- is something amiss, and where -/
def amiss (bad : Nat → Bool) (n : Nat) : Bool := (firstBad bad n 0).isSome
def amissAt (bad : Nat → Bool) (n : Nat) : Int := ((firstBad bad n 0).getD 0 : Nat)

theorem amiss_false {bad : Nat → Bool} {n : Nat} : amiss bad n = false ↔ ∀ k, k < n → bad k = false := by
  unfold amiss
  rw [← firstBad_none]
  cases firstBad bad n 0 <;> simp

section
variable {P : Program}
theorem scan_ends {prim : XPrim} {lv : Lives} {N fuel : Nat} {K : KOr ((Tmps × XS) ⊕ (XExit × Tmps × XS))} (hf : ∀ n, N ≤ n → FnOK (xcall P prim n) K) {c : Code} (hlp : loopsIn c = []) {n : Nat} {bad : Nat → Bool} {H : Int → Tmps × XS} {eb ee : XExit}
    (h1 : ∀ k : Nat, k < n → kcode P (xcall P prim N) K lv fuel 0 c (H k).1 (H k).2 (kround lv c) = bif bad k then some (.inr (eb, H k)) else some (.inl (H (IntKind.i64.wrap ((k : Int) + 1)))))
    (h2 : kcode P (xcall P prim N) K lv fuel 0 c (H n).1 (H n).2 (kround lv c) = some (.inr (ee, H n))) (hn : n ≤ maxLen) {A : Type} :
    LpOK (A := A) P prim lv c (fun T S k => at_ T S (H 0).1 (H 0).2 (ends H eb ee (amiss bad n) (amissAt bad n) n k)) := by
  refine scan_loop (fuel := fuel) hf hlp (n := n) (bad := bad) (H := H) (rb := fun j => (eb, H j)) (re := (ee, H n)) (fun k hk => ?_) h2 (fun k r h => ?_)
  · rw [h1 k hk]
    have hw : IntKind.i64.wrap ((k : Int) + 1) = (k : Int) + 1 := by
      have : maxLen = 9223372036854775807 := by decide
      exact IntWalk.i64_in _ ⟨by omega, by omega⟩
    rw [hw]
    cases bad k <;> rfl
  · unfold ends amiss amissAt at h
    unfold scanned
    cases hb : firstBad bad n 0 with
    | none => rw [hb] at h; exact h
    | some j => rw [hb] at h; exact h
end
end Go.XM
