/-
  Texts without wrong runes: the order of their runes is that of their bytes. Plain Lean. No condition.
-/
import Derived.Test.YtlahloglfohdgaaDoorXF
import Derived.Test.YtlahloglfohdgaaDoorRows
import Derived.Shelf.Unicode.DecodeAny
import Derived.KernelRfl
namespace Go.XM.Glyph
open Go.XM
set_option linter.unusedVariables false
set_option linter.unusedSimpArgs false

theorem less_lt {x y : UInt8} {s t : List UInt8} (h : x.toNat < y.toNat) : Op.bytesLess (x :: s) (y :: t) = true := by
  have : x < y := UInt8.lt_iff_toNat_lt.2 h
  simp [Op.bytesLess, this]
theorem less_eq (x : UInt8) (s t : List UInt8) : Op.bytesLess (x :: s) (x :: t) = Op.bytesLess s t := by
  have : ¬ x < x := fun h => Nat.lt_irrefl _ (UInt8.lt_iff_toNat_lt.1 h)
  simp [Op.bytesLess]
theorem less_app (p s t : List UInt8) : Op.bytesLess (p ++ s) (p ++ t) = Op.bytesLess s t := by
  induction p with
  | nil => rfl
  | cons x p ih => rw [List.cons_append, List.cons_append, less_eq, ih]
theorem less_asymm : ∀ s t : List UInt8, Op.bytesLess s t = true → Op.bytesLess t s = false ∧ s ≠ t
  | [], [], h => by cases h
  | [], _ :: _, h => ⟨rfl, by simp⟩
  | _ :: _, [], h => by cases h
  | x :: s, y :: t, h => by
    by_cases hxy : x = y
    · subst hxy
      rw [less_eq] at h ⊢
      obtain ⟨h1, h2⟩ := less_asymm s t h
      exact ⟨h1, by simpa using h2⟩
    · have hne : ¬ (x == y) = true := by simpa using hxy
      simp only [Op.bytesLess, Bool.or_eq_true, Bool.and_eq_true, decide_eq_true_eq] at h
      have hlt := (h.resolve_right fun q => hne q.1)
      have hn := UInt8.lt_iff_toNat_lt.1 hlt
      refine ⟨?_, by simpa using fun q _ => hxy q⟩
      have h1 : ¬ y < x := fun q => by have := UInt8.lt_iff_toNat_lt.1 q; omega
      have h2 : (y == x) = false := by simpa using fun q => hxy q.symm
      simp [Op.bytesLess, h1, h2]

/-- a text begins with a rune that is not wrong: its value, its bytes -/
inductive RF : List UInt8 → Nat → Nat → Prop
  | one (b0 : UInt8) (s : List UInt8) : b0.toNat < 128 → RF (b0 :: s) b0.toNat 1
  | two (b0 c1 : UInt8) (s : List UInt8) : b0.toNat / 32 = 6 → c1.toNat / 64 = 2 → 128 ≤ (b0.toNat % 32) * 64 + c1.toNat % 64 → RF (b0 :: c1 :: s) ((b0.toNat % 32) * 64 + c1.toNat % 64) 2
  | three (b0 c1 c2 : UInt8) (s : List UInt8) : b0.toNat / 16 = 14 → c1.toNat / 64 = 2 → c2.toNat / 64 = 2 → 2048 ≤ (b0.toNat % 16) * 4096 + (c1.toNat % 64) * 64 + c2.toNat % 64 → RF (b0 :: c1 :: c2 :: s) ((b0.toNat % 16) * 4096 + (c1.toNat % 64) * 64 + c2.toNat % 64) 3
  | four (b0 c1 c2 c3 : UInt8) (s : List UInt8) : b0.toNat / 8 = 30 → c1.toNat / 64 = 2 → c2.toNat / 64 = 2 → c3.toNat / 64 = 2 → 65536 ≤ (b0.toNat % 8) * 262144 + (c1.toNat % 64) * 4096 + (c2.toNat % 64) * 64 + c3.toNat % 64 →
      RF (b0 :: c1 :: c2 :: c3 :: s) ((b0.toNat % 8) * 262144 + (c1.toNat % 64) * 4096 + (c2.toNat % 64) * 64 + c3.toNat % 64) 4

theorem rf_cases (a : UInt8) (r : List UInt8) : decL (a :: r) = (65533, 1) ∨ RF (a :: r) (decL (a :: r)).1 (decL (a :: r)).2 := by
  unfold decL
  simp only [Bool.and_eq_true, decide_eq_true_eq, beq_iff_eq]
  split
  · rename_i h
    exact .inr (.one a r h)
  · split
    · rename_i h
      obtain ⟨h1, h2, h3⟩ := h
      split
      · rename_i h4
        cases r with
        | nil => simp at h2
        | cons c1 r => exact .inr (.two a c1 r h1 h3 h4)
      · exact .inl rfl
    · split
      · rename_i h
        obtain ⟨⟨h1, h2, h3⟩, h4, h5⟩ := h
        split
        · rename_i h6
          cases r with
          | nil => simp at h2
          | cons c1 r => cases r with
            | nil => simp at h4
            | cons c2 r =>
              simp only [List.getElem?_cons_zero, List.getElem?_cons_succ, Option.getD_some] at h3 h5 h6 ⊢
              exact .inr (.three a c1 c2 r h1 h3 h5 h6.1)
        · exact .inl rfl
      · split
        · rename_i h
          obtain ⟨⟨⟨h1, h2, h3⟩, h4, h5⟩, h6, h7⟩ := h
          split
          · rename_i h8
            cases r with
            | nil => simp at h2
            | cons c1 r => cases r with
              | nil => simp at h4
              | cons c2 r => cases r with
                | nil => simp at h6
                | cons c3 r =>
                  simp only [List.getElem?_cons_zero, List.getElem?_cons_succ, Option.getD_some] at h3 h5 h7 h8 ⊢
                  exact .inr (.four a c1 c2 c3 r h1 h3 h5 h7 h8.1)
          · exact .inl rfl
        · exact .inl rfl

theorem rf_width {s : List UInt8} {r n : Nat} (h : RF s r n) : 1 ≤ n ∧ n ≤ s.length ∧ n ≤ 4 := by
  cases h <;> simp
theorem dec_width {s : List UInt8} (h : s ≠ []) : 1 ≤ (decL s).2 ∧ (decL s).2 ≤ s.length := by
  cases s with
  | nil => exact absurd rfl h
  | cons a r =>
    rcases rf_cases a r with q | q
    · rw [q]; simp
    · have := rf_width q; omega
theorem toNat_eq {x y : UInt8} (h : x.toNat = y.toNat) : x = y := UInt8.toNat_inj.1 h

theorem rf_less {s t : List UInt8} {r n r' n' : Nat} (h : RF s r n) (k : RF t r' n') : (r < r' → Op.bytesLess s t = true) ∧ (r = r' → n = n' ∧ s.take n = t.take n) := by
  cases h with
  | one b0 s h1 => cases k with
    | one b0' t k1 =>
      refine ⟨fun q => less_lt q, fun q => ⟨rfl, ?_⟩⟩
      rw [toNat_eq q]; rfl
    | two b0' c1' t k1 k2 k3 => exact ⟨fun q => less_lt (by omega), fun q => by omega⟩
    | three b0' c1' c2' t k1 k2 k3 k4 => exact ⟨fun q => less_lt (by omega), fun q => by omega⟩
    | four b0' c1' c2' c3' t k1 k2 k3 k4 k5 => exact ⟨fun q => less_lt (by omega), fun q => by omega⟩
  | two b0 c1 s h1 h2 h3 => cases k with
    | one b0' t k1 => exact ⟨fun q => by omega, fun q => by omega⟩
    | two b0' c1' t k1 k2 k3 =>
      refine ⟨fun q => ?_, fun q => ?_⟩
      · by_cases e : b0.toNat < b0'.toNat
        · exact less_lt e
        · have e0 : b0 = b0' := toNat_eq (by omega)
          subst e0
          rw [less_eq]
          exact less_lt (by omega)
      · rw [toNat_eq (show b0.toNat = b0'.toNat by omega), toNat_eq (show c1.toNat = c1'.toNat by omega)]
        exact ⟨rfl, rfl⟩
    | three b0' c1' c2' t k1 k2 k3 k4 => exact ⟨fun q => less_lt (by omega), fun q => by omega⟩
    | four b0' c1' c2' c3' t k1 k2 k3 k4 k5 => exact ⟨fun q => less_lt (by omega), fun q => by omega⟩
  | three b0 c1 c2 s h1 h2 h3 h4 => cases k with
    | one b0' t k1 => exact ⟨fun q => by omega, fun q => by omega⟩
    | two b0' c1' t k1 k2 k3 => exact ⟨fun q => by omega, fun q => by omega⟩
    | three b0' c1' c2' t k1 k2 k3 k4 =>
      refine ⟨fun q => ?_, fun q => ?_⟩
      · by_cases e : b0.toNat < b0'.toNat
        · exact less_lt e
        · have e0 : b0 = b0' := toNat_eq (by omega)
          subst e0
          rw [less_eq]
          by_cases e : c1.toNat < c1'.toNat
          · exact less_lt e
          · have e0 : c1 = c1' := toNat_eq (by omega)
            subst e0
            rw [less_eq]
            exact less_lt (by omega)
      · rw [toNat_eq (show b0.toNat = b0'.toNat by omega), toNat_eq (show c1.toNat = c1'.toNat by omega), toNat_eq (show c2.toNat = c2'.toNat by omega)]
        exact ⟨rfl, rfl⟩
    | four b0' c1' c2' c3' t k1 k2 k3 k4 k5 => exact ⟨fun q => less_lt (by omega), fun q => by omega⟩
  | four b0 c1 c2 c3 s h1 h2 h3 h4 h5 => cases k with
    | one b0' t k1 => exact ⟨fun q => by omega, fun q => by omega⟩
    | two b0' c1' t k1 k2 k3 => exact ⟨fun q => by omega, fun q => by omega⟩
    | three b0' c1' c2' t k1 k2 k3 k4 => exact ⟨fun q => by omega, fun q => by omega⟩
    | four b0' c1' c2' c3' t k1 k2 k3 k4 k5 =>
      refine ⟨fun q => ?_, fun q => ?_⟩
      · by_cases e : b0.toNat < b0'.toNat
        · exact less_lt e
        · have e0 : b0 = b0' := toNat_eq (by omega)
          subst e0
          rw [less_eq]
          by_cases e : c1.toNat < c1'.toNat
          · exact less_lt e
          · have e0 : c1 = c1' := toNat_eq (by omega)
            subst e0
            rw [less_eq]
            by_cases e : c2.toNat < c2'.toNat
            · exact less_lt e
            · have e0 : c2 = c2' := toNat_eq (by omega)
              subst e0
              rw [less_eq]
              exact less_lt (by omega)
      · rw [toNat_eq (show b0.toNat = b0'.toNat by omega), toNat_eq (show c1.toNat = c1'.toNat by omega), toNat_eq (show c2.toNat = c2'.toNat by omega), toNat_eq (show c3.toNat = c3'.toNat by omega)]
        exact ⟨rfl, rfl⟩

/-! ### runes of a text -/
structure Rn where
  r : Nat
  n : Nat
  bad : Bool
def rune (s : List UInt8) : Rn := ⟨(decL s).1, (decL s).2, Nat.beq (decL s).1 65533 && Nat.beq (decL s).2 1⟩
def runesR : Nat → List UInt8 → List Rn
  | 0, _ => []
  | n + 1, s => match s with
    | [] => []
    | x :: r => rune (x :: r) :: runesR n ((x :: r).drop (decL (x :: r)).2)
def R (s : List UInt8) : List Rn := runesR s.length s
theorem runesR_fuel : ∀ (n m : Nat) (s : List UInt8), s.length ≤ n → s.length ≤ m → runesR n s = runesR m s
  | 0, m, [], _, _ => by cases m <;> rfl
  | n + 1, m, [], _, _ => by cases m <;> rfl
  | 0, m, x :: r, h, _ => by simp at h
  | n + 1, 0, x :: r, _, h => by simp at h
  | n + 1, m + 1, x :: r, h1, h2 => by
    have hw := dec_width (s := x :: r) (by simp)
    simp only [runesR]
    rw [runesR_fuel n m _ (by rw [List.length_drop]; omega) (by rw [List.length_drop]; omega)]
theorem R_nil : R [] = [] := rfl
theorem R_cons {s : List UInt8} (h : s ≠ []) : R s = rune s :: R (s.drop (decL s).2) := by
  cases s with
  | nil => exact absurd rfl h
  | cons x r =>
    have hw := dec_width (s := x :: r) (by simp)
    show rune (x :: r) :: runesR r.length ((x :: r).drop (decL (x :: r)).2) = _
    rw [runesR_fuel r.length ((x :: r).drop (decL (x :: r)).2).length _ (by rw [List.length_drop]; simp only [List.length_cons]; omega) (Nat.le_refl _)]
    rfl
theorem R_len : ∀ (n : Nat) (s : List UInt8), s.length ≤ n → (R s).length ≤ s.length
  | 0, s, h => by
    have : s = [] := List.eq_nil_of_length_eq_zero (by omega)
    subst this; exact Nat.le_refl _
  | n + 1, s, h => by
    by_cases hs : s = []
    · subst hs; exact Nat.le_refl _
    · have hw := dec_width hs
      rw [R_cons hs, List.length_cons]
      have := R_len n (s.drop (decL s).2) (by rw [List.length_drop]; omega)
      rw [List.length_drop] at this
      omega
theorem runesL_R : ∀ (n : Nat) (s : List UInt8), s.length ≤ n → runesL n s = (R s).map (·.r)
  | 0, s, h => by
    have : s = [] := List.eq_nil_of_length_eq_zero (by omega)
    subst this; rfl
  | n + 1, s, h => by
    cases s with
    | nil => rfl
    | cons x r =>
      have hw := dec_width (s := x :: r) (by simp)
      rw [R_cons (by simp)]
      simp only [runesL, List.map_cons]
      rw [runesL_R n _ (by rw [List.length_drop]; omega)]
      rfl
def whole (s : List UInt8) : Bool := (R s).all fun x => !x.bad
theorem whole_cons {s : List UInt8} (h : s ≠ []) (hw : whole s = true) : RF s (decL s).1 (decL s).2 ∧ whole (s.drop (decL s).2) = true := by
  unfold whole at hw ⊢
  rw [R_cons h] at hw
  simp only [List.all_cons, Bool.and_eq_true] at hw
  refine ⟨?_, hw.2⟩
  cases s with
  | nil => exact absurd rfl h
  | cons a r =>
    rcases rf_cases a r with q | q
    · have := hw.1
      unfold rune at this
      rw [q] at this
      cases this
    · exact q

def cmpF (a b : Int) : Int := if a < b then -1 else if b < a then 1 else 0
def cmpL : List Nat → List Nat → Int
  | [], [] => 0
  | [], _ :: _ => -1
  | _ :: _, [] => 1
  | x :: xs, y :: ys => if cmpF x y ≠ 0 then cmpF x y else cmpL xs ys

theorem cmp_bytes : ∀ (n : Nat) (a b : List UInt8), a.length ≤ n → whole a = true → whole b = true → decide (cmpL ((R a).map (·.r)) ((R b).map (·.r)) < 0) = Op.bytesLess a b ∧ (cmpL ((R a).map (·.r)) ((R b).map (·.r)) = 0 ↔ a = b) := by
  intro n
  induction n with
  | zero =>
    intro a b h ha hb
    have : a = [] := List.eq_nil_of_length_eq_zero (by omega)
    subst this
    by_cases hb0 : b = []
    · subst hb0; decide
    · rw [R_cons hb0]
      cases b with
      | nil => exact absurd rfl hb0
      | cons y b => simp [R_nil, cmpL, Op.bytesLess]
  | succ n ih =>
    intro a b h ha hb
    by_cases ha0 : a = []
    · subst ha0
      by_cases hb0 : b = []
      · subst hb0; decide
      · rw [R_cons hb0]
        cases b with
        | nil => exact absurd rfl hb0
        | cons y b => simp [R_nil, cmpL, Op.bytesLess]
    · by_cases hb0 : b = []
      · subst hb0
        rw [R_cons ha0]
        cases a with
        | nil => exact absurd rfl ha0
        | cons x a => simp [R_nil, cmpL, Op.bytesLess]
      · obtain ⟨f1, w1⟩ := whole_cons ha0 ha
        obtain ⟨f2, w2⟩ := whole_cons hb0 hb
        obtain ⟨l1, l2⟩ := rf_less f1 f2
        obtain ⟨l3, _⟩ := rf_less f2 f1
        have hwa := dec_width ha0
        rw [R_cons ha0, R_cons hb0]
        simp only [List.map_cons, cmpL]
        have e1 : (rune a).r = (decL a).1 := rfl
        have e2 : (rune b).r = (decL b).1 := rfl
        rw [e1, e2]
        rcases Nat.lt_trichotomy (decL a).1 (decL b).1 with q | q | q
        · have hc : cmpF ((decL a).1 : Int) ((decL b).1 : Int) = -1 := if_pos (by omega)
          rw [hc, if_pos (by decide), l1 q]
          exact ⟨rfl, fun h => (by cases h), fun h => absurd h (less_asymm _ _ (l1 q)).2⟩
        · have hc : cmpF ((decL a).1 : Int) ((decL b).1 : Int) = 0 := by
            unfold cmpF; rw [if_neg (by omega), if_neg (by omega)]
          rw [hc, if_neg (by decide)]
          obtain ⟨hn, ht⟩ := l2 q
          have ea : a = a.take (decL a).2 ++ a.drop (decL a).2 := (List.take_append_drop _ _).symm
          have eb : b = a.take (decL a).2 ++ b.drop (decL b).2 := by rw [ht, hn, List.take_append_drop]
          obtain ⟨i1, i2⟩ := ih (a.drop (decL a).2) (b.drop (decL b).2) (by rw [List.length_drop]; omega) w1 w2
          have hless : Op.bytesLess a b = Op.bytesLess (a.drop (decL a).2) (b.drop (decL b).2) := by
            conv => lhs; rw [ea, eb]
            exact less_app _ _ _
          rw [hless]
          refine ⟨i1, i2.trans ?_⟩
          constructor
          · intro h; rw [ea, eb, h]
          · intro h
            have h' := h
            rw [ea] at h'
            conv at h' => rhs; rw [eb]
            exact List.append_cancel_left h'
        · have hc : cmpF ((decL a).1 : Int) ((decL b).1 : Int) = 1 := by
            unfold cmpF; rw [if_neg (by omega), if_pos (by omega)]
          rw [hc, if_pos (by decide)]
          have h1 := less_asymm _ _ (l3 q)
          rw [h1.1]
          exact ⟨rfl, fun h => (by cases h), fun h => absurd h.symm h1.2⟩
end Go.XM.Glyph

/-
  utf8.DecodeRuneInString, known by the shelf's contract. Condition: the tables of unicode/utf8 hold what the program's text lays (Laid).
-/
namespace Go.Proofs.YtlahloglfohdgaaDoor
open Go.XM Go.Shelf
set_option linter.unusedVariables false
set_option linter.unusedSimpArgs false

theorem good : Go.XM.goodAll Tryd.prog = true := by decide +kernel

def rho : Ren := { f := fun i => match i with | 197 => 14 | 260 => 19 | _ => 0, t := fun i => match i with | 105 => 40 | 119 => 45 | 138 => 48 | 139 => 49 | i => i, g := fun i => match i with | 3 => 0 | _ => 1 }
theorem lays : Lays.n197 Tryd.prog rho where
  mixed := Tryd.checked.mixed
  f197 := by kernel_rfl
  f260 := by kernel_rfl
  t0 := by kernel_rfl
  a0 := fun _ => by kernel_rfl
  z0 := fun _ => by kernel_rfl
  v0 := fun _ => by kernel_rfl
  t3 := by kernel_rfl
  a3 := fun _ => by kernel_rfl
  z3 := fun _ => by kernel_rfl
  v3 := fun _ => by kernel_rfl
  t4 := by kernel_rfl
  a4 := fun _ => by kernel_rfl
  z4 := fun _ => by kernel_rfl
  v4 := fun _ => by kernel_rfl
  t5 := by kernel_rfl
  a5 := fun _ => by kernel_rfl
  z5 := fun _ => by kernel_rfl
  v5 := fun _ => by kernel_rfl
  t9 := by kernel_rfl
  a9 := fun _ => by kernel_rfl
  z9 := fun _ => by kernel_rfl
  v9 := fun _ => by kernel_rfl
  t21 := by kernel_rfl
  a21 := fun _ => by kernel_rfl
  z21 := fun _ => by kernel_rfl
  v21 := fun _ => by kernel_rfl
  t46 := by kernel_rfl
  a46 := fun _ => by kernel_rfl
  z46 := fun _ => by kernel_rfl
  v46 := fun _ => by kernel_rfl
  t105 := by kernel_rfl
  a105 := fun _ => by kernel_rfl
  z105 := fun _ => by kernel_rfl
  v105 := fun _ => by kernel_rfl
  t119 := by kernel_rfl
  a119 := fun _ => by kernel_rfl
  z119 := fun _ => by kernel_rfl
  t138 := by kernel_rfl
  a138 := fun _ => by kernel_rfl
  z138 := fun _ => by kernel_rfl
  v138 := fun _ => by kernel_rfl
  t139 := by kernel_rfl
  a139 := fun _ => by kernel_rfl
  z139 := fun _ => by kernel_rfl
  v139 := fun _ => by kernel_rfl
  g3 := by kernel_rfl
  g4 := by kernel_rfl

/-- what Go's decoder hands back -/
def decG (s : List UInt8) : Nat × Nat := match s with
  | [] => (65533, 0)
  | s => decL s
def okStr : List XV → Bool
  | [.str _] => true
  | _ => false
def decV : List XV → XV
  | [.str s] => .tuple [.int .i32 (decG s).1, .int .i64 (decG s).2]
  | _ => .nilPtr
def kDec : Known := ⟨14, 1, okStr, decV⟩
theorem decodeGo_eq (s : List UInt8) : Lib.decodeGo ⟨s.toArray⟩ = decG s := by
  unfold Lib.decodeGo
  cases s with
  | nil => rfl
  | cons x s =>
    have : ¬ (ByteArray.mk (x :: s).toArray).size = 0 := by show ¬ (x :: s).toArray.size = 0; simp
    rw [if_neg this, decode_dec _ 0 (by simp)]
    rfl
theorem pDec : Pure Tryd.prog 14 kDec.F := by
  intro args v hF z w args' hok hzc hlaid hargs
  unfold Known.F kDec at hF
  simp only at hF
  cases hs : okStr args with
  | false => rw [hs] at hF; cases hF
  | true =>
    rw [hs] at hF
    simp only [cond_true, Option.some.injEq] at hF
    subst hF
    obtain ⟨s, rfl⟩ : ∃ s, args = [.str s] := by
      unfold okStr at hs
      split at hs
      · exact ⟨_, rfl⟩
      · cases hs
    have hT : Lib.Utf8Tabs (rho.g 3) (rho.g 4) w := hlaid _ _ (by kernel_rfl) (by kernel_rfl)
    cases hargs with
    | cons _ _ u _ _ h1 h2 =>
      cases h1
      cases h2
      refine (Any.utf8_DecodeRuneInString lays ⟨s.toArray⟩ w hT).mono ?_
      rintro e w' ⟨rfl, hb⟩
      rw [decodeGo_eq]
      refine ⟨_, z, rfl, ZMap.le_refl _, hok, fun t r o u q => ?_, fun t r o u q _ => q, ?_, hb⟩
      · have hlt := cell_lt (hzc _ _ _ _ q)
        exact (hb.cell (p := ⟨r, o, none⟩) hlt).trans (hzc _ _ _ _ q)
      · exact .tuple _ _ _ (.cons _ _ _ _ _ (.int _ _ _) (.cons _ _ _ _ _ (.int _ _ _) (.nil _)))
end Go.Proofs.YtlahloglfohdgaaDoor

/-
  glyph: Runes, whole, Cmp, the law: decision trees. No condition.
-/
namespace Go.Proofs.YtlahloglfohdgaaDoor
open Go.XM
set_option linter.unusedVariables false
set_option linter.unusedSimpArgs false
noncomputable def body (fn : Func) : Code := fn.body.getD .skip
noncomputable def noLp {A : Type} : Loops A := fun _ => none
def lives : FuncId → Nat → Option (List Nat)
  | 4, 3 => some [2, 3, 4]
  | 5, 3 => some [4, 5, 6, 14, 15, 16]
  | 7, 3 => some [0, 2, 3, 4]
  | _, _ => none
def findLoop (id : Nat) : List Code → Code
  | [] => .skip
  | c :: r => if Nat.beq (headId c) id then c else findLoop id r
noncomputable def loop (fn : Func) (id : Nat) : Code := findLoop id (loopsIn (body fn))
abbrev Ans := Option ((Tmps × XS) ⊕ (XExit × Tmps × XS))
noncomputable def roundC (l : List Known) (I : List Nat) (lp : Loops ((Tmps × XS) ⊕ (XExit × Tmps × XS))) (fn : Func) (f : Nat) (c : Code) (h : Tmps × XS) : Ans := kcode Tryd.prog (xcall Tryd.prog (primK l lives) 60) (kOfI Tryd.prog l lives I 60 60 5 lp) (livesOf fn (lives f)) 60 0 c h.1 h.2 (kround (livesOf fn (lives f)) c)
noncomputable def run (l : List Known) (I : List Nat) (lp : Loops XV) (fn : Func) (f : Nat) (t : Bool) (args : List XV) : Option XV := kcode Tryd.prog (xcall Tryd.prog (primK l lives) 60) (kOfI Tryd.prog l lives I 60 60 5 lp) (livesOf fn (lives f)) 60 0 (body fn) (argsT 0 args []) XS.none (kfin Tryd.prog fn t)
noncomputable def next (h : Tmps × XS) : Ans := some (.inl h)
noncomputable def fin (e : XExit) (h : Tmps × XS) : Ans := some (.inr (e, h))
def inc (i : Int) : Int := IntKind.i64.wrap (i + 1)
noncomputable def lpAt (id0 : Nat) (h0 : Tmps × XS) (e : XExit) (h : Tmps × XS) : Loops XV := fun id => if Nat.beq id id0 then some fun T S k => at_ T S h0.1 h0.2 (k e h.1 h.2) else none
noncomputable def here (h h0 : Tmps × XS) (k : Option XV) : Option XV := at_ h.1 h.2 h0.1 h0.2 k
structure RX where
  t : Bool
  m : Bool
  c : List XV
  n : Nat
def RX.v (a : RX) : XV := .row a.t a.m a.c a.n

/-! ### Runes -/
noncomputable def H7 (s : List UInt8) (r : XV) (i : Int) (S : XS) : Tmps × XS := (mkT 5 [(0, .str s), (2, .nilSlice), (3, r), (4, .int .i64 i)], S)
def rs (cs : List XV) (n : Nat) : XS := ⟨[.cells cs (.loose 3 n)], 1, []⟩
def at_str (s : List UInt8) (i : Int) : List UInt8 := (s.take s.length).drop i.toNat
def runeX (s : List UInt8) (b : Bool) : List XV := [.int .i32 (decG s).1, .int .i64 (decG s).2, .bool b]
noncomputable def pushR (s : List UInt8) (k : List XV → Ans) : Ans := bif ((decG s).1 : Int) == 65533 then k (runeX s (((decG s).2 : Int) == 1)) else k (runeX s false)
theorem s7z (s : List UInt8) (i : Int) : roundC [kDec] [] noLp Tryd.f7 7 (loop Tryd.f7 3) (H7 s .nilSlice i XS.none) = bif ilt i s.length then gd (upto i s.length)
    (pushR (at_str s i) fun x => next (H7 s (.sl 0) (IntKind.i64.wrap (i + (decG (at_str s i)).2)) (rs x 1)))
    else fin (.exit 0) (H7 s .nilSlice i XS.none) := by kernel_rfl
theorem s7 (s : List UInt8) (i : Int) (cs : List XV) (n : Nat) : roundC [kDec] [] noLp Tryd.f7 7 (loop Tryd.f7 3) (H7 s (.sl 0) i (rs cs n)) = bif ilt i s.length then gd (upto i s.length)
    (pushR (at_str s i) fun x => gd (fitsB (n + 1) 24) (next (H7 s (.sl 0) (IntKind.i64.wrap (i + (decG (at_str s i)).2)) (rs (cs ++ x) (n + 1)))))
    else fin (.exit 0) (H7 s (.sl 0) i (rs cs n)) := by kernel_rfl
noncomputable def run7 (s : List UInt8) (h0 : Tmps × XS) (e : XExit) (h : Tmps × XS) : Option XV := run [kDec] [] (lpAt 3 h0 e h) Tryd.f7 7 false [.str s]
theorem e7z (s : List UInt8) (h0 : Tmps × XS) (i : Int) : run7 s h0 (.exit 0) (H7 s .nilSlice i XS.none) = here (H7 s .nilSlice 0 XS.none) h0 (some (.row false true [] 0)) := by kernel_rfl
theorem e7s (s : List UInt8) (h0 : Tmps × XS) (i : Int) (cs : List XV) (n : Nat) : run7 s h0 (.exit 0) (H7 s (.sl 0) i (rs cs n)) = here (H7 s .nilSlice 0 XS.none) h0 (hard false (rs cs n) 50 (.sl 0)) := by kernel_rfl

/-! ### whole -/
noncomputable def H4 (a : RX) (i : Int) : Tmps × XS := (mkT 3 [(2, .bool false), (3, a.v), (4, .int .i64 i)], XS.none)
structure RK where
  ok : List XV → Bool
  m : List XV → Bool
  c : List XV → List XV
  n : List XV → Nat
def RK.x (b : RK) (xs : List XV) : RX := ⟨false, b.m xs, b.c xs, b.n xs⟩
def RK.k (b : RK) (id ar : Nat) : Known := ⟨id, ar, b.ok, fun xs => (b.x xs).v⟩
theorem s4 (k7 : RK) (a : RX) (i : Int) : roundC [k7.k 7 1] [] noLp Tryd.f4 4 (loop Tryd.f4 3) (H4 a i) = bif ilt i a.n then gd (within i a.n) (rdB a.c (i.toNat * 3 + 2) fun b => bif b then fin .ret (H4 a i) else next (H4 a (inc i))) else fin (.exit 0) (H4 a i) := by kernel_rfl
theorem e4 (k7 : RK) (s : List UInt8) (h0 : Tmps × XS) (e : XExit) (a : RX) (i : Int) : run [k7.k 7 1] [] (lpAt 3 h0 (.exit 0) (H4 a i)) Tryd.f4 4 false [.str s] = gd (k7.ok [.str s]) (here (H4 (k7.x [.str s]) 0) h0 (some (.bool true))) := by kernel_rfl
theorem e4r (k7 : RK) (s : List UInt8) (h0 : Tmps × XS) (e : XExit) (a : RX) (i : Int) : run [k7.k 7 1] [] (lpAt 3 h0 .ret (H4 a i)) Tryd.f4 4 false [.str s] = gd (k7.ok [.str s]) (here (H4 (k7.x [.str s]) 0) h0 (some (.bool false))) := by kernel_rfl

/-! ### Compare -/
theorem e8 (a b : Int) : run [] [15] noLp Tryd.f8 8 false [.int .i32 a, .int .i32 b] = bif a != a then (bif b != b then some (.int .i64 0) else some (.int .i64 (-1))) else bif b != b then some (.int .i64 1) else bif ilt a b then some (.int .i64 (-1)) else bif ilt b a then some (.int .i64 1) else some (.int .i64 0) := by kernel_rfl
theorem e9 (a b : Int) : run [] [16] noLp Tryd.f9 9 false [.int .i64 a, .int .i64 b] = bif a != a then (bif b != b then some (.int .i64 0) else some (.int .i64 (-1))) else bif b != b then some (.int .i64 1) else bif ilt a b then some (.int .i64 (-1)) else bif ilt b a then some (.int .i64 1) else some (.int .i64 0) := by kernel_rfl

/-! ### Cmp -/
structure IK where
  ok : List XV → Bool
  v : List XV → Int
def IK.k (b : IK) (id ar : Nat) : Known := ⟨id, ar, b.ok, fun xs => .int .i64 (b.v xs)⟩
noncomputable def IK.q {A : Type} (b : IK) (xs : List XV) (k : Int → Option A) : Option A := gd (b.ok xs) (k (b.v xs))
structure BK where
  ok : List XV → Bool
  v : List XV → Bool
def BK.k (b : BK) (id ar : Nat) : Known := ⟨id, ar, b.ok, fun xs => .bool (b.v xs)⟩
noncomputable def BK.q {A : Type} (b : BK) (xs : List XV) (k : Bool → Option A) : Option A := gd (b.ok xs) (k (b.v xs))
def rc (x : List XV) (nx : Nat) : XBlk := .cells x (.loose 1 nx)
noncomputable def H5 (v : Int) (x : List XV) (nx : Nat) (y : List XV) (ny : Nat) (i : Int) : Tmps × XS := (mkT 6 [(4, .int .i64 v), (5, .sl 0), (6, .sl 1), (14, .sl 0), (15, .int .i64 nx), (16, .int .i64 i)], ⟨[rc y ny, rc x nx], 2, []⟩)
theorem s5 (k8 k9 : IK) (x : List XV) (nx : Nat) (y : List XV) (ny : Nat) (i : Int) : roundC [k8.k 8 2, k9.k 9 2] [] noLp Tryd.f5 5 (loop Tryd.f5 3) (H5 0 x nx y ny i) = bif ilt i nx then gd (within i nx) (rdI .i32 x (i.toNat * 1) fun a =>
    bif ile ny i then fin .ret (H5 1 x nx y ny i) else gd (within i ny) (rdI .i32 y (i.toNat * 1) fun b => k8.q [.int .i32 a, .int .i32 b] fun n => bif n != 0 then fin .ret (H5 n x nx y ny i) else next (H5 0 x nx y ny (inc i))))
    else fin (.exit 0) (H5 0 x nx y ny i) := by kernel_rfl
def runes (s : List UInt8) : List Nat := runesL s.length s
def runeXs (s : List UInt8) : List XV := (runes s).map fun r => .int .i32 (Int.ofNat r)
noncomputable def H5s (v : Int) (a b : List UInt8) (i : Int) : Tmps × XS := H5 v (runeXs a) (runes a).length (runeXs b) (runes b).length i
theorem e5 (k8 k9 : IK) (a b : List UInt8) (h0 : Tmps × XS) (i : Int) : run [k8.k 8 2, k9.k 9 2] [] (lpAt 3 h0 (.exit 0) (H5s 0 a b i)) Tryd.f5 5 false [.str a, .str b] = here (H5s 0 a b 0) h0 (k9.q [.int .i64 (runes a).length, .int .i64 (runes b).length] fun n => some (.int .i64 n)) := by kernel_rfl
theorem e5r (k8 k9 : IK) (a b : List UInt8) (h0 : Tmps × XS) (v i : Int) : run [k8.k 8 2, k9.k 9 2] [] (lpAt 3 h0 .ret (H5s v a b i)) Tryd.f5 5 false [.str a, .str b] = here (H5s 0 a b 0) h0 (some (.int .i64 v)) := by kernel_rfl

/-! ### the law -/
def tt : Option XV := some (.bool true)
def ff : Option XV := some (.bool false)
theorem e3 (w4 w6 : BK) (k5 : IK) (a b : List UInt8) : run [w4.k 4 1, k5.k 5 2, w6.k 6 0] [] noLp Tryd.f3 3 false [.str a, .str b] =
    bif ilt 300 a.length then tt else bif ilt 300 b.length then tt else w4.q [.str a] fun x => bif !x then tt else w4.q [.str b] fun y => bif !y then tt else
    k5.q [.str a, .str b] fun n => bif ilt n 0 == Op.bytesLess a b then k5.q [.str a, .str b] fun n => bif (n == 0) == (a == b) then w6.q [] fun k => some (.bool k) else ff else ff := by kernel_rfl
end Go.Proofs.YtlahloglfohdgaaDoor

/-
  glyph: Runes, whole, Cmp, known, and the law GlyphBytes, each as a law in plain Lean. Condition: the tables of unicode/utf8 hold what the program's text lays (Laid).
-/
namespace Go.Proofs.YtlahloglfohdgaaDoor
open Go.XM Go.XM.Glyph
set_option linter.unusedVariables false
set_option linter.unusedSimpArgs false

/-! ### how a function is known -/
abbrev LOK {A : Type} (l : List Known) (fn : Func) (f : Nat) (c : Code) (g : Tmps → XS → (XExit → Tmps → XS → Option A) → Option A) : Prop := LpOK Tryd.prog (primK l lives) (livesOf fn (lives f)) c g
def bodyOK (fn : Func) : Bool := fn.body.isSome && !(fn.name == "runtime.NumGoroutine")
theorem body_some {fn : Func} (h : bodyOK fn = true) : fn.body = some (body fn) ∧ (fn.name == "runtime.NumGoroutine") = false := by
  unfold bodyOK at h
  simp only [Bool.and_eq_true, Bool.not_eq_true'] at h
  obtain ⟨h1, h2⟩ := h
  obtain ⟨c, hc⟩ := Option.isSome_iff_exists.1 h1
  exact ⟨by unfold body; rw [hc]; rfl, h2⟩
theorem kp {X Y : Type} (l : List Known) (I : List Nat) {fn : Func} {f : Nat} (t : Bool) {ar : Nat} {enc : X → List XV} {good_ : X → Prop} {ans : X → Y} {y0 : Y} {shape : Y → XV} (hf : Tryd.prog.funcs[f]? = some fn) (hp : ∀ e, e ∈ l → Pure Tryd.prog e.id e.F) (hfit : fitB Tryd.prog (l.map Known.e) = true)
    (hb : bodyOK fn = true) (har : Nat.ble ar fn.ntmps = true) (hnot : findK f l = none) (hinj : ∀ x y, enc x = enc y → x = y) (hlen : ∀ x, (enc x).length = ar)
    (h : ∀ x, good_ x → ∃ lp : Loops XV, (∀ c', c' ∈ loopsIn (body fn) → ∀ g, lp (headId c') = some g → LOK l fn f c' g) ∧ run l I lp fn f t (enc x) = some (shape (ans x))) : Pure Tryd.prog f (known f ar enc good_ ans y0 shape).F :=
  known_pureI (l := l) (live := lives) (I := I) (d := 5) (t := t) (N := 60) (fuel := 60) Tryd.checked.mixed good hp hfit hf (body_some hb).1 (body_some hb).2 hnot (by decide) (Nat.le_of_ble_eq_true har) hinj hlen h
theorem noLoops {l : List Known} {fn : Func} {f : Nat} : ∀ c', c' ∈ loopsIn (body fn) → ∀ g, (noLp : Loops XV) (headId c') = some g → LOK l fn f c' g := fun c' hc g hg => by cases hg
theorem one_loop {A : Type} {l : List Known} {fn : Func} {f : Nat} {c c0 : Code} {id0 : Nat} {lp : Loops A} {g : Tmps → XS → (XExit → Tmps → XS → Option A) → Option A} (hl : loopsIn c = [c0]) (hid : headId c0 = id0) (hlp : lp id0 = some g) (o : LOK l fn f c0 g) :
    ∀ c', c' ∈ loopsIn c → ∀ g', lp (headId c') = some g' → LOK l fn f c' g' := fun c' hc g' hg => by
  rw [hl] at hc
  have := List.mem_singleton.1 hc
  subst this
  rw [hid, hlp] at hg
  injection hg with hg
  subst hg
  exact o
theorem cloop {l : List Known} {I : List Nat} {fn : Func} {f : Nat} {c : Code} {Q A : Type} {n : Nat} {lp : Nat → Q → Loops ((Tmps × XS) ⊕ (XExit × Tmps × XS))} {H : Int → Q → Tmps × XS} {s0 : Q} {step : Nat → Q → Q} {ee : XExit} (inv : Nat → Q → Prop) (hfit : fitB Tryd.prog (l.map Known.e) = true)
    (h0 : inv 0 s0) (hinv : ∀ k s, k < n → inv k s → inv (k + 1) (step k s))
    (h1 : ∀ (k : Nat) s, k < n → inv k s → roundC l I (lp k s) fn f c (H k s) = some (.inl (H ((k + 1 : Nat) : Int) (step k s))))
    (h2 : ∀ s, inv n s → roundC l I (lp n s) fn f c (H n s) = some (.inr (ee, H n s)))
    (hlp : ∀ k s, k ≤ n → inv k s → ∀ c', c' ∈ loopsIn c → ∀ g, lp k s (headId c') = some g → LOK l fn f c' g := by intro _ _ _ _ c' _ g hg; cases hg) :
    LOK (A := A) l fn f c (fun T S k => at_ T S (H 0 s0).1 (H 0 s0).2 (k ee (H n (cntD step n 0 s0)).1 (H n (cntD step n 0 s0)).2)) :=
  count_loop (N := 60) (fuel := 60) (K := fun k s => kOfI Tryd.prog l lives I 60 60 5 (lp k s)) inv (fun _ _ n hn => kOfI_fn hfit (by omega) 5 _) (fun k s hk hi c' hc g hg => hlp k s hk hi c' hc g (by rw [kOfI_lp] at hg; exact hg)) h0 hinv h1 h2 (fun _ _ => kOfI_ic hfit (by decide) 5 _)
theorem iloop {l : List Known} {I : List Nat} {fn : Func} {f : Nat} {c : Code} {Q R A : Type} {n : Nat} {lp : Nat → Q → Loops ((Tmps × XS) ⊕ (XExit × Tmps × XS))} {H : Int → Q → Tmps × XS} {s0 : Q} {step : Nat → Q → Q ⊕ R} {rb : R → XExit × Tmps × XS} {ee : XExit} (inv : Nat → Q → Prop) (hfit : fitB Tryd.prog (l.map Known.e) = true)
    (h0 : inv 0 s0) (hinv : ∀ k s s', k < n → inv k s → step k s = .inl s' → inv (k + 1) s')
    (h1 : ∀ (k : Nat) s, k < n → inv k s → roundC l I (lp k s) fn f c (H k s) = some (match step k s with | .inl s' => .inl (H ((k + 1 : Nat) : Int) s') | .inr r => .inr (rb r)))
    (h2 : ∀ s, inv n s → roundC l I (lp n s) fn f c (H n s) = some (.inr (ee, H n s)))
    (hlp : ∀ k s, k ≤ n → inv k s → ∀ c', c' ∈ loopsIn c → ∀ g, lp k s (headId c') = some g → LOK l fn f c' g := by intro _ _ _ _ c' _ g hg; cases hg) :
    LOK (A := A) l fn f c (fun T S k => at_ T S (H 0 s0).1 (H 0 s0).2 (iends H rb ee n (iterD step n 0 s0) k)) :=
  iter_loop (N := 60) (fuel := 60) (K := fun k s => kOfI Tryd.prog l lives I 60 60 5 (lp k s)) inv (fun _ _ n hn => kOfI_fn hfit (by omega) 5 _) (fun k s hk hi c' hc g hg => hlp k s hk hi c' hc g (by rw [kOfI_lp] at hg; exact hg)) h0 hinv h1 h2 (fun _ _ => kOfI_ic hfit (by decide) 5 _)
theorem q_of {X Y : Type} {enc : X → List XV} {good_ : X → Prop} {ans : X → Y} {y0 : Y} (hinj : ∀ x y, enc x = enc y → x = y) (x : X) (hg : good_ x) (args : List XV) (h : enc x = args) : okC enc good_ args = true ∧ valC enc good_ ans y0 args = ans x := ⟨okC_at x h hg, valC_at hinj x h hg⟩
theorem small_max {n : Nat} (h : n ≤ 1000000) : n < maxLen := by
  have : maxLen = 9223372036854775807 := by decide
  omega
/-- a loop's end, if it is known -/
theorem ends_at {A : Type} {l : List Known} {fn : Func} {f : Nat} {c : Code} {h0 : Tmps × XS} {g : (XExit → Tmps → XS → Option A) → Option A} (hl : LOK l fn f c (fun T S k => at_ T S h0.1 h0.2 (g k))) {e : XExit} {h : Tmps × XS} (he : ∀ k, g k = k e h.1 h.2) : LOK (A := A) l fn f c (fun T S k => at_ T S h0.1 h0.2 (k e h.1 h.2)) := by
  have : (fun (T : Tmps) (S : XS) (k : XExit → Tmps → XS → Option A) => at_ T S h0.1 h0.2 (k e h.1 h.2)) = (fun T S k => at_ T S h0.1 h0.2 (g k)) := by
    funext T S k; rw [he k]
  rw [this]; exact hl

/-! ### Runes -/
def encS (s : List UInt8) : List XV := [.str s]
theorem injS (x y : List UInt8) (h : encS x = encS y) : x = y := by
  simp only [encS, List.cons.injEq, XV.str.injEq, and_true] at h
  exact h
def rnX (x : Rn) : List XV := [.int .i32 x.r, .int .i64 x.n, .bool x.bad]
def cellsR (l : List Rn) : List XV := l.flatMap rnX
def shortS (s : List UInt8) : Prop := s.length ≤ 300
theorem pushR_eq (s : List UInt8) (h : s ≠ []) (k : List XV → Ans) : pushR s k = k (rnX (rune s)) := by
  have hd : decG s = decL s := by cases s with | nil => exact absurd rfl h | cons x s => rfl
  unfold pushR runeX rnX rune
  rw [hd]
  have e1 : (((decL s).1 : Int) == 65533) = Nat.beq (decL s).1 65533 := by
    by_cases q : (decL s).1 = 65533
    · rw [q]; rfl
    · have : Nat.beq (decL s).1 65533 = false := by
        cases hb : Nat.beq (decL s).1 65533 with
        | false => rfl
        | true => exact absurd (Nat.eq_of_beq_eq_true hb) q
      rw [this]
      exact beq_eq_false_iff_ne.2 (by omega)
  have e2 : (((decL s).2 : Int) == 1) = Nat.beq (decL s).2 1 := by
    by_cases q : (decL s).2 = 1
    · rw [q]; rfl
    · have : Nat.beq (decL s).2 1 = false := by
        cases hb : Nat.beq (decL s).2 1 with
        | false => rfl
        | true => exact absurd (Nat.eq_of_beq_eq_true hb) q
      rw [this]
      exact beq_eq_false_iff_ne.2 (by omega)
  rw [e1, e2]
  cases Nat.beq (decL s).1 65533 <;> rfl
noncomputable def rsS : List Rn → XV × XS
  | [] => (.nilSlice, XS.none)
  | x :: r => (.sl 0, rs (cellsR (x :: r)) (r.length + 1))
noncomputable def H7q (s : List UInt8) (_ : Int) (q : Nat × List Rn) : Tmps × XS := H7 s (rsS q.2).1 q.1 (rsS q.2).2
theorem H7q_snoc (s : List UInt8) (i j : Int) (p : Nat) (l : List Rn) (x : Rn) : H7q s i (p, l ++ [x]) = H7 s (.sl 0) p (rs (cellsR l ++ rnX x) (l.length + 1)) := by
  cases l with
  | nil => simp [H7q, rsS, cellsR]
  | cons y l => simp [H7q, rsS, cellsR]
def step7 (s : List UInt8) (_ : Nat) (q : Nat × List Rn) : Nat × List Rn := (q.1 + (decL (s.drop q.1)).2, q.2 ++ [rune (s.drop q.1)])
def inv7 (s : List UInt8) (k : Nat) (q : Nat × List Rn) : Prop := q.2.length = k ∧ q.1 ≤ s.length ∧ R s = q.2 ++ R (s.drop q.1)
theorem inv7_lt {s : List UInt8} {k : Nat} {q : Nat × List Rn} (hk : k < (R s).length) (h : inv7 s k q) : q.1 < s.length ∧ s.drop q.1 ≠ [] := by
  obtain ⟨h1, h2, h3⟩ := h
  have : s.drop q.1 ≠ [] := fun e => by
    rw [e, R_nil, List.append_nil] at h3
    rw [h3] at hk; omega
  refine ⟨?_, this⟩
  rcases Nat.lt_or_ge q.1 s.length with p | p
  · exact p
  · exact absurd (List.drop_eq_nil_of_le p) this
theorem inv7_step {s : List UInt8} {k : Nat} {q : Nat × List Rn} (hk : k < (R s).length) (h : inv7 s k q) : inv7 s (k + 1) (step7 s k q) := by
  obtain ⟨hlt, hne⟩ := inv7_lt hk h
  obtain ⟨h1, h2, h3⟩ := h
  have hw := dec_width hne
  rw [List.length_drop] at hw
  refine ⟨by simp [step7, h1], by simp only [step7]; omega, ?_⟩
  simp only [step7]
  rw [h3, R_cons hne, List.drop_drop, List.append_assoc]
  rfl
theorem at_str_eq (s : List UInt8) (i : Nat) : at_str s i = s.drop i := by
  unfold at_str
  rw [List.take_length]; rfl
theorem l7 (s : List UInt8) (hs : shortS s) {A : Type} : LOK (A := A) [kDec] Tryd.f7 7 (loop Tryd.f7 3) (fun T S k => at_ T S (H7q s 0 (0, [])).1 (H7q s 0 (0, [])).2 (k (.exit 0) (H7q s 0 (s.length, R s)).1 (H7q s 0 (s.length, R s)).2)) := by
  have hfin : ∀ q, inv7 s (R s).length q → q = (s.length, R s) := fun q h => by
    obtain ⟨h1, h2, h3⟩ := h
    have h4 : R (s.drop q.1) = [] := by
      have := congrArg List.length h3
      rw [List.length_append] at this
      exact List.eq_nil_of_length_eq_zero (by omega)
    have h5 : s.drop q.1 = [] := by
      by_cases e : s.drop q.1 = []
      · exact e
      · rw [R_cons e] at h4; cases h4
    have h6 : s.length ≤ q.1 := by
      have := congrArg List.length h5
      rw [List.length_drop] at this
      simp at this; omega
    rw [h4, List.append_nil] at h3
    exact Prod.ext (by omega) h3.symm
  have hcnt : ∀ d k q, k + d = (R s).length → inv7 s k q → inv7 s (R s).length (cntD (step7 s) d k q) := fun d => by
    induction d with
    | zero => intro k q h hi; simp only [cntD]; rw [← h]; exact hi
    | succ d ih => intro k q h hi; simp only [cntD]; exact ih (k + 1) _ (by omega) (inv7_step (by omega) hi)
  have h0 : inv7 s 0 (0, []) := ⟨rfl, Nat.zero_le _, rfl⟩
  have := cloop (A := A) (fn := Tryd.f7) (f := 7) (c := loop Tryd.f7 3) (n := (R s).length) (l := [kDec]) (I := []) (lp := fun _ _ => noLp) (H := H7q s) (s0 := (0, [])) (step := step7 s) (ee := .exit 0) (inv7 s) (by kernel_rfl) h0 (fun k q hk hi => inv7_step hk hi) (fun k q hk hi => ?_) (fun q hi => ?_)
  · rw [hfin _ (hcnt _ 0 _ (by omega) h0)] at this
    exact this
  · obtain ⟨hlt, hne⟩ := inv7_lt hk hi
    have hw := dec_width hne
    rw [List.length_drop] at hw
    have hm : maxLen = 9223372036854775807 := by decide
    unfold shortS at hs
    have hwr : IntKind.i64.wrap ((q.1 : Int) + ((decL (s.drop q.1)).2 : Nat)) = ((q.1 + (decL (s.drop q.1)).2 : Nat) : Int) := by
      rw [IntWalk.i64_in _ ⟨by omega, by omega⟩]; omega
    have hd : decG (s.drop q.1) = decL (s.drop q.1) := by
      cases hq : s.drop q.1 with
      | nil => exact absurd hq hne
      | cons x r => rfl
    obtain ⟨p, l⟩ := q
    simp only at hlt hne hw hwr hd
    have hsn := H7q_snoc s ((k + 1 : Nat) : Int) 0 (p + (decL (s.drop p)).2) l (rune (s.drop p))
    cases l with
    | nil =>
      refine (s7z s p).trans ?_
      rw [ilt_of (by omega), cond_true, upto_of ⟨by omega, by omega⟩, gd_true, at_str_eq, pushR_eq _ hne, hd, hwr]
      show next _ = some (Sum.inl (H7q s ((k + 1 : Nat) : Int) (p + (decL (s.drop p)).2, [] ++ [rune (s.drop p)])))
      rw [hsn]
      rfl
    | cons y l =>
      have hl := hi.1
      have hrl := R_len s.length s (Nat.le_refl _)
      have hfit : fitsB (l.length + 1 + 1) 24 = true := by
        unfold fitsB
        simp only [List.length_cons] at hl
        exact (bleI _ _).2 (by omega)
      refine (s7 s p (cellsR (y :: l)) (l.length + 1)).trans ?_
      rw [ilt_of (by omega), cond_true, upto_of ⟨by omega, by omega⟩, gd_true, at_str_eq, pushR_eq _ hne, hd, hwr, hfit, gd_true]
      show next _ = some (Sum.inl (H7q s ((k + 1 : Nat) : Int) (p + (decL (s.drop p)).2, (y :: l) ++ [rune (s.drop p)])))
      rw [hsn]
      rfl
  · have hq := hfin q hi
    subst hq
    cases hR : R s with
    | nil =>
      have e : H7q s ((([] : List Rn).length : Nat) : Int) (s.length, []) = H7 s .nilSlice s.length XS.none := rfl
      rw [e]
      refine (s7z s s.length).trans ?_
      rw [ilt_not (by omega)]; rfl
    | cons y l =>
      have e : H7q s (((y :: l).length : Nat) : Int) (s.length, y :: l) = H7 s (.sl 0) s.length (rs (cellsR (y :: l)) (l.length + 1)) := rfl
      rw [e]
      refine (s7 s s.length (cellsR (y :: l)) (l.length + 1)).trans ?_
      rw [ilt_not (by omega)]; rfl
def shapeR (l : List Rn) : XV := .row false l.isEmpty (cellsR l) l.length
theorem lent_R : ∀ l : List Rn, lentAny (cellsR l) = false
  | [] => rfl
  | x :: l => by
    have : ∀ r : List XV, lentAny r = false → lentAny (rnX x ++ r) = false := fun r hr => by
      show (false || (false || (false || lentAny r))) = false
      rw [hr]; rfl
    exact this _ (lent_R l)
theorem p7 : Pure Tryd.prog 7 (known 7 1 encS shortS R [] shapeR).F := by
  refine kp [kDec] [] false Tryd.func7 (fun e he => by rw [List.mem_singleton.1 he]; exact pDec) (by kernel_rfl) (by kernel_rfl) (by kernel_rfl) rfl injS (fun _ => rfl) fun s hs => ?_
  refine ⟨lpAt 3 (H7q s 0 (0, [])) (.exit 0) (H7q s 0 (s.length, R s)), one_loop (c0 := loop Tryd.f7 3) (id0 := 3) (by kernel_rfl) (by kernel_rfl) rfl (l7 s hs), ?_⟩
  cases hR : R s with
  | nil =>
    refine (e7z s _ s.length).trans ?_
    exact at_self _ _ _
  | cons y l =>
    refine (e7s s _ s.length (cellsR (y :: l)) (l.length + 1)).trans ?_
    refine (at_self _ _ _).trans ?_
    show (if (false || !lentAny (cellsR (y :: l))) = true then some (XV.row false false (cellsR (y :: l)) (l.length + 1)) else none) = _
    rw [lent_R]; rfl

/-! ### whole -/
noncomputable def k7 : RK := ⟨okC encS shortS, fun xs => (valC encS shortS R [] xs).isEmpty, fun xs => cellsR (valC encS shortS R [] xs), fun xs => (valC encS shortS R [] xs).length⟩
def rx (l : List Rn) : RX := ⟨false, l.isEmpty, cellsR l, l.length⟩
theorem k7_x (s : List UInt8) (hs : shortS s) : k7.ok [.str s] = true ∧ k7.x [.str s] = rx (R s) := by
  obtain ⟨h1, h2⟩ := q_of (good_ := shortS) (ans := R) (y0 := []) injS s hs [.str s] rfl
  refine ⟨h1, ?_⟩
  unfold RK.x k7 rx
  simp only [h2]
theorem cellsR_at : ∀ (l : List Rn) (k : Nat) (h : k < l.length), (cellsR l)[k * 3 + 2]? = some (.bool l[k].bad)
  | [], k, h => by cases h
  | x :: l, 0, h => rfl
  | x :: l, k + 1, h => by
    have h3 : (rnX x).length = 3 := rfl
    show ((rnX x) ++ cellsR l)[(k + 1) * 3 + 2]? = _
    rw [List.getElem?_append_right (by omega), h3, show (k + 1) * 3 + 2 - 3 = k * 3 + 2 by omega]
    exact cellsR_at l k (by simpa using h)
theorem inc_n {k : Nat} (h : k < maxLen) : inc (k : Int) = ((k + 1 : Nat) : Int) := inc_nat h
def step4 (l : List Rn) (k : Nat) (_ : Unit) : Unit ⊕ Nat := if (l.getD k ⟨0, 0, false⟩).bad then .inr k else .inl ()
theorem l4 (l : List Rn) (hl : l.length ≤ 1000) {A : Type} : LOK (A := A) [k7.k 7 1] Tryd.f4 4 (loop Tryd.f4 3) (fun T S k => at_ T S (H4 (rx l) 0).1 (H4 (rx l) 0).2 (iends (fun i (_ : Unit) => H4 (rx l) i) (fun r : Nat => (.ret, H4 (rx l) r)) (.exit 0) l.length (iterD (step4 l) l.length 0 ()) k)) := by
  refine iloop (fn := Tryd.f4) (f := 4) (l := [k7.k 7 1]) (I := []) (lp := fun _ _ => noLp) (H := fun i (_ : Unit) => H4 (rx l) i) (fun _ _ => True) (by kernel_rfl) trivial (fun _ _ _ _ _ _ => trivial) (fun k q hk _ => ?_) (fun q _ => ?_)
  · refine (s4 k7 (rx l) k).trans ?_
    show (bif ilt k l.length then gd (within k l.length) (rdB (cellsR l) _ _) else _) = _
    rw [ilt_of (by omega), within_nat hk, cond_true, gd_true, inc_n (small_max (by omega))]
    unfold rdB
    simp only [Int.toNat_natCast]
    rw [cellsR_at l k hk]
    have hm : l.getD k ⟨0, 0, false⟩ = l[k] := by simp [hk]
    unfold step4
    rw [hm]
    cases l[k].bad <;> rfl
  · refine (s4 k7 (rx l) l.length).trans ?_
    show (bif ilt l.length l.length then _ else _) = _
    rw [ilt_not (by omega)]; rfl
theorem iter4 (l : List Rn) : ∀ (d k : Nat), k + d = l.length → ((l.drop k).all (fun x => !x.bad) = true → iterD (step4 l) d k () = .inl ()) ∧ ((l.drop k).all (fun x => !x.bad) = false → ∃ j, iterD (step4 l) d k () = .inr j)
  | 0, k, h => by
    rw [List.drop_eq_nil_of_le (by omega)]
    exact ⟨fun _ => rfl, fun h => by cases h⟩
  | d + 1, k, h => by
    have hk : k < l.length := by omega
    have hd : l.drop k = l[k] :: l.drop (k + 1) := List.drop_eq_getElem_cons hk
    have hm : l.getD k ⟨0, 0, false⟩ = l[k] := by simp [hk]
    obtain ⟨h1, h2⟩ := iter4 l d (k + 1) (by omega)
    rw [hd]
    simp only [iterD, step4, hm, List.all_cons]
    cases hf : l[k].bad with
    | false =>
      simp only [Bool.not_false, Bool.true_and]
      exact ⟨fun h => h1 h, h2⟩
    | true =>
      simp only [Bool.not_true, Bool.false_and]
      exact ⟨fun h => (by cases h), fun _ => ⟨k, by simp⟩⟩
theorem p4 : Pure Tryd.prog 4 (known 4 1 encS shortS whole true .bool).F := by
  refine kp [k7.k 7 1] [] false Tryd.func4 (fun e he => by rw [List.mem_singleton.1 he]; exact p7) (by kernel_rfl) (by kernel_rfl) (by kernel_rfl) rfl injS (fun _ => rfl) fun s hs => ?_
  obtain ⟨x1, x2⟩ := k7_x s hs
  have hlen : (R s).length ≤ 1000 := by have := R_len s.length s (Nat.le_refl _); unfold shortS at hs; omega
  obtain ⟨i1, i2⟩ := iter4 (R s) (R s).length 0 (by omega)
  rw [List.drop_zero] at i1 i2
  cases hw : whole s with
  | true =>
    have hi := i1 hw
    refine ⟨lpAt 3 (H4 (rx (R s)) 0) (.exit 0) (H4 (rx (R s)) (R s).length), one_loop (c0 := loop Tryd.f4 3) (id0 := 3) (by kernel_rfl) (by kernel_rfl) rfl (ends_at (l4 (R s) hlen) (fun k => by rw [hi]; rfl)), (e4 k7 s _ .ret (rx (R s)) (R s).length).trans ?_⟩
    rw [x1, x2]
    exact at_self _ _ _
  | false =>
    obtain ⟨j, hj⟩ := i2 hw
    refine ⟨lpAt 3 (H4 (rx (R s)) 0) .ret (H4 (rx (R s)) j), one_loop (c0 := loop Tryd.f4 3) (id0 := 3) (by kernel_rfl) (by kernel_rfl) rfl (ends_at (l4 (R s) hlen) (fun k => by rw [hj]; rfl)), (e4r k7 s _ .ret (rx (R s)) j).trans ?_⟩
    rw [x1, x2]
    exact at_self _ _ _
end Go.Proofs.YtlahloglfohdgaaDoor

/-
  glyph: Cmp, known, and the law GlyphBytes. Condition: the tables of unicode/utf8 hold what the program's text lays (Laid).
-/
namespace Go.Proofs.YtlahloglfohdgaaDoor
open Go.XM Go.XM.Glyph
set_option linter.unusedVariables false
set_option linter.unusedSimpArgs false

/-! ### Compare -/
def encI (k : IntKind) (x : Int × Int) : List XV := [.int k x.1, .int k x.2]
theorem injI (k : IntKind) (x y : Int × Int) (h : encI k x = encI k y) : x = y := by
  simp only [encI, List.cons.injEq, XV.int.injEq, true_and, and_true] at h
  exact Prod.ext h.1 h.2
theorem cmp_tree (a b : Int) : (bif a != a then (bif b != b then some (XV.int .i64 0) else some (.int .i64 (-1))) else bif b != b then some (.int .i64 1) else bif ilt a b then some (.int .i64 (-1)) else bif ilt b a then some (.int .i64 1) else some (.int .i64 0)) = some (.int .i64 (cmpF a b)) := by
  rw [bne_self_eq_false, bne_self_eq_false, cond_false, cond_false, ilt_eq, ilt_eq]
  unfold cmpF
  by_cases h : a < b
  · rw [if_pos h, decide_eq_true h]; rfl
  · rw [if_neg h, decide_eq_false h]
    by_cases k : b < a
    · rw [if_pos k, decide_eq_true k]; rfl
    · rw [if_neg k, decide_eq_false k]; rfl
theorem p8 : Pure Tryd.prog 8 (known 8 2 (encI .i32) (fun _ => True) (fun x => cmpF x.1 x.2) 0 (.int .i64)).F := by
  refine kp [] [15] false Tryd.func8 (fun e he => by cases he) (by kernel_rfl) (by kernel_rfl) (by kernel_rfl) rfl (injI .i32) (fun _ => rfl) fun x _ => ?_
  exact ⟨noLp, noLoops, (e8 x.1 x.2).trans (cmp_tree _ _)⟩
theorem p9 : Pure Tryd.prog 9 (known 9 2 (encI .i64) (fun _ => True) (fun x => cmpF x.1 x.2) 0 (.int .i64)).F := by
  refine kp [] [16] false Tryd.func9 (fun e he => by cases he) (by kernel_rfl) (by kernel_rfl) (by kernel_rfl) rfl (injI .i64) (fun _ => rfl) fun x _ => ?_
  exact ⟨noLp, noLoops, (e9 x.1 x.2).trans (cmp_tree _ _)⟩
noncomputable def k8 : IK := ⟨okC (encI .i32) (fun _ => True), valC (encI .i32) (fun _ => True) (fun x => cmpF x.1 x.2) 0⟩
noncomputable def k9 : IK := ⟨okC (encI .i64) (fun _ => True), valC (encI .i64) (fun _ => True) (fun x => cmpF x.1 x.2) 0⟩
theorem q8 {A : Type} (a b : Int) (k : Int → Option A) : k8.q [.int .i32 a, .int .i32 b] k = k (cmpF a b) := by
  obtain ⟨h1, h2⟩ := q_of (good_ := fun _ => True) (ans := fun x : Int × Int => cmpF x.1 x.2) (y0 := 0) (injI .i32) (a, b) trivial [.int .i32 a, .int .i32 b] rfl
  unfold IK.q k8
  simp only [h1, h2, gd_true]
theorem q9 {A : Type} (a b : Int) (k : Int → Option A) : k9.q [.int .i64 a, .int .i64 b] k = k (cmpF a b) := by
  obtain ⟨h1, h2⟩ := q_of (good_ := fun _ => True) (ans := fun x : Int × Int => cmpF x.1 x.2) (y0 := 0) (injI .i64) (a, b) trivial [.int .i64 a, .int .i64 b] rfl
  unfold IK.q k9
  simp only [h1, h2, gd_true]
noncomputable def KC : List Known := [k8.k 8 2, k9.k 9 2]
theorem KC_pure : ∀ e, e ∈ KC → Pure Tryd.prog e.id e.F := fun e he => by
  simp only [KC, List.mem_cons, List.not_mem_nil, or_false] at he
  rcases he with rfl | rfl
  · exact p8
  · exact p9

/-! ### Cmp -/
def enc2 (x : List UInt8 × List UInt8) : List XV := [.str x.1, .str x.2]
theorem inj2 (x y : List UInt8 × List UInt8) (h : enc2 x = enc2 y) : x = y := by
  simp only [enc2, List.cons.injEq, XV.str.injEq, and_true] at h
  exact Prod.ext h.1 h.2
def step5 (x y : List Nat) (k : Nat) (_ : Unit) : Unit ⊕ (Int × Nat) := if y.length ≤ k then .inr (1, k) else if cmpF (x.getD k 0) (y.getD k 0) ≠ 0 then .inr (cmpF (x.getD k 0) (y.getD k 0), k) else .inl ()
theorem iter5 (x y : List Nat) : ∀ (d k : Nat), k + d = x.length → k ≤ y.length → (iterD (step5 x y) d k () = .inl () → cmpL (x.drop k) (y.drop k) = cmpF x.length y.length) ∧ (∀ v j, iterD (step5 x y) d k () = .inr (v, j) → cmpL (x.drop k) (y.drop k) = v)
  | 0, k, h, hy => by
    rw [List.drop_eq_nil_of_le (show x.length ≤ k by omega)]
    refine ⟨fun _ => ?_, fun v j h => by cases h⟩
    by_cases e : y.length ≤ k
    · rw [List.drop_eq_nil_of_le e]
      unfold cmpF
      rw [if_neg (by omega), if_neg (by omega)]; rfl
    · have hd : y.drop k = y[k] :: y.drop (k + 1) := List.drop_eq_getElem_cons (by omega)
      rw [hd]
      unfold cmpF
      rw [if_pos (by omega)]; rfl
  | d + 1, k, h, hy => by
    have hk : k < x.length := by omega
    have hd : x.drop k = x[k] :: x.drop (k + 1) := List.drop_eq_getElem_cons hk
    have hm : x.getD k 0 = x[k] := by simp [hk]
    rw [hd]
    simp only [iterD, step5, hm]
    by_cases e : y.length ≤ k
    · rw [List.drop_eq_nil_of_le e]
      simp only [if_pos e]
      refine ⟨fun h => (by cases h), fun v j h => ?_⟩
      simp only [Sum.inr.injEq, Prod.mk.injEq] at h
      rw [← h.1]; rfl
    · have hyk : k < y.length := by omega
      have hdy : y.drop k = y[k] :: y.drop (k + 1) := List.drop_eq_getElem_cons hyk
      have hmy : y.getD k 0 = y[k] := by simp [hyk]
      rw [hdy]
      simp only [if_neg e, hmy, cmpL]
      by_cases c : cmpF (x[k] : Int) (y[k] : Int) ≠ 0
      · simp only [if_pos c]
        refine ⟨fun h => (by cases h), fun v j h => ?_⟩
        simp only [Sum.inr.injEq, Prod.mk.injEq] at h
        exact h.1
      · simp only [if_neg c]
        exact iter5 x y d (k + 1) (by omega) (by omega)
theorem runeXs_at {A : Type} (s : List UInt8) (k : Nat) (h : k < (runes s).length) (f : Int → Option A) : rdI .i32 (runeXs s) ((k : Int).toNat * 1) f = f ((runes s).getD k 0 : Nat) := by
  have : runeXs s = ((runes s).map fun r => (Int.ofNat r : Int)).map (.int .i32) := by simp [runeXs]
  rw [this, rdI_at _ _ _ (by simpa using h)]
  simp [h]
theorem l5 (a b : List UInt8) (ha : (runes a).length ≤ 1000) {A : Type} : LOK (A := A) KC Tryd.f5 5 (loop Tryd.f5 3) (fun T S k => at_ T S (H5s 0 a b 0).1 (H5s 0 a b 0).2 (iends (fun i (_ : Unit) => H5s 0 a b i) (fun r : Int × Nat => (.ret, H5s r.1 a b r.2)) (.exit 0) (runes a).length (iterD (step5 (runes a) (runes b)) (runes a).length 0 ()) k)) := by
  refine iloop (fn := Tryd.f5) (f := 5) (l := KC) (I := []) (lp := fun _ _ => noLp) (H := fun i (_ : Unit) => H5s 0 a b i) (fun _ _ => True) (by kernel_rfl) trivial (fun _ _ _ _ _ _ => trivial) (fun k q hk _ => ?_) (fun q _ => ?_)
  · refine (s5 k8 k9 (runeXs a) (runes a).length (runeXs b) (runes b).length k).trans ?_
    rw [ilt_of (by omega), within_nat hk, cond_true, gd_true, runeXs_at a k hk, inc_n (small_max (by omega)), ile_eq]
    unfold step5
    by_cases e : (runes b).length ≤ k
    · rw [decide_eq_true (by omega), if_pos e]; rfl
    · rw [decide_eq_false (by omega), if_neg e, cond_false, within_nat (by omega), gd_true, runeXs_at b k (by omega), q8]
      by_cases c : cmpF ((runes a).getD k 0 : Nat) ((runes b).getD k 0 : Nat) = 0
      · have : (cmpF ((runes a).getD k 0 : Nat) ((runes b).getD k 0 : Nat) != 0) = false := bne_eq_false_iff_eq.2 c
        rw [this, if_neg (by simpa using c)]; rfl
      · have : (cmpF ((runes a).getD k 0 : Nat) ((runes b).getD k 0 : Nat) != 0) = true := bne_iff_ne.2 c
        rw [this, if_pos c]; rfl
  · refine (s5 k8 k9 (runeXs a) (runes a).length (runeXs b) (runes b).length (runes a).length).trans ?_
    rw [ilt_not (by omega)]; rfl
theorem runes_R (s : List UInt8) : runes s = (R s).map (·.r) := runesL_R s.length s (Nat.le_refl _)
def short2 (x : List UInt8 × List UInt8) : Prop := shortS x.1 ∧ shortS x.2
theorem p5 : Pure Tryd.prog 5 (known 5 2 enc2 short2 (fun x => cmpL (runes x.1) (runes x.2)) 0 (.int .i64)).F := by
  refine kp KC [] false Tryd.func5 KC_pure (by kernel_rfl) (by kernel_rfl) (by kernel_rfl) rfl inj2 (fun _ => rfl) fun x hx => ?_
  obtain ⟨a, b⟩ := x
  obtain ⟨ha, hb⟩ := hx
  have hlen : (runes a).length ≤ 1000 := by
    rw [runes_R, List.length_map]
    have := R_len a.length a (Nat.le_refl _)
    unfold shortS at ha
    simp only at ha
    omega
  obtain ⟨i1, i2⟩ := iter5 (runes a) (runes b) (runes a).length 0 (by omega) (Nat.zero_le _)
  rw [List.drop_zero, List.drop_zero] at i1 i2
  cases hi : iterD (step5 (runes a) (runes b)) (runes a).length 0 () with
  | inl u =>
    refine ⟨lpAt 3 (H5s 0 a b 0) (.exit 0) (H5s 0 a b (runes a).length), one_loop (c0 := loop Tryd.f5 3) (id0 := 3) (by kernel_rfl) (by kernel_rfl) rfl (ends_at (l5 a b hlen) (fun k => by rw [hi]; rfl)), (e5 k8 k9 a b _ (runes a).length).trans ?_⟩
    refine (at_self _ _ _).trans ?_
    rw [q9, i1 hi]
  | inr v =>
    obtain ⟨v, j⟩ := v
    refine ⟨lpAt 3 (H5s 0 a b 0) .ret (H5s v a b j), one_loop (c0 := loop Tryd.f5 3) (id0 := 3) (by kernel_rfl) (by kernel_rfl) rfl (ends_at (l5 a b hlen) (fun k => by rw [hi]; rfl)), (e5r k8 k9 a b _ v j).trans ?_⟩
    refine (at_self _ _ _).trans ?_
    rw [i2 v j hi]

/-! ### known -/
theorem knows : yes (xcall Tryd.prog (primK [kDec] lives) 60 6 [] 0 XS.none) = true := by kernel_rfl
theorem p6 : Pure Tryd.prog 6 (known 6 0 (fun _ : Unit => []) (fun _ => True) (fun _ => true) true .bool).F := by
  refine pure_of (P := Tryd.prog) Tryd.checked.mixed good (prim := primK [kDec] lives) (primOf_ok (fun e he => ?_)) fun args v hv => ?_
  · obtain ⟨e', h1, rfl⟩ := List.mem_map.1 he
    rw [List.mem_singleton.1 h1]
    exact pDec
  · obtain ⟨x, rfl, _, rfl⟩ := known_inv (fun _ _ _ => rfl) hv
    obtain ⟨S', h⟩ := yes_spec knows
    exact ⟨60, false, by unfold prun; rw [h]; exact hard_bool _ _ _⟩

/-! ### the law -/
noncomputable def w4 : BK := ⟨okC encS shortS, valC encS shortS whole true⟩
noncomputable def w6 : BK := ⟨okC (fun _ : Unit => []) (fun _ => True), valC (fun _ : Unit => []) (fun _ => True) (fun _ => true) true⟩
noncomputable def k5 : IK := ⟨okC enc2 short2, valC enc2 short2 (fun x => cmpL (runes x.1) (runes x.2)) 0⟩
theorem q4 {A : Type} (s : List UInt8) (h : shortS s) (k : Bool → Option A) : w4.q [.str s] k = k (whole s) := by
  obtain ⟨h1, h2⟩ := q_of (good_ := shortS) (ans := whole) (y0 := true) injS s h [.str s] rfl
  unfold BK.q w4
  simp only [h1, h2, gd_true]
theorem q6 {A : Type} (k : Bool → Option A) : w6.q [] k = k true := by
  obtain ⟨h1, h2⟩ := q_of (enc := fun _ : Unit => ([] : List XV)) (good_ := fun _ => True) (ans := fun _ => true) (y0 := true) (fun _ _ _ => rfl) () trivial [] rfl
  unfold BK.q w6
  simp only [h1, h2, gd_true]
theorem q5 {A : Type} (a b : List UInt8) (ha : shortS a) (hb : shortS b) (k : Int → Option A) : k5.q [.str a, .str b] k = k (cmpL (runes a) (runes b)) := by
  obtain ⟨h1, h2⟩ := q_of (good_ := short2) (ans := fun x : List UInt8 × List UInt8 => cmpL (runes x.1) (runes x.2)) (y0 := 0) inj2 (a, b) ⟨ha, hb⟩ [.str a, .str b] rfl
  unfold IK.q k5
  simp only [h1, h2, gd_true]
noncomputable def KL : List Known := [w4.k 4 1, k5.k 5 2, w6.k 6 0]
theorem KL_pure : ∀ e, e ∈ KL → Pure Tryd.prog e.id e.F := fun e he => by
  simp only [KL, List.mem_cons, List.not_mem_nil, or_false] at he
  rcases he with rfl | rfl | rfl
  · exact p4
  · exact p5
  · exact p6
theorem law : Pure Tryd.prog 3 (known 3 2 enc2 (fun _ => True) (fun _ => true) true .bool).F := by
  refine kp KL [] false Tryd.func3 KL_pure (by kernel_rfl) (by kernel_rfl) (by kernel_rfl) rfl inj2 (fun _ => rfl) fun x _ => ?_
  obtain ⟨a, b⟩ := x
  refine ⟨noLp, noLoops, (e3 w4 w6 k5 a b).trans ?_⟩
  by_cases ha : a.length ≤ 300
  · rw [ilt_not (by omega), cond_false]
    by_cases hb : b.length ≤ 300
    · rw [ilt_not (by omega), cond_false, q4 a ha, q4 b hb]
      cases wa : whole a with
      | false => rfl
      | true =>
        cases wb : whole b with
        | false => rfl
        | true =>
          obtain ⟨c1, c2⟩ := cmp_bytes a.length a b (Nat.le_refl _) wa wb
          rw [← runes_R, ← runes_R] at c1 c2
          simp only [Bool.not_true, cond_false]
          rw [q5 a b ha hb, q5 a b ha hb, q6, ilt_eq, c1]
          have e : (cmpL (runes a) (runes b) == 0) = (a == b) := by
            by_cases q : a = b
            · rw [c2.2 q, q]; simp
            · rw [beq_eq_false_iff_ne.2 q]
              exact beq_eq_false_iff_ne.2 fun h => q (c2.1 h)
          rw [e, beq_self_eq_true, beq_self_eq_true]
          rfl
    · rw [ilt_of (by omega)]; rfl
  · rw [ilt_of (by omega)]; rfl
end Go.Proofs.YtlahloglfohdgaaDoor
