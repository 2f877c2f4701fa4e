/- A plain machine beside the model, and that what it tells the model does: part Xl. Conditions: those of each theorem below. -/
import Derived.Test.YtlaamopkgopleaaXk
namespace Go.XM
set_option linter.unusedVariables false
set_option linter.unusedSimpArgs false
open Go.RowKit
set_option linter.unusedVariables false

section
variable {P : Program} {B : Nat} {w0 : World} {base : Nat} {ρ : Emb} {S : XS} {w : World}

/-! ### comparing -/
theorem toList_arr (s : List UInt8) : (⟨s.toArray⟩ : ByteArray).toList = s := by simp [ByteArray.toList_eq]

theorem vr_rptr {t : Bool} {cs : List XV} {o : Nat} {u : Value} (h : VR ρ (.rptr t cs o) u) : ∃ a, u = .pointer (some a) := by
  cases h with
  | rptr _ _ _ _ h1 => cases h1; exact ⟨_, rfl⟩

theorem vr_int {x : XV} {k : IntKind} {n : Int} (h : VR ρ x (.int k n)) : x = .int k n := by
  cases h with
  | int => rfl
  | row _ _ _ _ _ h1 => cases h1
  | rptr _ _ _ _ h1 => cases h1
theorem vr_str {x : XV} {s : ByteArray} (h : VR ρ x (.string s)) : ∃ l, x = .str l := by
  cases h with
  | str => exact ⟨_, rfl⟩
  | row _ _ _ _ _ h1 => cases h1
  | rptr _ _ _ _ h1 => cases h1
theorem vr_nilIface {x : XV} (h : VR ρ x .nilIface) : x = .nilIface := by
  cases h with
  | nilIface => rfl
  | row _ _ _ _ _ h1 => cases h1
  | rptr _ _ _ _ h1 => cases h1
theorem vr_agg {x : XV} {us : Array Value} (h : VR ρ x (.agg us)) : ∃ l, x = .agg l := by
  cases h with
  | agg => exact ⟨_, rfl⟩
  | row _ _ _ _ _ h1 => cases h1
  | rptr _ _ _ _ h1 => cases h1
theorem vr_float {x : XV} {k : FloatKind} {a} (h : VR ρ x (.float k a)) : False := by
  cases h with
  | row _ _ _ _ _ h1 => cases h1
  | rptr _ _ _ _ h1 => cases h1
theorem vr_complex {x : XV} {k} {a b} (h : VR ρ x (.complex k a b)) : False := by
  cases h with
  | row _ _ _ _ _ h1 => cases h1
  | rptr _ _ _ _ h1 => cases h1

theorem xEqFields_sound (rec : TypeId → XV → XV → Option Bool) (d' : Nat)
    (hrec : ∀ t x y u v r, VR ρ x u → VR ρ y v → rec t x y = some r → (Op.equalIn d' t u v).run P w = .ok r w)
    {xs ys : List XV} {us vs : Array Value} (hx : VRs ρ xs us.toList) (hy : VRs ρ ys vs.toList) :
    ∀ (fs : List Field) (r : Bool), xEqFields P rec xs ys fs = some r → (Op.eqFields d' us vs fs).run P w = .ok r w
  | [], r, h => by simp only [xEqFields] at h; injection h with h; subst h; rfl
  | f :: fs, r, h => by
    simp only [xEqFields] at h
    split at h
    · rename_i hn
      split at h
      case h_2 => cases h
      case h_1 a b ha hb =>
      obtain ⟨u, hu, hur⟩ := xpart_sound (P := P) (w := w) hx ha
      obtain ⟨v, hv, hvr⟩ := xpart_sound (P := P) (w := w) hy hb
      split at h
      · rename_i hr
        have := hrec _ _ _ _ _ _ hur hvr hr
        have ih := xEqFields_sound rec d' hrec hx hy fs r h
        simp [Op.eqFields, hn, hu, hv, this, ih]
      · rename_i hr
        injection h with h
        subst h
        have := hrec _ _ _ _ _ _ hur hvr hr
        simp [Op.eqFields, hn, hu, hv, this]
      · cases h
    · rename_i hn
      have ih := xEqFields_sound rec d' hrec hx hy fs r h
      simp [Op.eqFields, hn, ih]

set_option maxHeartbeats 1000000 in
theorem xEqIn_sound : ∀ (d : Nat) (d' : Nat), d ≤ d' → ∀ (t : TypeId) (x y : XV) (u v : Value) (r : Bool), VR ρ x u → VR ρ y v → xEqIn P d t x y = some r → (Op.equalIn d' t u v).run P w = .ok r w
  | 0, _, _, t, x, y, u, v, r, hx, hy, h => by simp [xEqIn] at h
  | d + 1, 0, hd, _, _, _, _, _, _, _, _, _ => by omega
  | d + 1, d' + 1, hd, t, x, y, u, v, r, hx, hy, h => by
    unfold xEqIn at h
    split at h
    case h_1 hu => injection h with h; subst h; cases hx; cases hy; simp [Op.equalIn, run_underlying hu]
    case h_2 hu =>
      split at h
      · rename_i hk; injection h with h; subst h; cases hx; cases hy; simp [Op.equalIn, run_underlying hu, hk]
      · cases h
    case h_3 hu => injection h with h; subst h; cases hx; cases hy; simp only [Op.equalIn, Sem.run_bind, run_underlying hu, Result.andThen_ok, beq_toListBytes, toList_arr]; rfl
    case h_4 hu => injection h with h; subst h; cases hx; cases hy; simp [Op.equalIn, run_underlying hu]
    case h_5 hu => injection h with h; subst h; cases hx; cases hy; simp [Op.equalIn, run_underlying hu]
    case h_6 hu => injection h with h; subst h; cases hx; cases hy; simp [Op.equalIn, run_underlying hu]
    case h_7 hu => injection h with h; subst h; cases hx; obtain ⟨_, rfl⟩ := vr_rptr hy; simp [Op.equalIn, run_underlying hu]
    case h_8 hu => injection h with h; subst h; cases hy; obtain ⟨_, rfl⟩ := vr_rptr hx; simp [Op.equalIn, run_underlying hu]
    case h_9 hu => injection h with h; subst h; cases hx; cases hy; simp [Op.equalIn, run_underlying hu]
    case h_10 hu => injection h with h; subst h; cases hx; cases hy <;> simp [Op.equalIn, run_underlying hu]
    case h_12 hu => injection h with h; subst h; cases hx; cases hy <;> simp [Op.equalIn, run_underlying hu]
    case h_14 hu => injection h with h; subst h; cases hx; cases hy <;> simp [Op.equalIn, run_underlying hu]
    case h_11 hu => injection h with h; subst h; cases hy; cases hx <;> simp [Op.equalIn, run_underlying hu]
    case h_13 hu => injection h with h; subst h; cases hy; cases hx <;> simp [Op.equalIn, run_underlying hu]
    case h_15 hu => injection h with h; subst h; cases hy; cases hx <;> simp [Op.equalIn, run_underlying hu]
    case h_16 hu => injection h with h; subst h; cases hx; cases hy; simp [Op.equalIn, run_underlying hu]
    case h_17 hu => injection h with h; subst h; cases hx; cases hy; simp [Op.equalIn, run_underlying hu]
    case h_18 tx vx ty vy hu =>
      cases hx with
      | iface _ _ a ha =>
      cases hy with
      | iface _ _ b hb =>
      split at h
      · rename_i hne
        injection h with h
        subst h
        simp [Op.equalIn, run_underlying hu, hne]
      · rename_i hne
        have he : tx = ty := by simpa using hne
        subst he
        split at h
        · rename_i i hi
          split at h
          · rename_i hc
            have := xEqIn_sound d d' (by omega) tx vx vy a b r ha hb h
            simp [Op.equalIn, run_underlying hu, run_info hi, hc, this]
          · cases h
        · cases h
    case h_19 fs xs ys hu =>
      split at h
      · cases h
      rename_i hs
      simp only [Bool.or_eq_true, not_or, Bool.not_eq_true] at hs
      cases hx with
      | agg _ us hus =>
      cases hy with
      | agg _ vs hvs =>
      have hf : P.underlying t = some (.struct (P.fieldsOf t)) := by simp [Program.fieldsOf, hu]
      have hfe : P.fieldsOf t = fs := by simp [Program.fieldsOf, hu]
      rw [run_equalIn_struct w d' t us.toArray vs.toArray hf hs.1, hfe]
      exact xEqFields_sound (xEqIn P d) d' (fun t x y u v r a b c => xEqIn_sound d d' (by omega) t x y u v r a b c) (by simpa using hus) (by simpa using hvs) fs.toList r h
    case h_20 => cases h

theorem bitsX_sound {op : BinOp} {k : IntKind} {a b : Int} {v : XV} (h : bitsX op k a b = some v) : ∃ n, v = .int k n ∧ (Op.intBits op k a b).run P w = .ok (.int k n) w := by
  unfold bitsX at h
  split at h <;> first | cases h | skip
  all_goals exact ⟨_, rfl, rfl⟩

theorem eqGuard_int (op : BinOp) (t : TypeId) (x y : Operand) (k k' : IntKind) (a b : Int) : (eqGuard op t x y (.int k a) (.int k' b)).run P w = .ok () w := by
  cases op <;> rfl
theorem eqGuard_str (op : BinOp) (t : TypeId) (x y : Operand) (a b : ByteArray) : (eqGuard op t x y (.string a) (.string b)).run P w = .ok () w := by
  cases op <;> rfl
theorem eqGuard_plain (op : BinOp) (hop : op = .eql ∨ op = .neq) (t : TypeId) (x y : Operand) (u v : Value) (h1 : ∀ (hu : u = .nilIface) (hv : v = .nilIface), False)
    (h2 : ∀ us vs, u = .agg us → v = .agg vs → P.eqGuardType P.depth t = false) : (eqGuard op t x y u v).run P w = .ok () w := by
  have key : (match u, v with
    | .nilIface, .nilIface =>
      if (x matches .const _) || (y matches .const _) then (pure () : Sem Unit) else do
      if ← Op.eqGuardIn Op.maxDepth t u v then unsupported (.noEntry "binop/eql: two nil values of an interface type with methods, neither of them the literal nil")
    | .agg _, .agg _ => do
      if !(← program).eqGuardType (← program).depth t then pure () else
      if ← Op.eqGuardIn Op.maxDepth t u v then unsupported (.noEntry "binop/eql: two nil values of an interface type with methods, in a part of a struct or an array")
    | _, _ => pure ()).run P w = .ok () w := by
    split
    · exact (h1 rfl rfl).elim
    · rename_i us vs
      have := h2 us vs rfl rfl
      simp [this]
    · rfl
  rcases hop with rfl | rfl <;> exact key

/-- what the comparison's guard looks for does not come up -/
theorem xEqIn_guard {d : Nat} {t : TypeId} {x y : XV} {u v : Value} {r : Bool} (hx : VR ρ x u) (hy : VR ρ y v) (h : xEqIn P d t x y = some r) :
    (∀ (hu : u = .nilIface) (hv : v = .nilIface), False) ∧ ∀ us vs, u = .agg us → v = .agg vs → P.eqGuardType P.depth t = false := by
  cases d with
  | zero => simp [xEqIn] at h
  | succ d =>
  constructor
  · rintro rfl rfl
    have e1 := vr_nilIface hx
    have e2 := vr_nilIface hy
    subst e1
    subst e2
    unfold xEqIn at h
    split at h <;> first | cases h | skip
    all_goals simp_all
  · rintro us vs rfl rfl
    obtain ⟨l1, e1⟩ := vr_agg hx
    obtain ⟨l2, e2⟩ := vr_agg hy
    subst e1
    subst e2
    unfold xEqIn at h
    split at h <;> first | cases h | skip
    all_goals simp_all

theorem xbin_int {op : BinOp} {t : TypeId} {k k' : IntKind} {a b : Int} {v : XV} (hb : xbin P op t (.int k a) (.int k' b) = some v) :
    ∃ r, (binOp op t (.int k a) (.int k' b)).run P w = .ok r w ∧ VR ρ v r := by
  cases op
  case shl | shr =>
    simp only [xbin] at hb
    split at hb
    · cases hb
    rename_i hn
    injection hb with hb
    subst hb
    exact ⟨_, by simp only [binOp, Op.shift, if_neg hn]; rfl, .int _ _⟩
  case quo | rem =>
    simp only [xbin] at hb
    split at hb
    · cases hb
    rename_i hk
    have hk' : k = k' := by simpa using hk
    subst hk'
    split at hb
    · cases hb
    rename_i h0
    injection hb with hb
    subst hb
    exact ⟨_, by simp only [binOp, ne_eq, not_true_eq_false, if_false, Op.intDiv, if_neg h0]; rfl, .int _ _⟩
  case and | or | xor | andNot =>
    simp only [xbin] at hb
    split at hb
    · cases hb
    rename_i hk
    have hk' : k = k' := by simpa using hk
    subst hk'
    obtain ⟨n, rfl, hr⟩ := bitsX_sound (P := P) (w := w) hb
    exact ⟨_, by simp only [binOp, ne_eq, not_true_eq_false, if_false]; exact hr, .int _ _⟩
  all_goals
    simp only [xbin, ilt_eq, ile_eq] at hb
    split at hb
    · cases hb
    rename_i hk
    have hk' : k = k' := by simpa using hk
    subst hk'
    injection hb with hb
    subst hb
    exact ⟨_, by simp only [binOp, ne_eq, not_true_eq_false, if_false, Op.intArith, Op.intCmp]; rfl, by constructor⟩

theorem xbin_str {op : BinOp} {t : TypeId} {a b : List UInt8} {v : XV} (hb : xbin P op t (.str a) (.str b) = some v) :
    ∃ r, (binOp op t (.string ⟨a.toArray⟩) (.string ⟨b.toArray⟩)).run P w = .ok r w ∧ VR ρ v r := by
  have hs : ∀ s : List UInt8, (⟨s.toArray⟩ : ByteArray).size = s.length := fun s => by simp [ByteArray.size]
  cases op
  case add =>
    simp only [xbin] at hb
    split at hb
    case isFalse => cases hb
    rename_i hle
    injection hb with hb
    subst hb
    refine ⟨.string ⟨(a ++ b).toArray⟩, ?_, .str _⟩
    have hmax : IntKind.i64.max = 9223372036854775807 := rfl
    have hn : ¬ (((⟨a.toArray⟩ : ByteArray).size + (⟨b.toArray⟩ : ByteArray).size : Nat) : Int) > IntKind.i64.max := by rw [hs, hs, hmax]; omega
    have happ : (⟨a.toArray⟩ : ByteArray) ++ ⟨b.toArray⟩ = ⟨(a ++ b).toArray⟩ := by
      apply ByteArray.ext
      simp [ByteArray.data_append]
    simp only [binOp, Op.stringOp, if_neg hn, happ]
    rfl
  all_goals first
    | (simp only [xbin] at hb
       injection hb with hb
       subst hb
       exact ⟨_, by simp only [binOp, Op.stringOp, toList_arr]; rfl, by constructor⟩)
    | (simp [xbin] at hb)

theorem xbin_sound (h : Rel B w0 ρ S w) {op : BinOp} {t : TypeId} {x y v : XV} {u u' : Value} (ox oy : Operand) (hx : VR ρ x u) (hy : VR ρ y u') (hb : xbin P op t x y = some v) :
    Sim P B w0 base ρ S w (do eqGuard op t ox oy u u'; binOp op t u u') v S := by
  by_cases hints : ∃ k a k' b, x = .int k a ∧ y = .int k' b
  · obtain ⟨k, a, k', b, rfl, rfl⟩ := hints
    cases hx; cases hy
    obtain ⟨r, h1, h2⟩ := xbin_int (ρ := ρ) (w := w) hb
    exact Sim.pure h (by simp only [Sem.run_bind, eqGuard_int, Result.andThen_ok]; exact h1) h2
  by_cases hstrs : ∃ a b, x = .str a ∧ y = .str b
  · obtain ⟨a, b, rfl, rfl⟩ := hstrs
    cases hx; cases hy
    obtain ⟨r, h1, h2⟩ := xbin_str (ρ := ρ) (w := w) hb
    exact Sim.pure h (by simp only [Sem.run_bind, eqGuard_str, Result.andThen_ok]; exact h1) h2
  have key : (op = .eql ∨ op = .neq) ∧ ∃ r, xEqIn P 100 t x y = some r ∧ v = .bool (if op = .eql then r else !r) := by
    unfold xbin at hb
    split at hb
    case h_1 k a k' b => exact absurd ⟨_, _, _, _, rfl, rfl⟩ hints
    case h_2 k a k' b => exact absurd ⟨_, _, _, _, rfl, rfl⟩ hints
    case h_3 k a k' b => exact absurd ⟨_, _, _, _, rfl, rfl⟩ hints
    case h_4 a b => exact absurd ⟨_, _, rfl, rfl⟩ hstrs
    case h_5 a b => exact absurd ⟨_, _, rfl, rfl⟩ hstrs
    case h_6 a b => exact absurd ⟨_, _, rfl, rfl⟩ hstrs
    case h_7 a b => exact absurd ⟨_, _, rfl, rfl⟩ hstrs
    case h_8 a b => exact absurd ⟨_, _, rfl, rfl⟩ hstrs
    case h_9 a b => exact absurd ⟨_, _, rfl, rfl⟩ hstrs
    case h_10 a b => exact absurd ⟨_, _, rfl, rfl⟩ hstrs
    case h_11 =>
      split at hb
      · rename_i r hr; injection hb with hb; exact ⟨.inl rfl, r, hr, by simp [← hb]⟩
      · cases hb
    case h_12 =>
      split at hb
      · rename_i r hr; injection hb with hb; exact ⟨.inr rfl, r, hr, by simp [← hb]⟩
      · cases hb
    case h_13 => cases hb
  obtain ⟨hop, r, hr, rfl⟩ := key
  obtain ⟨g1, g2⟩ := xEqIn_guard hx hy hr
  have hg := eqGuard_plain (P := P) (w := w) op hop t ox oy u u' g1 g2
  have he := xEqIn_sound (P := P) (w := w) 100 Op.maxDepth (by decide) t x y u u' r hx hy hr
  refine Sim.pure h (u := .bool (if op = .eql then r else !r)) ?_ (.bool _)
  simp only [Sem.run_bind, hg, Result.andThen_ok]
  have hni : ∀ k a k' b, ¬ (u = .int k a ∧ u' = .int k' b) := by
    rintro k a k' b ⟨rfl, rfl⟩
    exact hints ⟨_, _, _, _, vr_int hx, vr_int hy⟩
  have hns : ∀ a b, ¬ (u = .string a ∧ u' = .string b) := by
    rintro a b ⟨rfl, rfl⟩
    obtain ⟨_, e1⟩ := vr_str hx
    obtain ⟨_, e2⟩ := vr_str hy
    exact hstrs ⟨_, _, e1, e2⟩
  have hnf : ∀ k a k' b, ¬ (u = .float k a ∧ u' = .float k' b) := by
    rintro k a k' b ⟨rfl, rfl⟩
    exact vr_float hx
  have hnc : ∀ k a b k' c d, ¬ (u = .complex k a b ∧ u' = .complex k' c d) := by
    rintro k a b k' c d ⟨rfl, rfl⟩
    exact vr_complex hx
  rcases hop with rfl | rfl
  · have : binOp .eql t u u' = (do pure (.bool (← Op.equal t u u')) : Sem Value) := by
      unfold binOp
      split <;> first | rfl | (exfalso; simp_all; done) | skip
      all_goals (exfalso; first | exact hni _ _ _ _ ⟨rfl, rfl⟩ | exact hns _ _ ⟨rfl, rfl⟩ | exact hnf _ _ _ _ ⟨rfl, rfl⟩ | exact hnc _ _ _ _ _ _ ⟨rfl, rfl⟩ | simp_all)
    rw [this]
    simp [Op.equal, he]
  · have : binOp .neq t u u' = (do pure (.bool (!(← Op.equal t u u'))) : Sem Value) := by
      unfold binOp
      split <;> first | rfl | (exfalso; simp_all; done) | skip
      all_goals (exfalso; first | exact hni _ _ _ _ ⟨rfl, rfl⟩ | exact hns _ _ ⟨rfl, rfl⟩ | exact hnf _ _ _ _ ⟨rfl, rfl⟩ | exact hnc _ _ _ _ _ _ ⟨rfl, rfl⟩ | simp_all)
    rw [this]
    simp [Op.equal, he]

end
end Go.XM
