/-
  JudgeAtmost's law: what allows no more is a preorder, and both ways round it is sameness. No condition.
-/
import Derived.Test.YtlaamopkgopleaaAt4
namespace Go.Proofs.Ytlaamopkgopleaa.judgeAtmost
open Go.XM
set_option linter.unusedVariables false

theorem same_iff {a b : Out} : same a b = true ↔ a.d.length = b.d.length ∧ a.p.length = b.p.length := by
  unfold same
  rw [Bool.and_eq_true]
  exact ⟨fun h => ⟨Nat.eq_of_beq_eq_true h.1, Nat.eq_of_beq_eq_true h.2⟩, fun h => ⟨by rw [h.1]; exact Nat.beq_refl _, by rw [h.2]; exact Nat.beq_refl _⟩⟩
theorem atmost_iff {a b : Out} : atmost (a, b) = true ↔ (a.d.length = b.d.length ∧ a.p.length = b.p.length) ∧ (∀ k, k < a.p.length → a.p.getD k false = true → b.p.getD k false = true) ∧ ∀ k, k < a.d.length → a.d.getD k 0 ≠ 0 → a.d.getD k 0 = b.d.getD k 0 := by
  unfold atmost
  simp only [Bool.and_eq_true, Bool.not_eq_true', amiss_false, same_iff, and_assoc, bad9p, bad9d, Bool.and_eq_false_iff, Bool.not_eq_false', bne_eq_false_iff_eq]
  constructor
  · rintro ⟨h1, h2, h3, h4⟩
    exact ⟨h1, h2, fun k hk q => (h3 k hk).resolve_left (by rw [q]; decide), fun k hk q => (h4 k hk).resolve_left q⟩
  · rintro ⟨h1, h2, h3, h4⟩
    refine ⟨h1, h2, fun k hk => ?_, fun k hk => ?_⟩
    · cases q : a.p.getD k false with
      | false => exact .inl rfl
      | true => exact .inr (h3 k hk q)
    · by_cases q : a.d.getD k 0 = 0
      · exact .inl q
      · exact .inr (h4 k hk q)
theorem equal_iff {a b : Out} : equal (a, b) = true ↔ (a.d.length = b.d.length ∧ a.p.length = b.p.length) ∧ (∀ k, k < a.d.length → a.d.getD k 0 = b.d.getD k 0) ∧ ∀ k, k < a.p.length → a.p.getD k false = b.p.getD k false := by
  unfold equal
  simp only [Bool.and_eq_true, Bool.not_eq_true', amiss_false, same_iff, and_assoc, bad11p, bad11d, Bool.not_eq_false', bne_eq_false_iff_eq, beq_iff_eq]

theorem refl_ (a : Out) : atmost (a, a) = true := atmost_iff.2 ⟨⟨rfl, rfl⟩, fun _ _ q => q, fun _ _ _ => rfl⟩
theorem trans_ {a b c : Out} (h : atmost (a, b) = true) (k : atmost (b, c) = true) : atmost (a, c) = true := by
  obtain ⟨⟨h1, h2⟩, h3, h4⟩ := atmost_iff.1 h
  obtain ⟨⟨k1, k2⟩, k3, k4⟩ := atmost_iff.1 k
  refine atmost_iff.2 ⟨⟨h1.trans k1, h2.trans k2⟩, fun i hi q => k3 i (h2 ▸ hi) (h3 i hi q), fun i hi q => ?_⟩
  have := h4 i hi q
  rw [this] at q ⊢
  exact k4 i (h1 ▸ hi) q
theorem both_ {a b : Out} : equal (a, b) = (atmost (a, b) && atmost (b, a)) := by
  rw [Bool.eq_iff_iff, Bool.and_eq_true, equal_iff, atmost_iff, atmost_iff]
  constructor
  · rintro ⟨⟨h1, h2⟩, h3, h4⟩
    exact ⟨⟨⟨h1, h2⟩, fun k hk q => by rw [← h4 k hk]; exact q, fun k hk _ => h3 k hk⟩, ⟨h1.symm, h2.symm⟩, fun k hk q => by rw [h4 k (h2 ▸ hk)]; exact q, fun k hk _ => (h3 k (h1 ▸ hk)).symm⟩
  · rintro ⟨⟨⟨h1, h2⟩, h3, h4⟩, _, k3, k4⟩
    refine ⟨⟨h1, h2⟩, fun k hk => ?_, fun k hk => ?_⟩
    · by_cases q : a.d.getD k 0 = 0
      · by_cases q' : b.d.getD k 0 = 0
        · rw [q, q']
        · exact (k4 k (h1 ▸ hk) q').symm
      · exact h4 k hk q
    · have u := h3 k hk
      have v := k3 k (h2 ▸ hk)
      revert u v
      cases a.p.getD k false <;> cases b.p.getD k false <;> simp

/-! ### the law -/
noncomputable def enc3 (x : Out × Out × Out) : List XV := [x.1.x.v, x.2.1.x.v, x.2.2.x.v]
def fit3 (x : Out × Out × Out) : Prop := x.1.fit ∧ x.2.1.fit ∧ x.2.2.fit
theorem inj3 (x y : Out × Out × Out) (h : enc3 x = enc3 y) : x = y := by
  simp only [enc3, List.cons.injEq, and_true] at h
  exact Prod.ext (v_inj h.1) (Prod.ext (v_inj h.2.1) (v_inj h.2.2))
noncomputable def bk {X : Type} (enc : X → List XV) (good : X → Prop) (ans : X → Bool) : BK := ⟨okC enc good, valC enc good ans true⟩
theorem bk_q {X : Type} {enc : X → List XV} {good : X → Prop} {ans : X → Bool} (hinj : ∀ x y, enc x = enc y → x = y) (x : X) (hx : good x) (k : Bool → Option XV) : (bk enc good ans).q (enc x) k = k (ans x) := by
  unfold BK.q bk
  simp only [okC_of hx, valC_of hinj hx]
  rfl
noncomputable def knowns : List Known := [(bk enc8 Out.fit big).k 8 3, (bk enc2 fit2 atmost).k 9 2, (bk enc2 fit2 atmost).k 10 2, (bk enc2 fit2 equal).k 11 2, (bk (fun _ : Unit => []) (fun _ => True) (fun _ => true)).k 12 0]
theorem knows : yes (xcall Try.prog noPrim 60 12 [] 0 XS.none) = true := by kernel_rfl
theorem p12 : Pure Try.prog 12 (known 12 0 (fun _ : Unit => []) (fun _ => True) (fun _ => true) true .bool).F := true_pure Try.checked.mixed good knows (Y := Unit)

theorem law : Pure Try.prog 3 (known 3 3 enc3 fit3 (fun _ => true) true .bool).F := by
  refine known_pure (l := knowns) (live := lives) (fn := Try.f3) (c := body Try.f3) (t := false) (N := 60) (fuel := 60) Try.checked.mixed good (fun e he => ?_) (by kernel_rfl) Try.func3 (by kernel_rfl) (by kernel_rfl) rfl (by decide) (Nat.le_of_ble_eq_true (by kernel_rfl)) inj3 (fun _ => rfl) fun x hx => ?_
  · simp only [knowns, List.mem_cons, List.not_mem_nil, or_false] at he
    rcases he with rfl | rfl | rfl | rfl | rfl
    · exact p8
    · exact p9
    · exact p10
    · exact p11
    · exact p12
  · obtain ⟨a, b, c⟩ := x
    obtain ⟨ha, hb, hc⟩ := hx
    simp only at ha hb hc
    refine ⟨noLp, (fun c' hc g hg => by cases hg), (e3 _ _ _ _ _ a.x b.x c.x).trans ?_⟩
    have q8 : ∀ (x : Out), x.fit → ∀ k, (bk enc8 Out.fit big).q (zw x.x.v) k = k (big x) := fun x hx k => bk_q inj8 x hx k
    have q9 : ∀ (x y : Out), x.fit → y.fit → ∀ k, (bk enc2 fit2 atmost).q [x.x.v, y.x.v] k = k (atmost (x, y)) := fun x y hx hy k => bk_q inj2 (x, y) ⟨hx, hy⟩ k
    have q11 : ∀ (x y : Out), x.fit → y.fit → ∀ k, (bk enc2 fit2 equal).q [x.x.v, y.x.v] k = k (equal (x, y)) := fun x y hx hy k => bk_q inj2 (x, y) ⟨hx, hy⟩ k
    have q12 : ∀ k, (bk (fun _ : Unit => []) (fun _ => True) (fun _ => true)).q [] k = k true := fun k => bk_q (fun _ _ _ => rfl) () trivial k
    simp only [q8 a ha, q8 b hb, q8 c hc, q9 a b ha hb, q9 b a hb ha, q11 a b ha hb, q9 a a ha ha, q9 b c hb hc, q9 a c ha hc, q12, refl_, both_]
    have ht := @trans_ a b c
    revert ht
    cases big a <;> cases big b <;> cases big c <;> cases atmost (a, b) <;> cases atmost (b, a) <;> cases atmost (b, c) <;> cases atmost (a, c) <;> intro ht <;> first | rfl | (have := ht rfl rfl; cases this)
end Go.Proofs.Ytlaamopkgopleaa.judgeAtmost
