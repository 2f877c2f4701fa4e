/-
  The four functions that the law JudgeAtmost reaches, each as a law in plain Lean. No condition.
-/
import Derived.Test.YtlaamopkgopleaaAt3
import Derived.Test.YtlaamopkgopleaaGood
import Derived.Test.YtlaamopkgopleaaXzp
namespace Go.Proofs.Ytlaamopkgopleaa.judgeAtmost
open Go.XM
set_option linter.unusedVariables false

structure Out where
  d : List Int
  p : List Bool
noncomputable def Out.x (a : Out) : OutX := ⟨a.d.map (.int .i64), a.d.length, a.p.map .bool, a.p.length⟩
def Out.fit (a : Out) : Prop := a.d.length ≤ maxLen ∧ a.p.length ≤ maxLen

/-! ### plain answers -/
def bad9p (a b : Out) (k : Nat) : Bool := a.p.getD k false && !(b.p.getD k false)
def bad9d (a b : Out) (k : Nat) : Bool := a.d.getD k 0 != 0 && a.d.getD k 0 != b.d.getD k 0
def bad11d (a b : Out) (k : Nat) : Bool := a.d.getD k 0 != b.d.getD k 0
def bad11p (a b : Out) (k : Nat) : Bool := !(a.p.getD k false == b.p.getD k false)
def same (a b : Out) : Bool := Nat.beq a.d.length b.d.length && Nat.beq a.p.length b.p.length
def atmost (x : Out × Out) : Bool := same x.1 x.2 && !(amiss (bad9p x.1 x.2) x.1.p.length) && !(amiss (bad9d x.1 x.2) x.1.d.length)
def equal (x : Out × Out) : Bool := same x.1 x.2 && !(amiss (bad11d x.1 x.2) x.1.d.length) && !(amiss (bad11p x.1 x.2) x.1.p.length)
def big (a : Out) : Bool := bif ilt 50 a.d.length then true else ilt 50 a.p.length

noncomputable def enc2 (x : Out × Out) : List XV := [x.1.x.v, x.2.x.v]
noncomputable def enc8 (a : Out) : List XV := zw a.x.v
def fit2 (x : Out × Out) : Prop := x.1.fit ∧ x.2.fit

theorem map_inj {α : Type} {f : α → XV} (hf : ∀ a b, f a = f b → a = b) : ∀ l l' : List α, l.map f = l'.map f → l = l'
  | [], [], _ => rfl
  | [], _ :: _, h => by cases h
  | _ :: _, [], h => by cases h
  | a :: l, b :: l', h => by
    simp only [List.map_cons, List.cons.injEq] at h
    rw [hf _ _ h.1, map_inj hf l l' h.2]
theorem v_inj {a b : Out} (h : a.x.v = b.x.v) : a = b := by
  obtain ⟨d, p⟩ := a
  obtain ⟨d', p'⟩ := b
  simp only [Out.x, OutX.v, XV.agg.injEq, List.cons.injEq, XV.row.injEq, true_and, and_true] at h
  rw [map_inj (fun x y q => by injection q) _ _ h.1.1, map_inj (fun x y q => by injection q) _ _ h.2.1]
theorem inj2 (x y : Out × Out) (h : enc2 x = enc2 y) : x = y := by
  simp only [enc2, List.cons.injEq, and_true] at h
  exact Prod.ext (v_inj h.1) (v_inj h.2)
theorem inj8 (x y : Out) (h : enc8 x = enc8 y) : x = y := by
  simp only [enc8, zw, List.cons.injEq, and_true, true_and] at h
  exact v_inj h

/-! ### the loops -/
theorem K_ok {A : Type} : ∀ n, 60 ≤ n → FnOK (A := A) (xcall Try.prog pr n) (kOfK [] noLp) := fun n hn => primK_fn (l := []) (P := Try.prog) (live := lives) rfl (by omega)
abbrev LOK (fn : Func) (f : Nat) (id : Nat) (g : Tmps → XS → (XExit → Tmps → XS → Option XV) → Option XV) : Prop := LpOK Try.prog pr (livesOf fn (pr.live f)) (loop fn id) g

theorem s_next {H : Int → Tmps × XS} {h : Tmps × XS} {b : Bool} {e : XExit} {i : Int} : (bif b then fin e h else next H i) = bif b then some (.inr (e, h)) else some (.inl (H (IntKind.i64.wrap (i + 1)))) := rfl

theorem l9p {a b : Out} (hs : same a b = true) (hf : a.fit) : LOK Try.f9 9 4 (fun T S k => at_ T S (H9p a.x b.x 0).1 (H9p a.x b.x 0).2 (ends (H9p a.x b.x) .ret (.exit 0) (amiss (bad9p a b) a.p.length) (amissAt (bad9p a b) a.p.length) a.p.length k)) := by
  simp only [same, Bool.and_eq_true] at hs
  have hp : a.p.length = b.p.length := Nat.eq_of_beq_eq_true hs.2
  refine scan_ends (N := 60) (fuel := 60) (K := kOfK [] noLp) K_ok (by kernel_rfl) (fun k hk => ?_) ?_ hf.2
  · refine (s9p a.x b.x k).trans ?_
    show (bif ilt k a.p.length then gd (within k a.p.length) (rdB (a.p.map .bool) _ fun v => bif v then gd (within k b.p.length) (rdB (b.p.map .bool) _ _) else _) else _) = _
    rw [ilt_nat, decide_eq_true hk, within_nat hk, within_nat (hp ▸ hk), rdB_at _ _ hk, rdB_at _ _ (hp ▸ hk)]
    unfold bad9p
    cases a.p.getD k false <;> cases b.p.getD k false <;> rfl
  · refine (s9p a.x b.x a.p.length).trans ?_
    show (bif ilt a.p.length a.p.length then _ else _) = _
    rw [ilt_nat, decide_eq_false (Nat.lt_irrefl _)]
    rfl
theorem l9d {a b : Out} (hs : same a b = true) (hf : a.fit) : LOK Try.f9 9 10 (fun T S k => at_ T S (H9d a.x b.x 0).1 (H9d a.x b.x 0).2 (ends (H9d a.x b.x) .ret (.exit 2) (amiss (bad9d a b) a.d.length) (amissAt (bad9d a b) a.d.length) a.d.length k)) := by
  simp only [same, Bool.and_eq_true] at hs
  have hp : a.d.length = b.d.length := Nat.eq_of_beq_eq_true hs.1
  refine scan_ends (N := 60) (fuel := 60) (K := kOfK [] noLp) K_ok (by kernel_rfl) (fun k hk => ?_) ?_ hf.1
  · refine (s9d a.x b.x k).trans ?_
    show (bif ilt k a.d.length then gd (within k a.d.length) (rdI .i64 (a.d.map (.int .i64)) _ fun v => bif v != 0 then gd (within k b.d.length) (rdI .i64 (b.d.map (.int .i64)) _ _) else _) else _) = _
    rw [ilt_nat, decide_eq_true hk, within_nat hk, within_nat (hp ▸ hk), rdI_at _ _ _ hk, rdI_at _ _ _ (hp ▸ hk)]
    unfold bad9d
    cases a.d.getD k 0 != 0 <;> cases a.d.getD k 0 != b.d.getD k 0 <;> rfl
  · refine (s9d a.x b.x a.d.length).trans ?_
    show (bif ilt a.d.length a.d.length then _ else _) = _
    rw [ilt_nat, decide_eq_false (Nat.lt_irrefl _)]
    rfl
theorem l10d {a b : Out} (hs : same a b = true) (hf : a.fit) : LOK Try.f10 10 4 (fun T S k => at_ T S (H10d a.x b.x 0).1 (H10d a.x b.x 0).2 (ends (H10d a.x b.x) .ret (.exit 0) (amiss (bad9d a b) a.d.length) (amissAt (bad9d a b) a.d.length) a.d.length k)) := by
  simp only [same, Bool.and_eq_true] at hs
  have hp : a.d.length = b.d.length := Nat.eq_of_beq_eq_true hs.1
  refine scan_ends (N := 60) (fuel := 60) (K := kOfK [] noLp) K_ok (by kernel_rfl) (fun k hk => ?_) ?_ hf.1
  · refine (s10d a.x b.x k).trans ?_
    show (bif ilt k a.d.length then gd (within k a.d.length) (rdI .i64 (a.d.map (.int .i64)) _ fun v => bif v != 0 then gd (within k a.d.length) (rdI .i64 (a.d.map (.int .i64)) _ fun x => gd (within k b.d.length) (rdI .i64 (b.d.map (.int .i64)) _ _)) else _) else _) = _
    rw [ilt_nat, decide_eq_true hk, within_nat hk, within_nat (hp ▸ hk), rdI_at _ _ _ hk, rdI_at _ _ _ hk, rdI_at _ _ _ (hp ▸ hk)]
    unfold bad9d
    cases a.d.getD k 0 != 0 <;> cases a.d.getD k 0 != b.d.getD k 0 <;> rfl
  · refine (s10d a.x b.x a.d.length).trans ?_
    show (bif ilt a.d.length a.d.length then _ else _) = _
    rw [ilt_nat, decide_eq_false (Nat.lt_irrefl _)]
    rfl
theorem l10p {a b : Out} (hs : same a b = true) (hf : a.fit) : LOK Try.f10 10 9 (fun T S k => at_ T S (H10p a.x b.x 0).1 (H10p a.x b.x 0).2 (ends (H10p a.x b.x) .ret (.exit 2) (amiss (bad9p a b) a.p.length) (amissAt (bad9p a b) a.p.length) a.p.length k)) := by
  simp only [same, Bool.and_eq_true] at hs
  have hp : a.p.length = b.p.length := Nat.eq_of_beq_eq_true hs.2
  refine scan_ends (N := 60) (fuel := 60) (K := kOfK [] noLp) K_ok (by kernel_rfl) (fun k hk => ?_) ?_ hf.2
  · refine (s10p a.x b.x k).trans ?_
    show (bif ilt k a.p.length then gd (within k a.p.length) (rdB (a.p.map .bool) _ fun v => bif v then gd (within k b.p.length) (rdB (b.p.map .bool) _ _) else _) else _) = _
    rw [ilt_nat, decide_eq_true hk, within_nat hk, within_nat (hp ▸ hk), rdB_at _ _ hk, rdB_at _ _ (hp ▸ hk)]
    unfold bad9p
    cases a.p.getD k false <;> cases b.p.getD k false <;> rfl
  · refine (s10p a.x b.x a.p.length).trans ?_
    show (bif ilt a.p.length a.p.length then _ else _) = _
    rw [ilt_nat, decide_eq_false (Nat.lt_irrefl _)]
    rfl
theorem l11d {a b : Out} (hs : same a b = true) (hf : a.fit) : LOK Try.f11 11 4 (fun T S k => at_ T S (H11d a.x b.x 0).1 (H11d a.x b.x 0).2 (ends (H11d a.x b.x) .ret (.exit 0) (amiss (bad11d a b) a.d.length) (amissAt (bad11d a b) a.d.length) a.d.length k)) := by
  simp only [same, Bool.and_eq_true] at hs
  have hp : a.d.length = b.d.length := Nat.eq_of_beq_eq_true hs.1
  refine scan_ends (N := 60) (fuel := 60) (K := kOfK [] noLp) K_ok (by kernel_rfl) (fun k hk => ?_) ?_ hf.1
  · refine (s11d a.x b.x k).trans ?_
    show (bif ilt k a.d.length then gd (within k a.d.length) (rdI .i64 (a.d.map (.int .i64)) _ fun v => gd (within k b.d.length) (rdI .i64 (b.d.map (.int .i64)) _ _)) else _) = _
    rw [ilt_nat, decide_eq_true hk, within_nat hk, within_nat (hp ▸ hk), rdI_at _ _ _ hk, rdI_at _ _ _ (hp ▸ hk)]
    unfold bad11d
    cases a.d.getD k 0 != b.d.getD k 0 <;> rfl
  · refine (s11d a.x b.x a.d.length).trans ?_
    show (bif ilt a.d.length a.d.length then _ else _) = _
    rw [ilt_nat, decide_eq_false (Nat.lt_irrefl _)]
    rfl
theorem l11p {a b : Out} (hs : same a b = true) (hf : a.fit) : LOK Try.f11 11 9 (fun T S k => at_ T S (H11p a.x b.x 0).1 (H11p a.x b.x 0).2 (ends (H11p a.x b.x) .ret (.exit 2) (amiss (bad11p a b) a.p.length) (amissAt (bad11p a b) a.p.length) a.p.length k)) := by
  simp only [same, Bool.and_eq_true] at hs
  have hp : a.p.length = b.p.length := Nat.eq_of_beq_eq_true hs.2
  refine scan_ends (N := 60) (fuel := 60) (K := kOfK [] noLp) K_ok (by kernel_rfl) (fun k hk => ?_) ?_ hf.2
  · refine (s11p a.x b.x k).trans ?_
    show (bif ilt k a.p.length then gd (within k a.p.length) (rdB (a.p.map .bool) _ fun v => gd (within k b.p.length) (rdB (b.p.map .bool) _ _)) else _) = _
    rw [ilt_nat, decide_eq_true hk, within_nat hk, within_nat (hp ▸ hk), rdB_at _ _ hk, rdB_at _ _ (hp ▸ hk)]
    unfold bad11p
    cases a.p.getD k false <;> cases b.p.getD k false <;> rfl
  · refine (s11p a.x b.x a.p.length).trans ?_
    show (bif ilt a.p.length a.p.length then _ else _) = _
    rw [ilt_nat, decide_eq_false (Nat.lt_irrefl _)]
    rfl

/-! ### the functions -/
theorem nat_bne (a b : Nat) : ((a : Int) != (b : Int)) = !(Nat.beq a b) := by
  cases h : Nat.beq a b with
  | true => rw [Nat.eq_of_beq_eq_true h]; simp
  | false =>
    have : a ≠ b := Nat.ne_of_beq_eq_false h
    simp; omega
theorem two_loops {fn : Func} {f i1 i2 : Nat} (hl : loopsIn (body fn) = [loop fn i1, loop fn i2]) (h1 : headId (loop fn i1) = i1) (h2 : headId (loop fn i2) = i2) {lp : Lp} {g1 g2 : Tmps → XS → (XExit → Tmps → XS → Option XV) → Option XV} (e1 : lp i1 = some g1) (e2 : lp i2 = some g2)
    (o1 : LOK fn f i1 g1) (o2 : LOK fn f i2 g2) : ∀ c', c' ∈ loopsIn (body fn) → ∀ g, lp (headId c') = some g → LpOK Try.prog (primK [] lives) (livesOf fn (lives f)) c' g := by
  intro c' hc g hg
  rw [hl] at hc
  simp only [List.mem_cons, List.not_mem_nil, or_false] at hc
  rcases hc with rfl | rfl
  · rw [h1, e1] at hg
    injection hg with hg
    subst hg
    exact o1
  · rw [h2, e2] at hg
    injection hg with hg
    subst hg
    exact o2

theorem p9 : Pure Try.prog 9 (known 9 2 enc2 fit2 atmost true .bool).F := by
  refine known_pure (l := []) (live := lives) (fn := Try.f9) (c := body Try.f9) (t := false) (N := 60) (fuel := 60) Try.checked.mixed good (fun e he => by cases he) rfl Try.func9 (by kernel_rfl) (by kernel_rfl) rfl (by decide) (Nat.le_of_ble_eq_true (by kernel_rfl)) inj2 (fun _ => rfl) fun x hx => ?_
  obtain ⟨a, b⟩ := x
  cases hs : same a b with
  | false =>
    refine ⟨noLp, (fun c' hc g hg => by cases hg), (n9 a.x b.x).trans ?_⟩
    show (bif ((a.d.length : Int) != (b.d.length : Int)) then ff else bif ((a.p.length : Int) != (b.p.length : Int)) then ff else none) = _
    rw [nat_bne, nat_bne]
    unfold atmost
    simp only [hs, Bool.false_and]
    unfold same at hs
    revert hs
    cases Nat.beq a.d.length b.d.length <;> cases Nat.beq a.p.length b.p.length <;> intro hs <;> first | rfl | cases hs
  | true =>
    refine ⟨lp9 a.x b.x (amiss (bad9p a b) a.p.length) (amissAt (bad9p a b) a.p.length) (amiss (bad9d a b) a.d.length) (amissAt (bad9d a b) a.d.length),
      two_loops (by kernel_rfl) (by kernel_rfl) (by kernel_rfl) rfl rfl (l9p hs hx.1) (l9d hs hx.1), (e9 a.x b.x _ _ _ _).trans ?_⟩
    show (bif ((a.d.length : Int) != (b.d.length : Int)) then ff else bif ((a.p.length : Int) != (b.p.length : Int)) then ff else here _ (bif _ then ff else here _ (bif _ then ff else tt))) = _
    rw [nat_bne, nat_bne]
    have hs' := hs
    simp only [same, Bool.and_eq_true] at hs'
    rw [hs'.1, hs'.2]
    unfold here
    rw [at_self, at_self]
    unfold atmost
    simp only [hs, Bool.true_and]
    cases amiss (bad9p a b) a.p.length <;> cases amiss (bad9d a b) a.d.length <;> rfl

theorem p10 : Pure Try.prog 10 (known 10 2 enc2 fit2 atmost true .bool).F := by
  refine known_pure (l := []) (live := lives) (fn := Try.f10) (c := body Try.f10) (t := false) (N := 60) (fuel := 60) Try.checked.mixed good (fun e he => by cases he) rfl Try.func10 (by kernel_rfl) (by kernel_rfl) rfl (by decide) (Nat.le_of_ble_eq_true (by kernel_rfl)) inj2 (fun _ => rfl) fun x hx => ?_
  obtain ⟨a, b⟩ := x
  cases hs : same a b with
  | false =>
    refine ⟨noLp, (fun c' hc g hg => by cases hg), (n10 a.x b.x).trans ?_⟩
    show (bif ((a.d.length : Int) != (b.d.length : Int)) then ff else bif ((a.p.length : Int) != (b.p.length : Int)) then ff else none) = _
    rw [nat_bne, nat_bne]
    unfold atmost
    simp only [hs, Bool.false_and]
    unfold same at hs
    revert hs
    cases Nat.beq a.d.length b.d.length <;> cases Nat.beq a.p.length b.p.length <;> intro hs <;> first | rfl | cases hs
  | true =>
    refine ⟨lp10 a.x b.x (amiss (bad9d a b) a.d.length) (amissAt (bad9d a b) a.d.length) (amiss (bad9p a b) a.p.length) (amissAt (bad9p a b) a.p.length),
      two_loops (by kernel_rfl) (by kernel_rfl) (by kernel_rfl) rfl rfl (l10d hs hx.1) (l10p hs hx.1), (e10 a.x b.x _ _ _ _).trans ?_⟩
    show (bif ((a.d.length : Int) != (b.d.length : Int)) then ff else bif ((a.p.length : Int) != (b.p.length : Int)) then ff else here _ (bif _ then ff else here _ (bif _ then ff else tt))) = _
    rw [nat_bne, nat_bne]
    have hs' := hs
    simp only [same, Bool.and_eq_true] at hs'
    rw [hs'.1, hs'.2]
    unfold here
    rw [at_self, at_self]
    unfold atmost
    simp only [hs, Bool.true_and]
    cases amiss (bad9d a b) a.d.length <;> cases amiss (bad9p a b) a.p.length <;> rfl

theorem p11 : Pure Try.prog 11 (known 11 2 enc2 fit2 equal true .bool).F := by
  refine known_pure (l := []) (live := lives) (fn := Try.f11) (c := body Try.f11) (t := false) (N := 60) (fuel := 60) Try.checked.mixed good (fun e he => by cases he) rfl Try.func11 (by kernel_rfl) (by kernel_rfl) rfl (by decide) (Nat.le_of_ble_eq_true (by kernel_rfl)) inj2 (fun _ => rfl) fun x hx => ?_
  obtain ⟨a, b⟩ := x
  cases hs : same a b with
  | false =>
    refine ⟨noLp, (fun c' hc g hg => by cases hg), (n11 a.x b.x).trans ?_⟩
    show (bif ((a.d.length : Int) != (b.d.length : Int)) then ff else bif ((a.p.length : Int) != (b.p.length : Int)) then ff else none) = _
    rw [nat_bne, nat_bne]
    unfold equal
    simp only [hs, Bool.false_and]
    unfold same at hs
    revert hs
    cases Nat.beq a.d.length b.d.length <;> cases Nat.beq a.p.length b.p.length <;> intro hs <;> first | rfl | cases hs
  | true =>
    refine ⟨lp11 a.x b.x (amiss (bad11d a b) a.d.length) (amissAt (bad11d a b) a.d.length) (amiss (bad11p a b) a.p.length) (amissAt (bad11p a b) a.p.length),
      two_loops (by kernel_rfl) (by kernel_rfl) (by kernel_rfl) rfl rfl (l11d hs hx.1) (l11p hs hx.1), (e11 a.x b.x _ _ _ _).trans ?_⟩
    show (bif ((a.d.length : Int) != (b.d.length : Int)) then ff else bif ((a.p.length : Int) != (b.p.length : Int)) then ff else here _ (bif _ then ff else here _ (bif _ then ff else tt))) = _
    rw [nat_bne, nat_bne]
    have hs' := hs
    simp only [same, Bool.and_eq_true] at hs'
    rw [hs'.1, hs'.2]
    unfold here
    rw [at_self, at_self]
    unfold equal
    simp only [hs, Bool.true_and]
    cases amiss (bad11d a b) a.d.length <;> cases amiss (bad11p a b) a.p.length <;> rfl

theorem p8 : Pure Try.prog 8 (known 8 3 enc8 Out.fit big true .bool).F := by
  refine known_pure (l := []) (live := lives) (fn := Try.f8) (c := body Try.f8) (t := false) (N := 60) (fuel := 60) Try.checked.mixed good (fun e he => by cases he) rfl Try.func8 (by kernel_rfl) (by kernel_rfl) rfl (by decide) (Nat.le_of_ble_eq_true (by kernel_rfl)) inj8 (fun _ => rfl) fun a hx => ?_
  refine ⟨noLp, (fun c' hc g hg => by cases hg), (e8 a.x).trans ?_⟩
  show (bif ilt 50 (a.d.length : Int) then tt else bif ilt 50 (a.p.length : Int) then tt else ff) = some (.bool (bif ilt 50 (a.d.length : Int) then true else ilt 50 (a.p.length : Int)))
  cases ilt 50 (a.d.length : Int) <;> cases ilt 50 (a.p.length : Int) <;> rfl
end Go.Proofs.Ytlaamopkgopleaa.judgeAtmost
