/-
  The loops of judge.Atmost, of the reference's Atmost and SameOut: what one round does, as the plain machine tells it. No condition.
-/
import Derived.Test.YtlaamopkgopleaaRows
import Derived.Test.YtlaamopkgopleaaXzo
import Derived.KernelRfl
namespace Go.Proofs.Ytlaamopkgopleaa.judgeAtmost
open Go.XM
set_option linter.unusedVariables false
noncomputable def body (fn : Func) : Code := fn.body.getD .skip
noncomputable def noLp {A : Type} : Nat → Option (Tmps → XS → (XExit → Tmps → XS → Option A) → Option A) := fun _ => none
def lives : FuncId → Nat → Option (List Nat)
  | 9, 4 => some [2, 3, 4, 26, 27, 28]
  | 9, 10 => some [3, 4, 44, 45, 46]
  | 10, 4 => some [2, 3, 4, 5]
  | 10, 9 => some [2, 3, 4, 6]
  | 11, 4 => some [2, 3, 4, 5]
  | 11, 9 => some [2, 3, 4, 6]
  | _, _ => none
noncomputable def pr : XPrim := primK [] lives
def findLoop (id : Nat) : List Code → Code
  | [] => .skip
  | c :: r => if Nat.beq (headId c) id then c else findLoop id r
noncomputable def loop (fn : Func) (id : Nat) : Code := findLoop id (loopsIn (body fn))

/-- an answer: its two rows -/
structure OutX where
  d : List XV
  nd : Nat
  p : List XV
  np : Nat
noncomputable def OutX.v (a : OutX) : XV := .agg [.row false false a.d a.nd, .row false false a.p a.np]
noncomputable def OutX.b (a : OutX) : XBlk := .cells [.row false false a.d a.nd, .row false false a.p a.np] .own

abbrev Ans := Option ((Tmps × XS) ⊕ (XExit × Tmps × XS))
noncomputable def round (fn : Func) (f id : Nat) (h : Tmps × XS) : Ans := kcode Try.prog (xcall Try.prog pr 60) (kOfK [] noLp) (livesOf fn (pr.live f)) 60 0 (loop fn id) h.1 h.2 (kround (livesOf fn (pr.live f)) (loop fn id))
noncomputable def next (H : Int → Tmps × XS) (i : Int) : Ans := some (.inl (H (IntKind.i64.wrap (i + 1))))
noncomputable def fin (e : XExit) (h : Tmps × XS) : Ans := some (.inr (e, h))

noncomputable def H9p (a b : OutX) (i : Int) : Tmps × XS := (mkT 8 [(2, .ptr 0 0), (3, .ptr 1 0), (4, .bool false), (26, .row false false a.p a.np), (27, .int .i64 a.np), (28, .int .i64 i)], ⟨[b.b, a.b], 2, []⟩)
noncomputable def H9d (a b : OutX) (i : Int) : Tmps × XS := (mkT 8 [(3, .ptr 0 0), (4, .bool false), (44, .row false false a.d a.nd), (45, .int .i64 a.nd), (46, .int .i64 i)], ⟨[b.b], 1, []⟩)
noncomputable def H10d (a b : OutX) (i : Int) : Tmps × XS := (mkT 9 [(2, .ptr 0 0), (3, .ptr 1 0), (4, .bool false), (5, .int .i64 i)], ⟨[b.b, a.b], 2, []⟩)
noncomputable def H10p (a b : OutX) (i : Int) : Tmps × XS := (mkT 9 [(2, .ptr 0 0), (3, .ptr 1 0), (4, .bool false), (6, .int .i64 i)], ⟨[b.b, a.b], 2, []⟩)
noncomputable def H11d (a b : OutX) (i : Int) : Tmps × XS := (mkT 8 [(2, .ptr 0 0), (3, .ptr 1 0), (4, .bool false), (5, .int .i64 i)], ⟨[b.b, a.b], 2, []⟩)
noncomputable def H11p (a b : OutX) (i : Int) : Tmps × XS := (mkT 8 [(2, .ptr 0 0), (3, .ptr 1 0), (4, .bool false), (6, .int .i64 i)], ⟨[b.b, a.b], 2, []⟩)

theorem s9p (a b : OutX) (i : Int) : round Try.f9 9 4 (H9p a b i) =
    bif ilt i a.np then gd (within i a.np) (rdB a.p (i.toNat * 1) fun v => bif v then gd (within i b.np) (rdB b.p (i.toNat * 1) fun w => bif !w then fin .ret (H9p a b i) else next (H9p a b) i) else next (H9p a b) i) else fin (.exit 0) (H9p a b i) := by kernel_rfl
theorem s9d (a b : OutX) (i : Int) : round Try.f9 9 10 (H9d a b i) =
    bif ilt i a.nd then gd (within i a.nd) (rdI .i64 a.d (i.toNat * 1) fun v => bif v != 0 then gd (within i b.nd) (rdI .i64 b.d (i.toNat * 1) fun w => bif v != w then fin .ret (H9d a b i) else next (H9d a b) i) else next (H9d a b) i) else fin (.exit 2) (H9d a b i) := by kernel_rfl
theorem s10d (a b : OutX) (i : Int) : round Try.f10 10 4 (H10d a b i) =
    bif ilt i a.nd then gd (within i a.nd) (rdI .i64 a.d (i.toNat * 1) fun v => bif v != 0 then gd (within i a.nd) (rdI .i64 a.d (i.toNat * 1) fun x => gd (within i b.nd) (rdI .i64 b.d (i.toNat * 1) fun w => bif x != w then fin .ret (H10d a b i) else next (H10d a b) i)) else next (H10d a b) i) else fin (.exit 0) (H10d a b i) := by kernel_rfl
theorem s10p (a b : OutX) (i : Int) : round Try.f10 10 9 (H10p a b i) =
    bif ilt i a.np then gd (within i a.np) (rdB a.p (i.toNat * 1) fun v => bif v then gd (within i b.np) (rdB b.p (i.toNat * 1) fun w => bif !w then fin .ret (H10p a b i) else next (H10p a b) i) else next (H10p a b) i) else fin (.exit 2) (H10p a b i) := by kernel_rfl
theorem s11d (a b : OutX) (i : Int) : round Try.f11 11 4 (H11d a b i) =
    bif ilt i a.nd then gd (within i a.nd) (rdI .i64 a.d (i.toNat * 1) fun v => gd (within i b.nd) (rdI .i64 b.d (i.toNat * 1) fun w => bif v != w then fin .ret (H11d a b i) else next (H11d a b) i)) else fin (.exit 0) (H11d a b i) := by kernel_rfl
theorem s11p (a b : OutX) (i : Int) : round Try.f11 11 9 (H11p a b i) =
    bif ilt i a.np then gd (within i a.np) (rdB a.p (i.toNat * 1) fun v => gd (within i b.np) (rdB b.p (i.toNat * 1) fun w => bif !(v == w) then fin .ret (H11p a b i) else next (H11p a b) i)) else fin (.exit 2) (H11p a b i) := by kernel_rfl
end Go.Proofs.Ytlaamopkgopleaa.judgeAtmost
