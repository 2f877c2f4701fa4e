/-
  judge.Atmost, the reference's Atmost, SameOut and the law's wide: what each answers, in plain Lean. No condition.
-/
import Derived.Test.YtlaamopkgopleaaAt1
namespace Go.Proofs.Ytlaamopkgopleaa.judgeAtmost
open Go.XM
set_option linter.unusedVariables false

abbrev Lp := Nat → Option (Tmps → XS → (XExit → Tmps → XS → Option XV) → Option XV)
noncomputable def run (l : List Known) (lp : Lp) (fn : Func) (f : Nat) (args : List XV) : Option XV := kcode Try.prog (xcall Try.prog (primK l lives) 60) (kOfK l lp) (livesOf fn ((primK l lives).live f)) 60 0 (body fn) (argsT 0 args []) XS.none (kfin Try.prog fn false)
noncomputable def tt : Option XV := some (.bool true)
noncomputable def ff : Option XV := some (.bool false)
noncomputable def lp9 (a b : OutX) (b1 : Bool) (j1 : Int) (b2 : Bool) (j2 : Int) : Lp
  | 4 => some fun T S k => at_ T S (H9p a b 0).1 (H9p a b 0).2 (ends (H9p a b) .ret (.exit 0) b1 j1 a.np k)
  | 10 => some fun T S k => at_ T S (H9d a b 0).1 (H9d a b 0).2 (ends (H9d a b) .ret (.exit 2) b2 j2 a.nd k)
  | _ => none
noncomputable def lp10 (a b : OutX) (b1 : Bool) (j1 : Int) (b2 : Bool) (j2 : Int) : Lp
  | 4 => some fun T S k => at_ T S (H10d a b 0).1 (H10d a b 0).2 (ends (H10d a b) .ret (.exit 0) b1 j1 a.nd k)
  | 9 => some fun T S k => at_ T S (H10p a b 0).1 (H10p a b 0).2 (ends (H10p a b) .ret (.exit 2) b2 j2 a.np k)
  | _ => none
noncomputable def lp11 (a b : OutX) (b1 : Bool) (j1 : Int) (b2 : Bool) (j2 : Int) : Lp
  | 4 => some fun T S k => at_ T S (H11d a b 0).1 (H11d a b 0).2 (ends (H11d a b) .ret (.exit 0) b1 j1 a.nd k)
  | 9 => some fun T S k => at_ T S (H11p a b 0).1 (H11p a b 0).2 (ends (H11p a b) .ret (.exit 2) b2 j2 a.np k)
  | _ => none
noncomputable def here (h : Tmps × XS) (x : Option XV) : Option XV := at_ h.1 h.2 h.1 h.2 x

theorem n9 (a b : OutX) : run [] noLp Try.f9 9 [a.v, b.v] = bif (a.nd : Int) != (b.nd : Int) then ff else bif (a.np : Int) != (b.np : Int) then ff else none := by kernel_rfl
theorem n10 (a b : OutX) : run [] noLp Try.f10 10 [a.v, b.v] = bif (a.nd : Int) != (b.nd : Int) then ff else bif (a.np : Int) != (b.np : Int) then ff else none := by kernel_rfl
theorem n11 (a b : OutX) : run [] noLp Try.f11 11 [a.v, b.v] = bif (a.nd : Int) != (b.nd : Int) then ff else bif (a.np : Int) != (b.np : Int) then ff else none := by kernel_rfl
theorem e9 (a b : OutX) (b1 : Bool) (j1 : Int) (b2 : Bool) (j2 : Int) : run [] (lp9 a b b1 j1 b2 j2) Try.f9 9 [a.v, b.v] = bif (a.nd : Int) != (b.nd : Int) then ff else bif (a.np : Int) != (b.np : Int) then ff else
    here (H9p a b 0) (bif b1 then ff else here (H9d a b 0) (bif b2 then ff else tt)) := by kernel_rfl
theorem e10 (a b : OutX) (b1 : Bool) (j1 : Int) (b2 : Bool) (j2 : Int) : run [] (lp10 a b b1 j1 b2 j2) Try.f10 10 [a.v, b.v] = bif (a.nd : Int) != (b.nd : Int) then ff else bif (a.np : Int) != (b.np : Int) then ff else
    here (H10d a b 0) (bif b1 then ff else here (H10p a b 0) (bif b2 then ff else tt)) := by kernel_rfl
theorem e11 (a b : OutX) (b1 : Bool) (j1 : Int) (b2 : Bool) (j2 : Int) : run [] (lp11 a b b1 j1 b2 j2) Try.f11 11 [a.v, b.v] = bif (a.nd : Int) != (b.nd : Int) then ff else bif (a.np : Int) != (b.np : Int) then ff else
    here (H11d a b 0) (bif b1 then ff else here (H11p a b 0) (bif b2 then ff else tt)) := by kernel_rfl
theorem e8 (a : OutX) : run [] noLp Try.f8 8 [.agg [.nilSlice, .nilSlice], a.v, .nilSlice] = bif ilt 50 a.nd then tt else bif ilt 50 a.np then tt else ff := by kernel_rfl
end Go.Proofs.Ytlaamopkgopleaa.judgeAtmost
