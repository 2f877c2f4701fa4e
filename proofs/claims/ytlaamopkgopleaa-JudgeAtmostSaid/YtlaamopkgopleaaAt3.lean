/-
  The law itself, of functions that are known. No condition.
-/
import Derived.Test.YtlaamopkgopleaaAt2
namespace Go.Proofs.Ytlaamopkgopleaa.judgeAtmost
open Go.XM
set_option linter.unusedVariables false

structure BK where
  ok : List XV → Bool
  v : List XV → Bool
def BK.k (b : BK) (id ar : Nat) : Known := ⟨id, ar, b.ok, fun xs => .bool (b.v xs)⟩
noncomputable def BK.q (b : BK) (xs : List XV) (k : Bool → Option XV) : Option XV := gd (b.ok xs) (k (b.v xs))
def zw (a : XV) : List XV := [.agg [.nilSlice, .nilSlice], a, .nilSlice]

theorem e3 (w8 w9 w10 w11 w12 : BK) (a b c : OutX) : run [w8.k 8 3, w9.k 9 2, w10.k 10 2, w11.k 11 2, w12.k 12 0] noLp Try.f3 3 [a.v, b.v, c.v] =
    w8.q (zw a.v) fun x => bif x then tt else w8.q (zw b.v) fun x => bif x then tt else w8.q (zw c.v) fun x => bif x then tt else
    w9.q [a.v, b.v] fun ab => w9.q [b.v, a.v] fun ba => w10.q [a.v, b.v] fun rab => bif !(ab == rab) then ff else
    bif ab then w11.q [a.v, b.v] fun s => bif !(ba == s) then ff else
      (bif !ab then w9.q [a.v, a.v] fun aa => bif aa then w12.q [] fun k => some (.bool k) else ff else
      w9.q [b.v, c.v] fun bc => bif !bc then w9.q [a.v, a.v] fun aa => bif aa then w12.q [] fun k => some (.bool k) else ff else
        w9.q [a.v, c.v] fun ac => bif ac then w9.q [a.v, a.v] fun aa => bif aa then w12.q [] fun k => some (.bool k) else ff else ff)
    else w11.q [a.v, b.v] fun s => bif !(false == s) then ff else
      (bif !ab then w9.q [a.v, a.v] fun aa => bif aa then w12.q [] fun k => some (.bool k) else ff else
      w9.q [b.v, c.v] fun bc => bif !bc then w9.q [a.v, a.v] fun aa => bif aa then w12.q [] fun k => some (.bool k) else ff else
        w9.q [a.v, c.v] fun ac => bif ac then w9.q [a.v, a.v] fun aa => bif aa then w12.q [] fun k => some (.bool k) else ff else ff) := by kernel_rfl
end Go.Proofs.Ytlaamopkgopleaa.judgeAtmost
