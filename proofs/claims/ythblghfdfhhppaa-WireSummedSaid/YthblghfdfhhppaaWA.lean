/-
  Sums of bytes, the program's and the reference's: what one round of each loop does, as the plain machine tells it. No condition.
-/
import Derived.Test.YthblghfdfhhppaaRows
import Derived.Test.YthblghfdfhhppaaXF
import Derived.KernelRfl
import Derived.Test.YthblghfdfhhppaaXE
namespace Go.Proofs.Ythblghfdfhhppaa
open Go.XM
set_option linter.unusedVariables false
set_option linter.unusedSimpArgs false
noncomputable def body (fn : Func) : Code := fn.body.getD .skip
noncomputable def noLp {A : Type} : Loops A := fun _ => none
def lives : FuncId → Nat → Option (List Nat)
  | 5, 6 => some [0, 2, 3, 4, 6, 22, 23]
  | 6, 10 => some [2, 3, 4, 5, 6, 7]
  | 7, 4 => some [0, 1, 4, 5]
  | 10, 5 => some [0, 2, 3, 4, 16, 17]
  | 15, 3 => some [0, 2, 3, 4]
  | 32, 3 => some [0, 4, 10]
  | 25, 3 => some [2, 3, 8, 9, 10]
  | 25, 6 => some [2, 3, 8, 9, 10, 14, 15, 16]
  | 9, 3 => some [0, 2, 3, 4]
  | 9, 7 => some [0, 2, 3, 4, 5]
  | 12, 5 => some [0, 1, 4, 5, 6, 7, 16, 17, 18]
  | 24, 2 => some [0, 1, 2, 6, 8, 9]
  | _, _ => none
def findLoop (id : Nat) : List Code → Code
  | [] => .skip
  | c :: r => if Nat.beq (headId c) id then c else findLoop id r
noncomputable def loop (fn : Func) (id : Nat) : Code := findLoop id (loopsIn (body fn))
abbrev Ans := Option ((Tmps × XS) ⊕ (XExit × Tmps × XS))
/-- a round of the loop c, of known functions l, functions I run in place, loops lp -/
noncomputable def roundC (l : List Known) (I : List Nat) (lp : Loops ((Tmps × XS) ⊕ (XExit × Tmps × XS))) (fn : Func) (f : Nat) (c : Code) (h : Tmps × XS) : Ans := kcode Try.prog (xcall Try.prog (primK l lives) 60) (kOfI Try.prog l lives I 60 60 5 lp) (livesOf fn (lives f)) 60 0 c h.1 h.2 (kround (livesOf fn (lives f)) c)
noncomputable def run (l : List Known) (I : List Nat) (lp : Loops XV) (fn : Func) (f : Nat) (t : Bool) (args : List XV) : Option XV := kcode Try.prog (xcall Try.prog (primK l lives) 60) (kOfI Try.prog l lives I 60 60 5 lp) (livesOf fn (lives f)) 60 0 (body fn) (argsT 0 args []) XS.none (kfin Try.prog fn t)
noncomputable def next (h : Tmps × XS) : Ans := some (.inl h)
noncomputable def fin (e : XExit) (h : Tmps × XS) : Ans := some (.inr (e, h))

/-! ### arithmetic as the machine has it -/
def u32xor (a b : Int) : Int := IntKind.u32.wrap (BitVec.ofInt 32 a ^^^ BitVec.ofInt 32 b).toNat
def u32and (a b : Int) : Int := IntKind.u32.wrap (BitVec.ofInt 32 a &&& BitVec.ofInt 32 b).toNat
def u32shr1 (a : Int) : Int := a.fdiv (2 ^ 1)
def inc (i : Int) : Int := IntKind.i64.wrap (i + 1)
def turn (s : Int) : Int := bif u32and s 1 == 1 then u32xor (u32shr1 s) 2197175160 else u32shr1 s

/-! ### one -/
noncomputable def H32 (i : Int) (s : Int) : Tmps × XS := (mkT 3 [(0, .int .u32 s), (4, .int .u32 0), (10, .int .i64 i)], XS.none)
theorem s32 (i s : Int) : roundC [] [] noLp Try.f32 32 (loop Try.f32 3) (H32 i s) = bif ilt i 8 then (bif u32and s 1 == 1 then next (H32 (inc i) (u32xor (u32shr1 s) 2197175160)) else next (H32 (inc i) (u32shr1 s))) else fin (.exit 0) (H32 i s) := by kernel_rfl

/-- a function known by two laws: where it answers, and what whole number -/
structure IK where
  ok : List XV → Bool
  v : List XV → Int
def IK.k (b : IK) (id ar : Nat) (kd : IntKind) : Known := ⟨id, ar, b.ok, fun xs => .int kd (b.v xs)⟩

theorem e32 (s c s' : Int) : run [] [] (fun id => if Nat.beq id 3 then some fun T S k => at_ T S (H32 0 (u32xor s (IntKind.u32.wrap c))).1 (H32 0 (u32xor s (IntKind.u32.wrap c))).2 (k (.exit 0) (H32 8 s').1 (H32 8 s').2) else none) Try.f32 32 false [.int .u32 s, .int .u8 c] =
    at_ (H32 0 (u32xor s (IntKind.u32.wrap c))).1 (H32 0 (u32xor s (IntKind.u32.wrap c))).2 (H32 0 (u32xor s (IntKind.u32.wrap c))).1 (H32 0 (u32xor s (IntKind.u32.wrap c))).2 (some (.int .u32 s')) := by kernel_rfl

/-! ### Of, of one row -/
structure RX where
  t : Bool
  m : Bool
  c : List XV
  n : Nat
def RX.v (a : RX) : XV := .row a.t a.m a.c a.n
def rowOne (t : Bool) (a : RX) : XV := .row t true [a.v] 1
noncomputable def H25 (t : Bool) (a : RX) (i s : Int) : Tmps × XS := (mkT 4 [(2, .int .u32 0), (3, .int .u32 s), (8, rowOne t a), (9, .int .i64 1), (10, .int .i64 i)], XS.none)
noncomputable def H25i (t : Bool) (a : RX) (i s : Int) : Tmps × XS := (mkT 4 [(2, .int .u32 0), (3, .int .u32 s), (8, rowOne t a), (9, .int .i64 1), (10, .int .i64 0), (14, a.v), (15, .int .i64 a.n), (16, .int .i64 i)], XS.none)
theorem s25i (b : IK) (t : Bool) (a : RX) (i s : Int) : roundC [b.k 32 2 .u32] [] noLp Try.f25 25 (findLoop 6 (loopsIn (loop Try.f25 3))) (H25i t a i s) = bif ilt i a.n then gd (within i a.n) (rdI .u8 a.c (i.toNat * 1) fun x => gd (b.ok [.int .u32 s, .int .u8 x]) (next (H25i t a (inc i) (b.v [.int .u32 s, .int .u8 x])))) else fin (.exit 2) (H25i t a i s) := by kernel_rfl
noncomputable def lp25 (t : Bool) (a : RX) (s s' : Int) : Loops ((Tmps × XS) ⊕ (XExit × Tmps × XS))
  | 6 => some fun T S k => at_ T S (H25i t a 0 s).1 (H25i t a 0 s).2 (k (.exit 2) (H25i t a a.n s').1 (H25i t a a.n s').2)
  | _ => none
theorem s25a (b : IK) (t : Bool) (a : RX) (s s' : Int) : roundC [b.k 32 2 .u32] [] (lp25 t a s s') Try.f25 25 (loop Try.f25 3) (H25 t a 0 s) = at_ (H25i t a 0 s).1 (H25i t a 0 s).2 (H25i t a 0 s).1 (H25i t a 0 s).2 (next (H25 t a 1 s')) := by kernel_rfl
theorem s25b (b : IK) (t : Bool) (a : RX) (s s' s1 : Int) : roundC [b.k 32 2 .u32] [] (lp25 t a s s') Try.f25 25 (loop Try.f25 3) (H25 t a 1 s1) = fin (.exit 0) (H25 t a 1 s1) := by kernel_rfl
theorem e25 (b : IK) (t : Bool) (a : RX) (s' : Int) : run [b.k 32 2 .u32] [] (fun id => if Nat.beq id 3 then some fun T S k => at_ T S (H25 t a 0 4294967295).1 (H25 t a 0 4294967295).2 (k (.exit 0) (H25 t a 1 s').1 (H25 t a 1 s').2) else none) Try.f25 25 false [rowOne t a] =
    at_ (H25 t a 0 4294967295).1 (H25 t a 0 4294967295).2 (H25 t a 0 4294967295).1 (H25 t a 0 4294967295).2 (some (.int .u32 (u32xor 4294967295 s'))) := by kernel_rfl

/-! ### the reference's Of -/
noncomputable def H9 (a : RX) (i s : Int) : Tmps × XS := (mkT 5 [(0, a.v), (2, .int .u32 0), (3, .int .u32 s), (4, .int .i64 i)], XS.none)
noncomputable def H9i (a : RX) (j : Int) (i s : Int) : Tmps × XS := (mkT 5 [(0, a.v), (2, .int .u32 0), (3, .int .u32 s), (4, .int .i64 j), (5, .int .i64 i)], XS.none)
theorem s9i (a : RX) (j i s : Int) : roundC [] [] noLp Try.f9 9 (findLoop 7 (loopsIn (loop Try.f9 3))) (H9i a j i s) = bif ilt i 8 then (bif u32and s 1 == 1 then next (H9i a j (inc i) (u32xor (u32shr1 s) 2197175160)) else next (H9i a j (inc i) (u32shr1 s))) else fin (.exit 2) (H9i a j i s) := by kernel_rfl
noncomputable def lp9 (a : RX) (j s s' : Int) : Loops ((Tmps × XS) ⊕ (XExit × Tmps × XS))
  | 7 => some fun T S k => at_ T S (H9i a j 0 s).1 (H9i a j 0 s).2 (k (.exit 2) (H9i a j 8 s').1 (H9i a j 8 s').2)
  | _ => none
theorem s9 (a : RX) (j s s0 s' : Int) : roundC [] [] (lp9 a j s0 s') Try.f9 9 (loop Try.f9 3) (H9 a j s) = bif ilt j a.n then gd (within j a.n) (rdI .u8 a.c (j.toNat * 1) fun x => at_ (H9i a j 0 (u32xor s (IntKind.u32.wrap x))).1 (H9i a j 0 (u32xor s (IntKind.u32.wrap x))).2 (H9i a j 0 s0).1 (H9i a j 0 s0).2 (next (H9 a (inc j) s'))) else fin (.exit 0) (H9 a j s) := by kernel_rfl
theorem e9 (a : RX) (s' : Int) : run [] [] (fun id => if Nat.beq id 3 then some fun T S k => at_ T S (H9 a 0 4294967295).1 (H9 a 0 4294967295).2 (k (.exit 0) (H9 a a.n s').1 (H9 a a.n s').2) else none) Try.f9 9 false [a.v] =
    at_ (H9 a 0 4294967295).1 (H9 a 0 4294967295).2 (H9 a 0 4294967295).1 (H9 a 0 4294967295).2 (some (.int .u32 (u32xor 4294967295 s'))) := by kernel_rfl

/-! ### taken -/
def u64or (a b : Int) : Int := IntKind.u64.wrap (BitVec.ofInt 64 a ||| BitVec.ofInt 64 b).toNat
def u64shl8 (a : Int) : Int := IntKind.u64.wrap (a * 2 ^ 8)
def push8 (z x : Int) : Int := u64or (u64shl8 z) (IntKind.u64.wrap x)
/-- a cut of a row -/
def RX.cut (a : RX) (l h : Nat) : RX := ⟨a.t, a.m && h == a.n, (a.c.drop (l * 1)).take ((h - l) * 1), h - l⟩
noncomputable def H12 (a : RX) (n i z : Int) : Tmps × XS := (mkT 5 [(0, a.v), (1, .int .i64 n), (4, .int .u64 0), (5, .nilSlice), (6, .bool false), (7, .int .u64 z), (16, (a.cut 0 n.toNat).v), (17, .int .i64 (a.cut 0 n.toNat).n), (18, .int .i64 i)], XS.none)
theorem s12 (a : RX) (n i z : Int) : roundC [] [] noLp Try.f12 12 (loop Try.f12 5) (H12 a n i z) = bif ilt i (a.cut 0 n.toNat).n then gd (within i (a.cut 0 n.toNat).n) (rdI .u8 (a.cut 0 n.toNat).c (i.toNat * 1) fun x => next (H12 a n (inc i) (push8 z x))) else fin (.exit 0) (H12 a n i z) := by kernel_rfl
theorem e12 (a : RX) (n z : Int) (e : Nat) : run [] [] (fun id => if Nat.beq id 5 then some fun T S k => at_ T S (H12 a n 0 0).1 (H12 a n 0 0).2 (k (.exit 0) (H12 a n e z).1 (H12 a n e z).2) else none) Try.f12 12 true [a.v, .int .i64 n] =
    bif ilt a.n n then some (.tuple [.int .u64 0, .row true true [] 0, .bool false]) else gd (upto n a.n) (at_ (H12 a n 0 0).1 (H12 a n 0 0).2 (H12 a n 0 0).1 (H12 a n 0 0).2 (gd (upto n a.n) (some (.tuple [.int .u64 z, (a.cut n.toNat a.n).v, .bool true])))) := by kernel_rfl
end Go.Proofs.Ythblghfdfhhppaa

namespace Go.Proofs.Ythblghfdfhhppaa
open Go.XM
set_option linter.unusedVariables false
set_option linter.unusedSimpArgs false

abbrev Bs := List UInt8
def iv (b : UInt8) : Int := (b.toNat : Int)
inductive Th where
  | num (n : Int)
  | txt (s : Bs)
  | tru (b : Bool)
  deriving DecidableEq

theorem snoc_ind {α : Type} {p : List α → Prop} (h0 : p []) (h1 : ∀ l x, p l → p (l ++ [x])) (l : List α) : p l := by
  have : ∀ r : List α, p r.reverse := fun r => by
    induction r with
    | nil => exact h0
    | cons x r ih => rw [List.reverse_cons]; exact h1 _ _ ih
  have := this l.reverse
  rwa [List.reverse_reverse] at this

/-! ### sums -/
def times8 (f : Int → Int) (s : Int) : Int := f (f (f (f (f (f (f (f s)))))))
def crc1 (s : Int) (x : UInt8) : Int := times8 turn (u32xor s (IntKind.u32.wrap (iv x)))
def crc (l : Bs) : Int := u32xor 4294967295 (l.foldl crc1 4294967295)

/-! ### numbers -/
def nat (l : Bs) : Nat := l.foldl (fun z x => z * 256 + x.toNat) 0
def num (l : Bs) : Int := l.foldl (fun z x => push8 z (iv x)) 0

theorem or_add (z x : Nat) (hx : x < 256) : z * 256 ||| x = z * 256 + x := by
  have := Nat.two_pow_add_eq_or_of_lt (i := 8) (b := x) (by simpa using hx) z
  rw [show (2 ^ 8 : Nat) = 256 from rfl] at this
  rw [Nat.mul_comm z 256]
  exact this.symm
theorem push8_nat (z x : Nat) (hz : z < 2 ^ 56) (hx : x < 256) : push8 (z : Int) (x : Int) = ((z * 256 + x : Nat) : Int) := by
  have h1 : u64shl8 (z : Int) = ((z * 256 : Nat) : Int) := by
    unfold u64shl8
    rw [IntWalk.u64_in _ ⟨by omega, by omega⟩]
    omega
  have h2 : IntKind.u64.wrap (x : Int) = (x : Int) := IntWalk.u64_in _ ⟨by omega, by omega⟩
  unfold push8
  rw [h1, h2]
  unfold u64or
  have h3 : BitVec.ofInt 64 ((z * 256 : Nat) : Int) = BitVec.ofNat 64 (z * 256) := BitVec.ofInt_natCast _ _
  have h4 : BitVec.ofInt 64 (x : Int) = BitVec.ofNat 64 x := BitVec.ofInt_natCast _ _
  rw [h3, h4, BitVec.toNat_or, BitVec.toNat_ofNat, BitVec.toNat_ofNat, Nat.mod_eq_of_lt (by omega), Nat.mod_eq_of_lt (by omega), or_add z x hx]
  exact IntWalk.u64_in _ ⟨by omega, by omega⟩

theorem nat_snoc (l : Bs) (x : UInt8) : nat (l ++ [x]) = nat l * 256 + x.toNat := by simp [nat]
theorem nat_lt (l : Bs) : nat l < 256 ^ l.length := by
  induction l using snoc_ind with
  | h0 => simp [nat]
  | h1 l x ih =>
    rw [nat_snoc, List.length_append, List.length_singleton, Nat.pow_succ]
    have := x.toNat_lt
    omega
theorem num_nat (l : Bs) (h : l.length ≤ 8) : num l = (nat l : Int) := by
  induction l using snoc_ind with
  | h0 => rfl
  | h1 l x ih =>
    rw [List.length_append, List.length_singleton] at h
    have hn := nat_lt l
    have hp : 256 ^ l.length ≤ 256 ^ 7 := Nat.pow_le_pow_right (by decide) (by omega)
    have : num (l ++ [x]) = push8 (num l) (iv x) := by simp [num]
    rw [this, ih (by omega), nat_snoc]
    exact push8_nat _ _ (by omega) x.toNat_lt

/-- byte number k (from the right) of a number -/
def ub (n : Nat) (k : Nat) : UInt8 := UInt8.ofNat (n / 256 ^ k)
/-- a number in so many bytes -/
def bigB (n : Nat) : Nat → Bs
  | 0 => []
  | k + 1 => ub n k :: bigB n k
theorem bigB_len (n : Nat) : ∀ k, (bigB n k).length = k
  | 0 => rfl
  | k + 1 => by simp [bigB, bigB_len n k]
theorem nat_app : ∀ a b : Bs, nat (a ++ b) = nat a * 256 ^ b.length + nat b := fun a b => by
  induction b using snoc_ind with
  | h0 => simp [nat]
  | h1 b x ih =>
    rw [← List.append_assoc, nat_snoc, ih, nat_snoc, List.length_append, List.length_singleton, Nat.pow_succ, Nat.add_mul, Nat.mul_assoc, Nat.add_assoc]
theorem nat_one (x : UInt8) : nat [x] = x.toNat := by simp [nat]
theorem nat_big (n : Nat) : ∀ k, nat (bigB n k) = n % 256 ^ k
  | 0 => by simp [bigB, nat, Nat.mod_one]
  | k + 1 => by
    have := nat_app [ub n k] (bigB n k)
    rw [List.singleton_append] at this
    rw [bigB, this, nat_one, nat_big n k, bigB_len]
    unfold ub
    rw [UInt8.toNat_ofNat', show (2 : Nat) ^ 8 = 256 from rfl, Nat.pow_succ, Nat.mod_mul (a := 256 ^ k) (b := 256)]
    rw [Nat.mul_comm, Nat.add_comm]
theorem nat_inj : ∀ a b : Bs, a.length = b.length → nat a = nat b → a = b
  | [], [], _, _ => rfl
  | [], _ :: _, h, _ => by cases h
  | _ :: _, [], h, _ => by cases h
  | x :: a, y :: b, h, hn => by
    have h1 := nat_app [x] a
    have h2 := nat_app [y] b
    rw [List.singleton_append, nat_one] at h1 h2
    simp only [List.length_cons, Nat.add_right_cancel_iff] at h
    rw [h1, h2, h] at hn
    have l1 := nat_lt a
    have l2 := nat_lt b
    rw [h] at l1
    have hxy : x.toNat = y.toNat := by
      have e1 := congrArg (· / 256 ^ b.length) hn
      rw [Nat.mul_comm, Nat.mul_add_div (by omega), Nat.mul_comm y.toNat, Nat.mul_add_div (by omega), Nat.div_eq_of_lt l1, Nat.div_eq_of_lt l2] at e1
      omega
    rw [hxy] at hn
    rw [UInt8.toNat_inj.1 hxy, nat_inj a b h (by omega)]
theorem big_nat (l : Bs) (k : Nat) (h : l.length = k) : bigB (nat l) k = l := by
  refine nat_inj _ _ (by rw [bigB_len, h]) ?_
  rw [nat_big]
  exact Nat.mod_eq_of_lt (h ▸ nat_lt l)
theorem big_eq_iff (l : Bs) (k n : Nat) (h : l.length = k) (hn : n < 256 ^ k) : l = bigB n k ↔ nat l = n := by
  constructor
  · rintro e
    rw [e, nat_big]
    exact Nat.mod_eq_of_lt hn
  · rintro rfl
    exact (big_nat l k h).symm

/-! ### things as bytes -/
def uint (n : Int) : Nat := (IntKind.u64.wrap n).toNat
def tb : Th → Bs
  | .num n => 1 :: bigB (uint n) 8
  | .txt s => 2 :: UInt8.ofNat s.length :: s
  | .tru b => [3, if b then 1 else 0]
def bodyOf (l : List Th) : Bs := UInt8.ofNat l.length :: l.flatMap tb
def fits : Th → Bool
  | .txt s => s.length ≤ 200
  | _ => true
def packed (b : Bs) : Bs := bigB (crc b).toNat 4 ++ bigB b.length 2 ++ b
def pack (l : List Th) : Option Bs := if l.all fits ∧ (bodyOf l).length ≤ 4000 then some (packed (bodyOf l)) else none

/-- the next thing, taken leniently -/
def takeL : Bs → Option (Th × Bs)
  | [] => none
  | k :: r =>
    if k = 1 then (if 8 ≤ r.length then some (.num (IntKind.i64.wrap (num (r.take 8))), r.drop 8) else none)
    else if k = 2 then (match r with
      | [] => none
      | n :: r2 => if n.toNat ≤ r2.length then some (.txt (r2.take n.toNat), r2.drop n.toNat) else none)
    else if k = 3 then (match r with
      | [] => none
      | v :: r2 => some (.tru (v == 1), r2))
    else none
/-- strictly -/
def takeS : Bs → Option (Th × Bs)
  | [] => none
  | k :: r =>
    if k = 1 then (if 8 ≤ r.length then some (.num (IntKind.i64.wrap (num (r.take 8))), r.drop 8) else none)
    else if k = 2 then (match r with
      | [] => none
      | n :: r2 => if n.toNat ≤ 200 ∧ n.toNat ≤ r2.length then some (.txt (r2.take n.toNat), r2.drop n.toNat) else none)
    else if k = 3 then (match r with
      | [] => none
      | v :: r2 => if v.toNat ≤ 1 then some (.tru (v == 1), r2) else none)
    else none
/-- so many things, behind those that are there; no more than a hundred -/
def many (take : Bs → Option (Th × Bs)) : Nat → List Th → Bs → Option (List Th × Bs)
  | 0, l, b => some (l, b)
  | n + 1, l, b => match take b with
    | none => none
    | some (t, r) => if l.length < 100 then many take n (l ++ [t]) r else none

def unpackP (b : Bs) : Option (List Th) := match b.drop 6 with
    | [] => none
    | n :: r => match many takeL n.toNat [] r with
      | none => none
      | some (l, _) => if pack l = some b then some l else none
def unpackR (b : Bs) : Option (List Th) := if b.length < 7 ∨ 4000 < b.length - 6 then none else
    if num (b.take 4) ≠ crc (b.drop 6) ∨ num ((b.drop 4).take 2) ≠ (b.drop 6).length then none else
    match b.drop 6 with
    | [] => none
    | n :: r => match many takeS n.toNat [] r with
      | none => none
      | some (l, rest) => if rest = [] then some l else none

theorem u64_neg' {n : Int} (h0 : n < 0) (h1 : -18446744073709551616 ≤ n) : IntKind.u64.wrap n = n + 18446744073709551616 := by rw [IntKind.wrap_u64]; omega
theorem i64_u64 (n : Nat) (h : n < 2 ^ 64) : uint (IntKind.i64.wrap (n : Int)) = n := by
  unfold uint
  rw [IntKind.wrap_i64]
  by_cases hn : n < 2 ^ 63
  · rw [IntWalk.u64_in _ ⟨by omega, by omega⟩]; omega
  · rw [u64_neg' (by omega) (by omega)]; omega
theorem takeL_of_S {b : Bs} {t : Th} {r : Bs} (h : takeS b = some (t, r)) : takeL b = some (t, r) ∧ fits t = true ∧ b = tb t ++ r := by
  unfold takeS at h
  unfold takeL
  cases b with
  | nil => cases h
  | cons k b =>
    simp only at h ⊢
    by_cases h1 : k = 1
    · rw [if_pos h1] at h ⊢
      by_cases h2 : 8 ≤ b.length
      · rw [if_pos h2] at h ⊢
        simp only [Option.some.injEq, Prod.mk.injEq] at h
        obtain ⟨rfl, rfl⟩ := h
        refine ⟨rfl, rfl, ?_⟩
        have hl : (b.take 8).length = 8 := by rw [List.length_take]; omega
        have hn := nat_lt (b.take 8)
        rw [hl] at hn
        simp only [tb, h1, num_nat _ (Nat.le_of_eq hl), i64_u64 _ hn, big_nat _ 8 hl, List.cons_append, List.take_append_drop]
      · rw [if_neg h2] at h; cases h
    · rw [if_neg h1] at h ⊢
      by_cases h2 : k = 2
      · rw [if_pos h2] at h ⊢
        cases b with
        | nil => cases h
        | cons n b =>
          simp only at h ⊢
          by_cases h3 : n.toNat ≤ 200 ∧ n.toNat ≤ b.length
          · rw [if_pos h3] at h
            rw [if_pos h3.2]
            simp only [Option.some.injEq, Prod.mk.injEq] at h
            obtain ⟨rfl, rfl⟩ := h
            have hl : (b.take n.toNat).length = n.toNat := by rw [List.length_take]; omega
            refine ⟨rfl, by simp only [fits, hl, decide_eq_true h3.1], ?_⟩
            simp only [tb, h2, hl, UInt8.ofNat_toNat, List.cons_append, List.take_append_drop]
          · rw [if_neg h3] at h; cases h
      · rw [if_neg h2] at h ⊢
        by_cases h3 : k = 3
        · rw [if_pos h3] at h ⊢
          cases b with
          | nil => cases h
          | cons v b =>
            simp only at h ⊢
            by_cases h4 : v.toNat ≤ 1
            · rw [if_pos h4] at h
              simp only [Option.some.injEq, Prod.mk.injEq] at h
              obtain ⟨rfl, rfl⟩ := h
              refine ⟨rfl, rfl, ?_⟩
              simp only [tb, h3, List.cons_append, List.nil_append, List.cons.injEq, true_and, and_true]
              have : v.toNat = 0 ∨ v.toNat = 1 := by omega
              rcases this with q | q
              · have : v = 0 := UInt8.toNat_inj.1 q
                subst this; rfl
              · have : v = 1 := UInt8.toNat_inj.1 q
                subst this; rfl
            · rw [if_neg h4] at h; cases h
        · rw [if_neg h3] at h; cases h

/-- the lenient thing takes as many bytes as its own bytes are -/
theorem takeL_split {b : Bs} {t : Th} {r : Bs} (h : takeL b = some (t, r)) : ∃ c, b = c ++ r ∧ c.length = (tb t).length ∧ (c = tb t → fits t = true → takeS b = some (t, r)) := by
  unfold takeL at h
  unfold takeS
  cases b with
  | nil => cases h
  | cons k b =>
    simp only at h ⊢
    by_cases h1 : k = 1
    · rw [if_pos h1] at h ⊢
      by_cases h2 : 8 ≤ b.length
      · rw [if_pos h2] at h ⊢
        simp only [Option.some.injEq, Prod.mk.injEq] at h
        obtain ⟨rfl, rfl⟩ := h
        exact ⟨k :: b.take 8, by simp, by simp [tb, bigB_len]; omega, fun _ _ => rfl⟩
      · rw [if_neg h2] at h; cases h
    · rw [if_neg h1] at h ⊢
      by_cases h2 : k = 2
      · rw [if_pos h2] at h ⊢
        cases b with
        | nil => cases h
        | cons n b =>
          simp only at h ⊢
          by_cases h3 : n.toNat ≤ b.length
          · rw [if_pos h3] at h
            simp only [Option.some.injEq, Prod.mk.injEq] at h
            obtain ⟨rfl, rfl⟩ := h
            refine ⟨k :: n :: b.take n.toNat, by simp, by simp [tb], fun _ hf => ?_⟩
            simp only [fits, decide_eq_true_eq, List.length_take] at hf
            rw [if_pos ⟨by omega, h3⟩]
          · rw [if_neg h3] at h; cases h
      · rw [if_neg h2] at h ⊢
        by_cases h3 : k = 3
        · rw [if_pos h3] at h ⊢
          cases b with
          | nil => cases h
          | cons v b =>
            simp only [Option.some.injEq, Prod.mk.injEq] at h ⊢
            obtain ⟨rfl, rfl⟩ := h
            refine ⟨[k, v], rfl, rfl, fun hc _ => ?_⟩
            simp only [tb, List.cons.injEq, and_true] at hc
            rw [if_pos]
            rw [hc.2]
            split <;> decide
        · rw [if_neg h3] at h; cases h

theorem many_len {take : Bs → Option (Th × Bs)} : ∀ {n : Nat} {l : List Th} {b : Bs} {l' : List Th} {r : Bs}, many take n l b = some (l', r) → l'.length = l.length + n
  | 0, l, b, l', r, h => by simp only [many, Option.some.injEq, Prod.mk.injEq] at h; rw [← h.1]; rfl
  | n + 1, l, b, l', r, h => by
    simp only [many] at h
    split at h
    · cases h
    · split at h
      · have := many_len h
        rw [this]; simp; omega
      · cases h

theorem manyL_of_S : ∀ {n : Nat} {l : List Th} {b : Bs} {l' : List Th} {r : Bs}, many takeS n l b = some (l', r) → many takeL n l b = some (l', r) ∧ ∃ m, l' = l ++ m ∧ m.all fits = true ∧ b = m.flatMap tb ++ r
  | 0, l, b, l', r, h => by
    simp only [many, Option.some.injEq, Prod.mk.injEq] at h ⊢
    obtain ⟨rfl, rfl⟩ := h
    exact ⟨⟨rfl, rfl⟩, [], by simp⟩
  | n + 1, l, b, l', r, h => by
    simp only [many] at h ⊢
    split at h
    · cases h
    · rename_i t r1 ht
      obtain ⟨h1, h2, h3⟩ := takeL_of_S ht
      rw [h1]
      split at h
      · rename_i hl
        obtain ⟨q1, m, q2, q3, q4⟩ := manyL_of_S h
        simp only [hl, if_true]
        exact ⟨q1, t :: m, by rw [q2]; simp, by simp [h2, q3], by rw [h3, q4]; simp⟩
      · cases h

theorem manyL_split : ∀ {n : Nat} {l : List Th} {b : Bs} {l' : List Th} {r : Bs}, many takeL n l b = some (l', r) → ∃ m c, l' = l ++ m ∧ b = c ++ r ∧ c.length = (m.flatMap tb).length ∧ (c = m.flatMap tb → m.all fits = true → many takeS n l b = some (l', r))
  | 0, l, b, l', r, h => by
    simp only [many, Option.some.injEq, Prod.mk.injEq] at h ⊢
    obtain ⟨rfl, rfl⟩ := h
    exact ⟨[], [], by simp⟩
  | n + 1, l, b, l', r, h => by
    simp only [many] at h ⊢
    split at h
    · cases h
    · rename_i t r1 ht
      obtain ⟨c1, h1, h2, h3⟩ := takeL_split ht
      split at h
      · rename_i hl
        obtain ⟨m, c, q1, q2, q3, q4⟩ := manyL_split h
        refine ⟨t :: m, c1 ++ c, by rw [q1]; simp, by rw [h1, q2]; simp, by simp [h2, q3], fun hc hf => ?_⟩
        simp only [List.flatMap_cons] at hc
        obtain ⟨e1, e2⟩ := List.append_inj hc h2
        simp only [List.all_cons, Bool.and_eq_true] at hf
        rw [h3 e1 hf.1]
        simp only [hl, if_true]
        exact q4 e2 hf.2
      · cases h

theorem crc_range (l : Bs) : 0 ≤ crc l ∧ crc l < 4294967296 := by
  unfold crc u32xor
  rw [IntKind.wrap_u32]
  omega
theorem two_lt (n : Nat) (h : n ≤ 4000) : n < 256 ^ 2 := by omega

/-- the two ways to unpack are one -/
theorem unpack_eq (b : Bs) : unpackP b = unpackR b := by
  have hsplit : b = b.take 4 ++ ((b.drop 4).take 2 ++ b.drop 6) := by
    have h2 : (b.drop 4).drop 2 = b.drop 6 := by rw [List.drop_drop]
    rw [← h2, List.take_append_drop, List.take_append_drop]
  have headL : ∀ {x y z : Bs}, b = x ++ y ++ z → x.length = 4 → y.length = 2 → x = b.take 4 ∧ y = (b.drop 4).take 2 ∧ z = b.drop 6 := by
    intro x y z hb hx hy
    subst hb
    have : 6 = (x ++ y).length := by simp [hx, hy]
    refine ⟨?_, ?_, ?_⟩
    · rw [List.append_assoc, List.take_left' hx]
    · rw [List.append_assoc, List.drop_left' hx, List.take_left' hy]
    · rw [List.drop_left' this.symm]
  have h4 : ∀ n : Bs, 7 ≤ b.length → (b.take 4).length = 4 ∧ ((b.drop 4).take 2).length = 2 := fun _ h => by
    simp; omega
  unfold unpackP unpackR
  cases hb : b.drop 6 with
  | nil =>
    simp only [hb]
    have : b.length < 7 := by
      have := congrArg List.length hb
      simp at this; omega
    rw [if_pos (.inl this)]
  | cons n r =>
    have hlen : 7 ≤ b.length := by
      have := congrArg List.length hb
      simp at this; omega
    have hl6 : b.length - 6 = (n :: r).length := by rw [← hb, List.length_drop]
    obtain ⟨l1, l2⟩ := h4 [] hlen
    simp only [hb]
    by_cases hR : ∃ l, many takeS n.toNat [] r = some (l, []) ∧ (n :: r).length ≤ 4000 ∧ num (b.take 4) = crc (n :: r) ∧ num ((b.drop 4).take 2) = (n :: r).length
    · obtain ⟨l, e1, e2, e3, e4⟩ := hR
      obtain ⟨q1, m, q2, q3, q4⟩ := manyL_of_S e1
      rw [q1, e1]
      simp only
      have hq : l = m := by simpa using q2
      subst hq
      have hn : l.length = n.toNat := by simpa using many_len e1
      have hbody : bodyOf l = n :: r := by
        unfold bodyOf
        rw [hn, q4, UInt8.ofNat_toNat, List.append_nil]
      have hp : pack l = some b := by
        unfold pack
        rw [hbody, if_pos ⟨q3, e2⟩]
        congr 1
        unfold packed
        rw [List.append_assoc]
        conv => rhs; rw [hsplit, hb]
        have r1 := crc_range (n :: r)
        rw [num_nat _ (by omega)] at e3 e4
        have w1 : b.take 4 = bigB (crc (n :: r)).toNat 4 := (big_eq_iff _ 4 _ l1 (by omega)).2 (by omega)
        have w2 : (b.drop 4).take 2 = bigB (n :: r).length 2 := (big_eq_iff _ 2 _ l2 (by omega)).2 (by omega)
        rw [w1, w2]
      rw [if_pos hp, if_neg (by omega), if_neg (by rw [e3, e4]; simp), if_pos trivial]
    · have hPn : ∀ l rest, many takeL n.toNat [] r = some (l, rest) → pack l ≠ some b := by
        intro l rest hm hp
        apply hR
        unfold pack at hp
        split at hp
        · rename_i hc
          injection hp with hp
          unfold packed at hp
          obtain ⟨w1, w2, w3⟩ := headL hp.symm (bigB_len _ 4) (bigB_len _ 2)
          rw [hb] at w3
          obtain ⟨m, c, q1, q2, q3, q4⟩ := manyL_split hm
          have hq : l = m := by simpa using q1
          subst hq
          unfold bodyOf at w3
          simp only [List.cons.injEq] at w3
          have hcr : c ++ rest = l.flatMap tb := by rw [← q2, w3.2]
          have hrest : rest = [] := by
            have := congrArg List.length hcr
            simp only [List.length_append, q3] at this
            exact List.length_eq_zero_iff.1 (by omega)
          subst hrest
          rw [List.append_nil] at hcr
          have hbody : bodyOf l = n :: r := by unfold bodyOf; rw [w3.1, w3.2]
          rw [hbody] at hc w1 w2
          refine ⟨l, q4 hcr hc.1, hc.2, ?_, ?_⟩
          · have r1 := crc_range (n :: r)
            rw [num_nat _ (by omega), (big_eq_iff _ 4 (crc (n :: r)).toNat l1 (by omega)).1 w1.symm]
            omega
          · rw [num_nat _ (by omega), (big_eq_iff _ 2 _ l2 (two_lt _ hc.2)).1 w2.symm]
        · cases hp
      have hP : (match many takeL n.toNat [] r with
          | none => none
          | some (l, _) => if pack l = some b then some l else none) = none := by
        split
        · rfl
        · rename_i l rest hm
          rw [if_neg (hPn l rest hm)]
      rw [hP]
      symm
      by_cases c1 : b.length < 7 ∨ 4000 < b.length - 6
      · rw [if_pos c1]
      · rw [if_neg c1]
        by_cases c2 : num (b.take 4) ≠ crc (n :: r) ∨ num ((b.drop 4).take 2) ≠ (n :: r).length
        · rw [if_pos c2]
        · rw [if_neg c2]
          split
          · rfl
          · rename_i l rest hm
            by_cases c3 : rest = []
            · subst c3
              exact absurd ⟨l, hm, by omega, Classical.not_not.1 fun q => c2 (.inl q), Classical.not_not.1 fun q => c2 (.inr q)⟩ hR
            · rw [if_neg c3]
theorem unpackP_pack {b : Bs} {l : List Th} (h : unpackP b = some l) : pack l = some b := by
  unfold unpackP at h
  split at h
  · cases h
  · split at h
    · cases h
    · split at h
      · rename_i hp
        injection h with h
        rw [← h]; exact hp
      · cases h
end Go.Proofs.Ythblghfdfhhppaa

/-
  The code of this seat's program is of the kind that the plain machine tells (which operations of a region come ahead of which, who looks at what). No condition.
-/
namespace Go.Proofs.Ythblghfdfhhppaa

theorem good : Go.XM.goodAll Try.prog = true := by decide +kernel

end Go.Proofs.Ythblghfdfhhppaa

/-
  Crates: what their functions answer. No condition.
-/
namespace Go.Proofs.Ythblghfdfhhppaa
open Go.XM
set_option linter.unusedVariables false
set_option linter.unusedSimpArgs false

/-- a crate that is only looked at -/
def cr (t : Bool) (a : RX) : XV := .rptr t [a.v] 0
/-- an answer with 'ok' -/
noncomputable def two (x : XV) (b : Bool) : Option XV := some (.tuple [x, .bool b])

theorem e18 (t : Bool) (a : RX) : run [] [28] noLp Try.f18 18 true [cr t a] = some (.int .i64 a.n) := by kernel_rfl
theorem e19 (t : Bool) (a : RX) (i : Int) : run [] [28, 29] noLp Try.f19 19 true [cr t a, .int .i64 i] = bif ile 0 i then (bif ilt i a.n then gd (within i a.n) (rdA a.c (i.toNat * 1) (fun u n => bif Nat.beq u 3 then two (.int .i64 n) true else two (.int .i64 0) false) (fun u s => bif Nat.beq u 3 then two (.str s) true else two (.int .i64 0) false) (fun u b => bif Nat.beq u 3 then two (.bool b) true else two (.int .i64 0) false) (two (.int .i64 0) false)) else two (.int .i64 0) false) else two (.int .i64 0) false := by kernel_rfl
theorem e20 (t : Bool) (a : RX) (i : Int) : run [] [28, 29] noLp Try.f20 20 true [cr t a, .int .i64 i] = bif ile 0 i then (bif ilt i a.n then gd (within i a.n) (rdA a.c (i.toNat * 1) (fun u n => bif Nat.beq u 9 then two (.int .i64 n) true else two (.str []) false) (fun u s => bif Nat.beq u 9 then two (.str s) true else two (.str []) false) (fun u b => bif Nat.beq u 9 then two (.bool b) true else two (.str []) false) (two (.str []) false)) else two (.str []) false) else two (.str []) false := by kernel_rfl
theorem e21 (t : Bool) (a : RX) (i : Int) : run [] [28, 29] noLp Try.f21 21 true [cr t a, .int .i64 i] = bif ile 0 i then (bif ilt i a.n then gd (within i a.n) (rdA a.c (i.toNat * 1) (fun u n => bif Nat.beq u 4 then two (.int .i64 n) true else two (.bool false) false) (fun u s => bif Nat.beq u 4 then two (.str s) true else two (.bool false) false) (fun u b => bif Nat.beq u 4 then two (.bool b) true else two (.bool false) false) (two (.bool false) false)) else two (.bool false) false) else two (.bool false) false := by kernel_rfl
end Go.Proofs.Ythblghfdfhhppaa

/-
  wire.add: a crate that is added to. No condition.
-/
namespace Go.Proofs.Ythblghfdfhhppaa
open Go.XM
set_option linter.unusedVariables false
set_option linter.unusedSimpArgs false

/-- a function run where the heap is S: what it answers, and the heap behind it -/
noncomputable def runI (l : List Known) (I : List Nat) (fn : Func) (f : Nat) (args : List XV) (S : XS) : Option (XV × XS) := kinl Try.prog (xcall Try.prog (primK l lives) 60) fn (body fn) (livesOf fn (lives f)) 60 (kOfI Try.prog l lives I 60 60 5 noLp) args 0 S (fun v S' => some (v, S'))
/-- the heap of a crate of things -/
def hc (th : List XV) (n : Nat) : XS := ⟨[.cells th (.loose 1 n), .cells [.sl 1] .own], 2, []⟩
def hcx (th : List XV) (n : Nat) (x : XV) : XS := ⟨[.cells (th ++ [x]) (.loose 1 (n + 1)), .cells [x] (.arr 1), .gone, .cells [.sl 3] .own], 4, []⟩
theorem e26 (th : List XV) (n : Nat) (v : Int) : runI [] [30] Try.f26 26 [.ptr 0 0, .int .i64 v] (hc th n) = bif ile 100 n then some (.bool false, hc th n) else gd (fitsB (n + 1) 16) (some (.bool true, hcx th n (.iface 3 (.int .i64 v)))) := by kernel_rfl

def rc (th : List XV) (n : Nat) : XS := ⟨[.cells th (.loose 4 n), .cells [.sl 1] .own], 2, []⟩
def thg (k n : Int) (t : List UInt8) (b : Bool) : List XV := [.int .i64 k, .int .i64 n, .str t, .bool b]
def rcx (th : List XV) (n : Nat) (x : List XV) : XS := ⟨[.cells (th ++ x) (.loose 4 (n + 1)), .cells x (.arr 4), .cells x .own, .gone, .cells [.sl 4] .own], 5, []⟩
theorem e17 (th : List XV) (n : Nat) (k v : Int) (t : List UInt8) (b : Bool) : runI [] [] Try.f17 17 [.ptr 0 0, .agg (thg k v t b)] (rc th n) = bif ile 100 n then some (.bool false, rc th n) else gd (fitsB (n + 1) 40) (gd (fitsB (n + 1) 40) (gd ((noteAll 1 (th.length + 1) []).all fun p => (noteAll 1 (th.length + 1) []).contains p && !([] : List (Nat × Nat)).contains p) (some (.bool true, rcx th n (thg k v t b))))) := by kernel_rfl
end Go.Proofs.Ythblghfdfhhppaa

/-
  wire.add: the next thing of a telegram is taken into a crate. No condition.
-/
namespace Go.Proofs.Ythblghfdfhhppaa
open Go.XM
set_option linter.unusedVariables false
set_option linter.unusedSimpArgs false

/-- taken, known by laws -/
structure TK where
  ok : List XV → Bool
  z : List XV → Int
  r : List XV → RX
  b : List XV → Bool
def TK.k (a : TK) : Known := ⟨12, 2, a.ok, fun xs => .tuple [.int .u64 (a.z xs), (a.r xs).v, .bool (a.b xs)]⟩
noncomputable def TK.q {A : Type} (a : TK) (x : RX) (n : Int) (k : Int → RX → Bool → Option A) : Option A := gd (a.ok [x.v, .int .i64 n]) (k (a.z [x.v, .int .i64 n]) (a.r [x.v, .int .i64 n]) (a.b [x.v, .int .i64 n]))
def i64of (z : Int) : Int := IntKind.i64.wrap z
noncomputable def addr (r : XV) (b : Bool) (S : XS) : Option (XV × XS) := some (.tuple [r, .bool b], S)
noncomputable def put1 (r : XV) (th : List XV) (n : Nat) (x : XV) : Option (XV × XS) := bif ile 100 n then addr r false (hc th n) else gd (fitsB (n + 1) 16) (addr r true (hcx th n x))

/-- the text that a row begins with, and what is behind it -/
noncomputable def cutT {A : Type} (r : RX) (z : Int) (k : List UInt8 → Option A) : Option A := gd (upto z r.n) (gd (upto z r.n) (gd (Nat.beq (r.cut 0 z.toNat).c.length (r.cut 0 z.toNat).n) (match allBytes (r.cut 0 z.toNat).c with | some l => k l | none => none)))
def WL (th : List XV) : List (Nat × Nat) := klog 2 [] (klog 2 [] ((0, 0) :: noteAll 1 (th.length + 1) []))
noncomputable def put2 (r : RX) (z : Int) (th : List XV) (n : Nat) : Option (XV × XS) :=
  cutT r z fun _ => bif ile 100 n then addr (r.cut z.toNat r.n).v false (hc th n) else gd (fitsB (n + 1) 16) (cutT r z fun l => bif ile 100 n then addr (r.cut z.toNat r.n).v false (hc th n) else gd (fitsB (n + 1) 16)
    (gd ((WL th).all fun p => (WL th).contains p && !([] : List (Nat × Nat)).contains p) (addr (r.cut z.toNat r.n).v true (hcx th n (.iface 9 (.str l))))))

theorem e13 (k : TK) (th : List XV) (n : Nat) (a : RX) : runI [k.k] [26, 27, 22, 30] Try.f13 13 [.ptr 0 0, a.v] (hc th n) =
    k.q a 1 fun z r b => bif !b then addr .nilSlice false (hc th n) else
    bif z == 1 then (k.q r 8 fun z8 r8 b8 => bif b8 then put1 r8.v th n (.iface 3 (.int .i64 (i64of z8))) else addr r8.v false (hc th n)) else
    bif z == 2 then (k.q r 1 fun z1 r1 b1 => bif !b1 then addr .nilSlice false (hc th n) else bif ilt r1.n (i64of z1) then addr .nilSlice false (hc th n) else put2 r1 z1 th n) else
    bif z == 3 then (k.q r 1 fun z1 r1 b1 => bif b1 then put1 r1.v th n (.iface 4 (.bool (z1 == 1))) else addr r1.v false (hc th n)) else
    addr .nilSlice false (hc th n) := by kernel_rfl
end Go.Proofs.Ythblghfdfhhppaa

/-
  wire.Unpack's loop: a round. No condition.
-/
namespace Go.Proofs.Ythblghfdfhhppaa
open Go.XM
set_option linter.unusedVariables false
set_option linter.unusedSimpArgs false

def u64inc (i : Int) : Int := IntKind.u64.wrap (i + 1)
noncomputable def tree13 {A : Type} (k : TK) (th : List XV) (n : Nat) (a : RX) (no : XV → Option A) (yes : XV → XV → Option A) : Option A :=
  k.q a 1 fun z r b => bif !b then no .nilSlice else
    bif z == 1 then (k.q r 8 fun z8 r8 b8 => bif b8 then (bif ile 100 n then no r8.v else gd (fitsB (n + 1) 16) (yes r8.v (.iface 3 (.int .i64 (i64of z8))))) else no r8.v) else
    bif z == 2 then (k.q r 1 fun z1 r1 b1 => bif !b1 then no .nilSlice else bif ilt r1.n (i64of z1) then no .nilSlice else
      cutT r1 z1 fun _ => bif ile 100 n then no (r1.cut z1.toNat r1.n).v else gd (fitsB (n + 1) 16) (cutT r1 z1 fun l => bif ile 100 n then no (r1.cut z1.toNat r1.n).v else gd (fitsB (n + 1) 16)
        (gd ((WL th).all fun p => (WL th).contains p && !([] : List (Nat × Nat)).contains p) (yes (r1.cut z1.toNat r1.n).v (.iface 9 (.str l)))))) else
    bif z == 3 then (k.q r 1 fun z1 r1 b1 => bif b1 then (bif ile 100 n then no r1.v else gd (fitsB (n + 1) 16) (yes r1.v (.iface 4 (.bool (z1 == 1))))) else no r1.v) else
    no .nilSlice
/-- a crate: empty, or not -/
def hc0 : XS := ⟨[.cells [.nilSlice] .own], 1, []⟩
noncomputable def tree13z {A : Type} (k : TK) (a : RX) (no : XV → Option A) (yes : XV → XV → Option A) : Option A :=
  k.q a 1 fun z r b => bif !b then no .nilSlice else
    bif z == 1 then (k.q r 8 fun z8 r8 b8 => bif b8 then yes r8.v (.iface 3 (.int .i64 (i64of z8))) else no r8.v) else
    bif z == 2 then (k.q r 1 fun z1 r1 b1 => bif !b1 then no .nilSlice else bif ilt r1.n (i64of z1) then no .nilSlice else
      cutT r1 z1 fun _ => cutT r1 z1 fun l => yes (r1.cut z1.toNat r1.n).v (.iface 9 (.str l))) else
    bif z == 3 then (k.q r 1 fun z1 r1 b1 => bif b1 then yes r1.v (.iface 4 (.bool (z1 == 1))) else no r1.v) else
    no .nilSlice
/-- Pack, known by laws -/
structure PackK where
  ok : List XV → Bool
  m : List XV → Bool
  c : List XV → List XV
  n : List XV → Nat
  e : List XV → Int
noncomputable def PackK.x (a : PackK) (xs : List XV) : RX := ⟨false, a.m xs, a.c xs, a.n xs⟩
noncomputable def PackK.k (a : PackK) : Known := ⟨10, 1, a.ok, fun xs => .tuple [(a.x xs).v, .int .i64 (a.e xs)]⟩
structure BK where
  ok : List XV → Bool
  v : List XV → Bool
def BK.k (b : BK) (id ar : Nat) : Known := ⟨id, ar, b.ok, fun xs => .bool (b.v xs)⟩
noncomputable def BK.q {A : Type} (b : BK) (xs : List XV) (k : Bool → Option A) : Option A := gd (b.ok xs) (k (b.v xs))
noncomputable def L5 (k : TK) (k10 : PackK) (k14 : BK) : List Known := [k.k, k10.k, k14.k 14 2]
noncomputable def H5 (b : RX) (p e r : XV) (n i : Int) (S : XS) : Tmps × XS := (mkT 7 [(0, b.v), (2, p), (3, e), (4, .ptr 0 0), (6, r), (22, .int .u64 n), (23, .int .u64 i)], S)
noncomputable def round5 (k : TK) (k10 : PackK) (k14 : BK) (h : Tmps × XS) : Ans := roundC (L5 k k10 k14) [13, 26, 27, 22, 30] noLp Try.f5 5 (loop Try.f5 6) h
theorem s5 (k : TK) (k10 : PackK) (k14 : BK) (b a : RX) (n i : Int) (th : List XV) (nt : Nat) : round5 k k10 k14 (H5 b .nilPtr (.int .i64 0) a.v n i (hc th nt)) = bif ilt i n then
    tree13 k th nt a (fun r => fin .ret (H5 b .nilPtr (.int .i64 2) r n i (hc th nt))) (fun r x => next (H5 b .nilPtr (.int .i64 0) r n (u64inc i) (hc (th ++ [x]) (nt + 1))))
    else fin (.exit 0) (H5 b .nilPtr (.int .i64 0) a.v n i (hc th nt)) := by kernel_rfl
theorem s5z (k : TK) (k10 : PackK) (k14 : BK) (b a : RX) (n i : Int) : round5 k k10 k14 (H5 b .nilPtr (.int .i64 0) a.v n i hc0) = bif ilt i n then
    tree13z k a (fun r => fin .ret (H5 b .nilPtr (.int .i64 2) r n i hc0)) (fun r x => next (H5 b .nilPtr (.int .i64 0) r n (u64inc i) (hc [x] 1)))
    else fin (.exit 0) (H5 b .nilPtr (.int .i64 0) a.v n i hc0) := by kernel_rfl

noncomputable def lp5 (h0 : Tmps × XS) (e : XExit) (h : Tmps × XS) : Loops XV := fun id => if Nat.beq id 6 then some fun T S k => at_ T S h0.1 h0.2 (k e h.1 h.2) else none
noncomputable def run5 (k : TK) (k10 : PackK) (k14 : BK) (b : RX) (lp : Loops XV) : Option XV := run (L5 k k10 k14) [11] lp Try.f5 5 false [b.v]
noncomputable def no5 : Option XV := some (.tuple [.nilPtr, .int .i64 2])
noncomputable def here5 (h h0 : Tmps × XS) (k : Option XV) : Option XV := at_ h.1 h.2 h0.1 h0.2 k
noncomputable def end5 (k10 : PackK) (k14 : BK) (b : RX) (c : XV) (S : XS) : Option XV :=
  gd (k10.ok [c]) (bif k10.e [c] != 0 then no5 else gd (k14.ok [(k10.x [c]).v, b.v]) (bif !(k14.v [(k10.x [c]).v, b.v]) then no5 else hard false S 50 (.tuple [.ptr 0 0, .int .i64 0])))
noncomputable def start5 (k : TK) (b : RX) (h0 : Tmps × XS) (rest : Option XV) : Option XV := bif ile b.n 6 then no5 else gd (upto 6 b.n) (k.q (b.cut 6 b.n) 1 fun z r _ => here5 (H5 b .nilPtr (.int .i64 0) r.v z 0 hc0) h0 rest)
theorem n5 (k : TK) (k10 : PackK) (k14 : BK) (b : RX) : run5 k k10 k14 b noLp = bif ile b.n 6 then no5 else gd (upto 6 b.n) (k.q (b.cut 6 b.n) 1 fun z r _ => none) := by kernel_rfl
theorem e5r (k : TK) (k10 : PackK) (k14 : BK) (b : RX) (h0 : Tmps × XS) (n i : Int) (r : XV) (th : List XV) (nt : Nat) : run5 k k10 k14 b (lp5 h0 .ret (H5 b .nilPtr (.int .i64 2) r n i (hc th nt))) = start5 k b h0 no5 := by kernel_rfl
theorem e5rz (k : TK) (k10 : PackK) (k14 : BK) (b : RX) (h0 : Tmps × XS) (n i : Int) (r : XV) : run5 k k10 k14 b (lp5 h0 .ret (H5 b .nilPtr (.int .i64 2) r n i hc0)) = start5 k b h0 no5 := by kernel_rfl
theorem e5z (k : TK) (k10 : PackK) (k14 : BK) (b : RX) (h0 : Tmps × XS) (n i : Int) (r : XV) : run5 k k10 k14 b (lp5 h0 (.exit 0) (H5 b .nilPtr (.int .i64 0) r n i hc0)) = start5 k b h0 (end5 k10 k14 b (.rptr true [.row true true [] 0] 0) hc0) := by kernel_rfl
theorem e5s (k : TK) (k10 : PackK) (k14 : BK) (b : RX) (h0 : Tmps × XS) (n i : Int) (r : XV) (th : List XV) (nt : Nat) : run5 k k10 k14 b (lp5 h0 (.exit 0) (H5 b .nilPtr (.int .i64 0) r n i (hc th nt))) = start5 k b h0 (end5 k10 k14 b (.rptr true [.row true false th nt] 0) (hc th nt)) := by kernel_rfl
end Go.Proofs.Ythblghfdfhhppaa

/-
  wire.Pack's loop: a round. No condition.
-/
namespace Go.Proofs.Ythblghfdfhhppaa
open Go.XM
set_option linter.unusedVariables false
set_option linter.unusedSimpArgs false

structure PK (X : Type) where
  ok : List XV → Bool
  v : List XV → X
  b : List XV → Bool
def PK.k {X : Type} (a : PK X) (id : Nat) (f : X → XV) : Known := ⟨id, 2, a.ok, fun xs => .tuple [f (a.v xs), .bool (a.b xs)]⟩
noncomputable def PK.q {A X : Type} (a : PK X) (xs : List XV) (k : X → Bool → Option A) : Option A := gd (a.ok xs) (k (a.v xs) (a.b xs))
def byte (n : Int) (k : Nat) : XV := .int .u8 (IntKind.u8.wrap (n.fdiv (2 ^ k)))
noncomputable def push1 {A : Type} (bs : List XV) (n : Nat) (x : XV) (k : List XV → Nat → Option A) : Option A := gd (fitsB (n + 1) 1) (k (bs ++ [x]) (n + 1))
noncomputable def push8s {A : Type} (bs : List XV) (n : Nat) (v : Int) (k : List XV → Nat → Option A) : Option A :=
  push1 bs n (byte v 56) fun bs n => push1 bs n (byte v 48) fun bs n => push1 bs n (byte v 40) fun bs n => push1 bs n (byte v 32) fun bs n => push1 bs n (byte v 24) fun bs n => push1 bs n (byte v 16) fun bs n => push1 bs n (byte v 8) fun bs n => push1 bs n (byte v 0) k
noncomputable def round10 (l : List Known) (I : List Nat) (h : Tmps × XS) : Ans := roundC l I noLp Try.f10 10 (loop Try.f10 5) h
noncomputable def H10 (t : Bool) (a : RX) (e : Int) (i : Int) (B : XBlk) : Tmps × XS := (mkT 6 [(0, cr t a), (2, .nilSlice), (3, .int .i64 e), (4, .sl 0), (16, .int .i64 a.n), (17, .int .i64 i)], ⟨[B], 1, []⟩)
noncomputable def H10e (t : Bool) (a : RX) (i : Int) : Tmps × XS := (mkT 6 [(0, cr t a), (2, .nilSlice), (3, .int .i64 1), (16, .int .i64 a.n), (17, .int .i64 i)], XS.none)
def bc (bs : List XV) (n : Nat) : XBlk := .cells bs (.loose 1 n)
def u8of (n : Int) : XV := .int .u8 (IntKind.u8.wrap n)
def strCells (s : List UInt8) : List XV := s.map fun b => .int .u8 b.toNat
theorem s10 (k1 : PK Int) (k2 : PK (List UInt8)) (k3 : PK Bool) (k4 : IK) (t : Bool) (a : RX) (i : Int) (bs : List XV) (nb : Nat) : round10 [k1.k 19 (.int .i64), k2.k 20 .str, k3.k 21 .bool, k4.k 25 1 .u32] [23, 24, 31] (H10 t a 0 i (bc bs nb)) = bif ilt i a.n then
    (k1.q [cr t a, .int .i64 i] fun v ok => bif ok then push1 bs nb (.int .u8 1) fun bs n => push8s bs n (IntKind.u64.wrap v) fun bs n => next (H10 t a 0 (inc i) (bc bs n)) else
     k2.q [cr t a, .int .i64 i] fun s ok => bif ok then gd (fitsB (nb + 2) 1) (gd (Nat.beq (strCells s).length (s.length * 1) && true) (bif Nat.beq s.length 0 then (bif !(ile s.length 200) then fin .ret (H10e t a i) else next (H10 t a 0 (inc i) (bc (bs ++ [.int .u8 2, u8of s.length]) (nb + 2)))) else
        gd (fitsB (nb + 2 + s.length) 1) (bif !(ile s.length 200) then fin .ret (H10e t a i) else next (H10 t a 0 (inc i) (bc (bs ++ [.int .u8 2, u8of s.length] ++ strCells s) (nb + 2 + s.length)))))) else
     k3.q [cr t a, .int .i64 i] fun b ok => bif b then gd (fitsB (nb + 2) 1) (next (H10 t a 0 (inc i) (bc (bs ++ [.int .u8 3, .int .u8 1]) (nb + 2)))) else gd (fitsB (nb + 2) 1) (next (H10 t a 0 (inc i) (bc (bs ++ [.int .u8 3, .int .u8 0]) (nb + 2)))))
    else fin (.exit 0) (H10 t a 0 i (bc bs nb)) := by kernel_rfl
end Go.Proofs.Ythblghfdfhhppaa

/-
  wire.Pack's loop: the first round. No condition.
-/
namespace Go.Proofs.Ythblghfdfhhppaa
open Go.XM
set_option linter.unusedVariables false
set_option linter.unusedSimpArgs false

noncomputable def H10a (t : Bool) (a : RX) (e i : Int) (c : XV) : Tmps × XS := (mkT 6 [(0, cr t a), (2, .nilSlice), (3, .int .i64 e), (4, .slice 0 0 1 1), (16, .int .i64 a.n), (17, .int .i64 i)], ⟨[.cells [c] (.arr 1)], 1, []⟩)
theorem s10a (k1 : PK Int) (k2 : PK (List UInt8)) (k3 : PK Bool) (k4 : IK) (t : Bool) (a : RX) (i : Int) (x : Int) : round10 [k1.k 19 (.int .i64), k2.k 20 .str, k3.k 21 .bool, k4.k 25 1 .u32] [23, 24, 31] (H10a t a 0 i (.int .u8 x)) = bif ilt i a.n then
    (k1.q [cr t a, .int .i64 i] fun v ok => bif ok then push1 [.int .u8 x] 1 (.int .u8 1) fun bs n => push8s bs n (IntKind.u64.wrap v) fun bs n => next (H10 t a 0 (inc i) (bc bs n)) else
     k2.q [cr t a, .int .i64 i] fun s ok => bif ok then gd (fitsB (1 + 2) 1) (gd (Nat.beq (strCells s).length (s.length * 1) && true) (bif Nat.beq s.length 0 then (bif !(ile s.length 200) then fin .ret (H10a t a 1 i (.int .u8 x)) else next (H10 t a 0 (inc i) (bc ([.int .u8 x] ++ [.int .u8 2, u8of s.length]) (1 + 2)))) else
        gd (fitsB (1 + 2 + s.length) 1) (bif !(ile s.length 200) then fin .ret (H10a t a 1 i (.int .u8 x)) else next (H10 t a 0 (inc i) (bc ([.int .u8 x] ++ [.int .u8 2, u8of s.length] ++ strCells s) (1 + 2 + s.length)))))) else
     k3.q [cr t a, .int .i64 i] fun b ok => bif b then gd (fitsB (1 + 2) 1) (next (H10 t a 0 (inc i) (bc ([.int .u8 x] ++ [.int .u8 3, .int .u8 1]) (1 + 2)))) else gd (fitsB (1 + 2) 1) (next (H10 t a 0 (inc i) (bc ([.int .u8 x] ++ [.int .u8 3, .int .u8 0]) (1 + 2)))))
    else fin (.exit 0) (H10a t a 0 i (.int .u8 x)) := by kernel_rfl

noncomputable def K10 (k1 : PK Int) (k2 : PK (List UInt8)) (k3 : PK Bool) (k4 : IK) : List Known := [k1.k 19 (.int .i64), k2.k 20 .str, k3.k 21 .bool, k4.k 25 1 .u32]
noncomputable def lp10 (t : Bool) (a : RX) (e : XExit) (h : Tmps × XS) : Loops XV := fun id => if Nat.beq id 5 then some fun T S k => at_ T S (H10a t a 0 0 (u8of a.n)).1 (H10a t a 0 0 (u8of a.n)).2 (k e h.1 h.2) else none
noncomputable def run10 (k1 : PK Int) (k2 : PK (List UInt8)) (k3 : PK Bool) (k4 : IK) (t : Bool) (a : RX) (e : XExit) (h : Tmps × XS) : Option XV := run (K10 k1 k2 k3 k4) [18, 28, 24] (lp10 t a e h) Try.f10 10 false [cr t a]
noncomputable def here10 (t : Bool) (a : RX) (k : Option XV) : Option XV := at_ (H10a t a 0 0 (u8of a.n)).1 (H10a t a 0 0 (u8of a.n)).2 (H10a t a 0 0 (u8of a.n)).1 (H10a t a 0 0 (u8of a.n)).2 k
noncomputable def no10 : Option XV := some (.tuple [.row false true [] 0, .int .i64 1])
noncomputable def out10 (cs : List XV) (n : Nat) : Option XV := hard false ⟨[.cells cs (.loose 1 n)], 1, []⟩ 50 (.tuple [.sl 0, .int .i64 0])
noncomputable def head6 (s n : Int) : List XV := [byte s 24, byte s 16, byte s 8, byte s 0, byte n 8, byte n 0]
noncomputable def IK.q {A : Type} (a : IK) (xs : List XV) (k : Int → Option A) : Option A := gd (a.ok xs) (k (a.v xs))
theorem e10f (k1 : PK Int) (k2 : PK (List UInt8)) (k3 : PK Bool) (k4 : IK) (t : Bool) (a : RX) (i : Int) (x : Int) : run10 k1 k2 k3 k4 t a .ret (H10a t a 1 i (.int .u8 x)) = here10 t a no10 := by kernel_rfl
theorem e10g (k1 : PK Int) (k2 : PK (List UInt8)) (k3 : PK Bool) (k4 : IK) (t : Bool) (a : RX) (i : Int) : run10 k1 k2 k3 k4 t a .ret (H10e t a i) = here10 t a no10 := by kernel_rfl
theorem e10z (k1 : PK Int) (k2 : PK (List UInt8)) (k3 : PK Bool) (k4 : IK) (t : Bool) (a : RX) (i : Int) (x : Int) : run10 k1 k2 k3 k4 t a (.exit 0) (H10a t a 0 i (.int .u8 x)) = here10 t a
    (k4.q [rowOne true ⟨true, true, [.int .u8 x], 1⟩] fun s => some (.tuple [.row false false (head6 (IntKind.u64.wrap s) (IntKind.u64.wrap 1) ++ [.int .u8 x]) 7, .int .i64 0])) := by kernel_rfl
theorem e10s (k1 : PK Int) (k2 : PK (List UInt8)) (k3 : PK Bool) (k4 : IK) (t : Bool) (a : RX) (i : Int) (bs : List XV) (nb : Nat) : run10 k1 k2 k3 k4 t a (.exit 0) (H10 t a 0 i (bc bs nb)) = here10 t a
    (bif ilt 4000 nb then no10 else k4.q [rowOne true ⟨true, false, bs, nb⟩] fun s => gd (true && bs.all XV.live) (gd (Nat.beq bs.length (nb * 1) && true)
      (bif Nat.beq nb 0 then some (.tuple [.row false false (head6 (IntKind.u64.wrap s) (IntKind.u64.wrap nb)) 6, .int .i64 0]) else gd (fitsB (6 + nb) 1) (out10 (head6 (IntKind.u64.wrap s) (IntKind.u64.wrap nb) ++ bs) (6 + nb))))) := by kernel_rfl
end Go.Proofs.Ythblghfdfhhppaa

/-
  Sums of bytes, numbers of bytes, taken: each as a law in plain Lean. No condition.
-/
namespace Go.Proofs.Ythblghfdfhhppaa
open Go.XM
set_option linter.unusedVariables false
set_option linter.unusedSimpArgs false

/-! ### rows of bytes -/
def cells (l : Bs) : List XV := l.map fun b => .int .u8 (iv b)
structure Row where
  t : Bool
  m : Bool
  l : Bs
def Row.x (r : Row) : RX := ⟨r.t, r.m, cells r.l, r.l.length⟩
theorem cells_len (l : Bs) : (cells l).length = l.length := by simp [cells]
theorem iv_inj {a b : UInt8} (h : iv a = iv b) : a = b := UInt8.toNat_inj.1 (by unfold iv at h; omega)
theorem cells_inj : ∀ a b : Bs, cells a = cells b → a = b
  | [], [], _ => rfl
  | [], _ :: _, h => by cases h
  | _ :: _, [], h => by cases h
  | x :: a, y :: b, h => by
    simp only [cells, List.map_cons, List.cons.injEq, XV.int.injEq, true_and] at h
    rw [iv_inj h.1, cells_inj a b h.2]
theorem row_inj {a b : Row} (h : a.x.v = b.x.v) : a = b := by
  obtain ⟨t, m, l⟩ := a
  obtain ⟨t', m', l'⟩ := b
  simp only [RX.v, Row.x, XV.row.injEq] at h
  obtain ⟨rfl, rfl, h, _⟩ := h
  rw [cells_inj _ _ h]
theorem rd_cells {A : Type} (l : Bs) (k : Nat) (h : k < l.length) (f : Int → Option A) : rdI .u8 (cells l) ((k : Int).toNat * 1) f = f (iv (l.getD k 0)) := by
  have : cells l = (l.map iv).map (.int .u8) := by simp [cells]
  rw [this, rdI_at _ _ _ (by simpa using h)]
  simp [h]
theorem cells_drop (l : Bs) (n : Nat) : (cells l).drop n = cells (l.drop n) := by simp [cells]
theorem cells_take (l : Bs) (n : Nat) : (cells l).take n = cells (l.take n) := by simp [cells]
theorem cut_x (r : Row) (n h : Nat) (hh : h ≤ r.l.length) : r.x.cut n h = (⟨r.t, r.m && h == r.l.length, (r.l.drop n).take (h - n)⟩ : Row).x := by
  unfold RX.cut Row.x
  simp only [Nat.mul_one, cells_drop, cells_take, RX.mk.injEq, true_and]
  rw [List.length_take, List.length_drop]; omega
theorem foldl_take (f : Int → UInt8 → Int) (l : Bs) (z : Int) : ∀ d k s, k + d = l.length → s = (l.take k).foldl f z → cntD (fun k s => f s (l.getD k 0)) d k s = l.foldl f z
  | 0, k, s, h, hs => by
    subst hs
    simp only [cntD]
    rw [List.take_of_length_le (by omega)]
  | d + 1, k, s, h, hs => by
    simp only [cntD]
    refine foldl_take f l z d (k + 1) _ (by omega) ?_
    subst hs
    have hk : k < l.length := by omega
    rw [List.take_succ_eq_append_getElem hk, List.foldl_append]
    simp [hk]

/-! ### how a function is known -/
abbrev LOK {A : Type} (l : List Known) (fn : Func) (f : Nat) (c : Code) (g : Tmps → XS → (XExit → Tmps → XS → Option A) → Option A) : Prop := LpOK Try.prog (primK l lives) (livesOf fn (lives f)) c g
def bodyOK (fn : Func) : Bool := fn.body.isSome && !(fn.name == "runtime.NumGoroutine")
theorem body_some {fn : Func} (h : bodyOK fn = true) : fn.body = some (body fn) ∧ (fn.name == "runtime.NumGoroutine") = false := by
  unfold bodyOK at h
  simp only [Bool.and_eq_true, Bool.not_eq_true'] at h
  obtain ⟨h1, h2⟩ := h
  obtain ⟨c, hc⟩ := Option.isSome_iff_exists.1 h1
  exact ⟨by unfold body; rw [hc]; rfl, h2⟩
theorem kp {X Y : Type} (l : List Known) (I : List Nat) {fn : Func} {f : Nat} (t : Bool) {ar : Nat} {enc : X → List XV} {good_ : X → Prop} {ans : X → Y} {y0 : Y} {shape : Y → XV} (hf : Try.prog.funcs[f]? = some fn) (hp : ∀ e, e ∈ l → Pure Try.prog e.id e.F) (hfit : fitB Try.prog (l.map Known.e) = true)
    (hb : bodyOK fn = true) (har : Nat.ble ar fn.ntmps = true) (hnot : findK f l = none) (hinj : ∀ x y, enc x = enc y → x = y) (hlen : ∀ x, (enc x).length = ar)
    (h : ∀ x, good_ x → ∃ lp : Loops XV, (∀ c', c' ∈ loopsIn (body fn) → ∀ g, lp (headId c') = some g → LOK l fn f c' g) ∧ run l I lp fn f t (enc x) = some (shape (ans x))) : Pure Try.prog f (known f ar enc good_ ans y0 shape).F :=
  known_pureI (l := l) (live := lives) (I := I) (d := 5) (t := t) (N := 60) (fuel := 60) Try.checked.mixed good hp hfit hf (body_some hb).1 (body_some hb).2 hnot (by decide) (Nat.le_of_ble_eq_true har) hinj hlen h

theorem noLoops {l : List Known} {fn : Func} {f : Nat} : ∀ c', c' ∈ loopsIn (body fn) → ∀ g, (noLp : Loops XV) (headId c') = some g → LOK l fn f c' g := fun c' hc g hg => by cases hg
theorem one_loop {A : Type} {l : List Known} {fn : Func} {f : Nat} {c c0 : Code} {id0 : Nat} {lp : Loops A} {g : Tmps → XS → (XExit → Tmps → XS → Option A) → Option A} (hl : loopsIn c = [c0]) (hid : headId c0 = id0) (hlp : lp id0 = some g) (o : LOK l fn f c0 g) :
    ∀ c', c' ∈ loopsIn c → ∀ g', lp (headId c') = some g' → LOK l fn f c' g' := fun c' hc g' hg => by
  rw [hl] at hc
  have := List.mem_singleton.1 hc
  subst this
  rw [hid, hlp] at hg
  injection hg with hg
  subst hg
  exact o

theorem cloop {l : List Known} {I : List Nat} {fn : Func} {f : Nat} {c : Code} {Q A : Type} {n : Nat} {lp : Nat → Q → Loops ((Tmps × XS) ⊕ (XExit × Tmps × XS))} {H : Int → Q → Tmps × XS} {s0 : Q} {step : Nat → Q → Q} {ee : XExit} (inv : Nat → Q → Prop) (hfit : fitB Try.prog (l.map Known.e) = true)
    (h0 : inv 0 s0) (hinv : ∀ k s, k < n → inv k s → inv (k + 1) (step k s))
    (h1 : ∀ (k : Nat) s, k < n → inv k s → roundC l I (lp k s) fn f c (H k s) = some (.inl (H ((k + 1 : Nat) : Int) (step k s))))
    (h2 : ∀ s, inv n s → roundC l I (lp n s) fn f c (H n s) = some (.inr (ee, H n s)))
    (hlp : ∀ k s, k ≤ n → inv k s → ∀ c', c' ∈ loopsIn c → ∀ g, lp k s (headId c') = some g → LOK l fn f c' g := by intro _ _ _ _ c' _ g hg; cases hg) :
    LOK (A := A) l fn f c (fun T S k => at_ T S (H 0 s0).1 (H 0 s0).2 (k ee (H n (cntD step n 0 s0)).1 (H n (cntD step n 0 s0)).2)) :=
  count_loop (N := 60) (fuel := 60) (K := fun k s => kOfI Try.prog l lives I 60 60 5 (lp k s)) inv (fun _ _ n hn => kOfI_fn hfit (by omega) 5 _) (fun k s hk hi c' hc g hg => hlp k s hk hi c' hc g (by rw [kOfI_lp] at hg; exact hg)) h0 hinv h1 h2 (fun _ _ => kOfI_ic hfit (by decide) 5 _)
theorem iloop {l : List Known} {I : List Nat} {fn : Func} {f : Nat} {c : Code} {Q R A : Type} {n : Nat} {lp : Nat → Q → Loops ((Tmps × XS) ⊕ (XExit × Tmps × XS))} {H : Int → Q → Tmps × XS} {s0 : Q} {step : Nat → Q → Q ⊕ R} {rb : R → XExit × Tmps × XS} {ee : XExit} (inv : Nat → Q → Prop) (hfit : fitB Try.prog (l.map Known.e) = true)
    (h0 : inv 0 s0) (hinv : ∀ k s s', k < n → inv k s → step k s = .inl s' → inv (k + 1) s')
    (h1 : ∀ (k : Nat) s, k < n → inv k s → roundC l I (lp k s) fn f c (H k s) = some (match step k s with | .inl s' => .inl (H ((k + 1 : Nat) : Int) s') | .inr r => .inr (rb r)))
    (h2 : ∀ s, inv n s → roundC l I (lp n s) fn f c (H n s) = some (.inr (ee, H n s)))
    (hlp : ∀ k s, k ≤ n → inv k s → ∀ c', c' ∈ loopsIn c → ∀ g, lp k s (headId c') = some g → LOK l fn f c' g := by intro _ _ _ _ c' _ g hg; cases hg) :
    LOK (A := A) l fn f c (fun T S k => at_ T S (H 0 s0).1 (H 0 s0).2 (iends H rb ee n (iterD step n 0 s0) k)) :=
  iter_loop (N := 60) (fuel := 60) (K := fun k s => kOfI Try.prog l lives I 60 60 5 (lp k s)) inv (fun _ _ n hn => kOfI_fn hfit (by omega) 5 _) (fun k s hk hi c' hc g hg => hlp k s hk hi c' hc g (by rw [kOfI_lp] at hg; exact hg)) h0 hinv h1 h2 (fun _ _ => kOfI_ic hfit (by decide) 5 _)

theorem inc_n {k : Nat} (h : k < maxLen) : inc (k : Int) = ((k + 1 : Nat) : Int) := inc_nat h
theorem turn_next {A : Type} (H : Int → Tmps × XS) (s : Int) : (bif u32and s 1 == 1 then next (H (u32xor (u32shr1 s) 2197175160)) else next (H (u32shr1 s))) = next (H (turn s)) := by
  unfold turn
  cases u32and s 1 == 1 <;> rfl

/-! ### one -/
def enc32 (x : Int × UInt8) : List XV := [.int .u32 x.1, .int .u8 (iv x.2)]
theorem inj32 (x y : Int × UInt8) (h : enc32 x = enc32 y) : x = y := by
  simp only [enc32, List.cons.injEq, XV.int.injEq, true_and, and_true] at h
  exact Prod.ext h.1 (iv_inj h.2)
theorem l32 (s : Int) : LOK (A := XV) [] Try.f32 32 (loop Try.f32 3) (fun T S k => at_ T S (H32 0 s).1 (H32 0 s).2 (k (.exit 0) (H32 8 (times8 turn s)).1 (H32 8 (times8 turn s)).2)) := by
  refine cloop (n := 8) (I := []) (lp := fun _ _ => noLp) (H := H32) (step := fun _ s => turn s) (fun _ _ => True) rfl trivial (fun _ _ _ _ => trivial) (fun k s hk _ => ?_) (fun s _ => ?_)
  · rw [s32, ilt_of (by omega), cond_true, inc_n (by have : maxLen = 9223372036854775807 := by decide
                                                     omega)]
    exact turn_next (A := Unit) (fun s => H32 ((k + 1 : Nat) : Int) s) s
  · rw [s32, ilt_not (by omega)]; rfl
theorem p32 : Pure Try.prog 32 (known 32 2 enc32 (fun _ => True) (fun x => crc1 x.1 x.2) 0 (.int .u32)).F := by
  refine kp [] [] false Try.func32 (fun e he => by cases he) rfl (by kernel_rfl) (by kernel_rfl) rfl inj32 (fun _ => rfl) fun x _ => ?_
  refine ⟨_, one_loop (c0 := loop Try.f32 3) (id0 := 3) (by kernel_rfl) (by kernel_rfl) rfl (l32 (u32xor x.1 (IntKind.u32.wrap (iv x.2)))), (e32 x.1 (iv x.2) _).trans ?_⟩
  rw [at_self]; rfl

/-! ### Of -/
noncomputable def k32 : IK := ⟨okC enc32 (fun _ => True), valC enc32 (fun _ => True) (fun x => crc1 x.1 x.2) 0⟩
theorem k32_pure : ∀ e, e ∈ [k32.k 32 2 .u32] → Pure Try.prog e.id e.F := fun e he => by
  rw [List.mem_singleton.1 he]; exact p32
theorem k32_ok (s : Int) (b : UInt8) : k32.ok [.int .u32 s, .int .u8 (iv b)] = true := okC_at (s, b) rfl trivial
theorem k32_v (s : Int) (b : UInt8) : k32.v [.int .u32 s, .int .u8 (iv b)] = crc1 s b := valC_at (enc := enc32) (good := fun _ => True) (ans := fun x => crc1 x.1 x.2) inj32 (s, b) rfl trivial
def fitR (r : Row) : Prop := r.l.length ≤ maxLen

theorem l25i (t : Bool) (r : Row) (hr : fitR r) (s : Int) {A : Type} : LOK (A := A) [k32.k 32 2 .u32] Try.f25 25 (findLoop 6 (loopsIn (loop Try.f25 3))) (fun T S k => at_ T S (H25i t r.x 0 s).1 (H25i t r.x 0 s).2 (k (.exit 2) (H25i t r.x r.x.n (r.l.foldl crc1 s)).1 (H25i t r.x r.x.n (r.l.foldl crc1 s)).2)) := by
  have := cloop (A := A) (fn := Try.f25) (f := 25) (c := findLoop 6 (loopsIn (loop Try.f25 3))) (n := r.l.length) (l := [k32.k 32 2 .u32]) (I := []) (lp := fun _ _ => noLp) (H := H25i t r.x) (s0 := s) (step := fun k s => crc1 s (r.l.getD k 0)) (ee := .exit 2) (fun _ _ => True) (by kernel_rfl) trivial (fun _ _ _ _ => trivial) (fun k s hk _ => ?_) (fun s _ => ?_)
  · rw [foldl_take crc1 r.l s _ 0 s (by omega) rfl] at this
    exact this
  · refine (s25i k32 t r.x k s).trans ?_
    show (bif ilt k r.l.length then gd (within k r.l.length) (rdI .u8 (cells r.l) _ _) else _) = _
    rw [ilt_of (by omega), within_nat hk, rd_cells _ _ hk, k32_ok, k32_v, inc_n (by unfold fitR at hr; omega)]
    rfl
  · refine (s25i k32 t r.x _ s).trans ?_
    show (bif ilt r.l.length r.l.length then _ else _) = _
    rw [ilt_not (by omega)]; rfl
theorem l25 (t : Bool) (r : Row) (hr : fitR r) {A : Type} : LOK (A := A) [k32.k 32 2 .u32] Try.f25 25 (loop Try.f25 3) (fun T S k => at_ T S (H25 t r.x 0 4294967295).1 (H25 t r.x 0 4294967295).2 (k (.exit 0) (H25 t r.x 1 (r.l.foldl crc1 4294967295)).1 (H25 t r.x 1 (r.l.foldl crc1 4294967295)).2)) := by
  refine cloop (A := A) (fn := Try.f25) (f := 25) (n := 1) (l := [k32.k 32 2 .u32]) (I := []) (lp := fun _ _ => lp25 t r.x 4294967295 (r.l.foldl crc1 4294967295)) (H := H25 t r.x) (s0 := 4294967295) (step := fun k s => r.l.foldl crc1 4294967295) (ee := .exit 0) (fun k s => k = 0 → s = 4294967295) (by kernel_rfl) (fun _ => rfl) (fun _ _ _ _ h => by omega) (fun k s hk hi => ?_) (fun s _ => ?_) (fun k s _ _ => ?_)
  · have : k = 0 := by omega
    subst this
    rw [hi rfl]
    refine (s25a k32 t r.x 4294967295 (r.l.foldl crc1 4294967295)).trans ?_
    rw [at_self]; rfl
  · exact s25b k32 t r.x _ _ s
  · exact one_loop (c0 := findLoop 6 (loopsIn (loop Try.f25 3))) (id0 := 6) (by kernel_rfl) (by kernel_rfl) rfl (l25i t r hr 4294967295)
def enc25 (x : Bool × Row) : List XV := [rowOne x.1 x.2.x]
theorem inj25 (x y : Bool × Row) (h : enc25 x = enc25 y) : x = y := by
  simp only [enc25, rowOne, List.cons.injEq, XV.row.injEq, true_and, and_true] at h
  exact Prod.ext h.1 (row_inj h.2)
theorem p25 : Pure Try.prog 25 (known 25 1 enc25 (fun x => fitR x.2) (fun x => crc x.2.l) 0 (.int .u32)).F := by
  refine kp [k32.k 32 2 .u32] [] false Try.func25 k32_pure (by kernel_rfl) (by kernel_rfl) (by kernel_rfl) rfl inj25 (fun _ => rfl) fun x hx => ?_
  refine ⟨_, one_loop (c0 := loop Try.f25 3) (id0 := 3) (by kernel_rfl) (by kernel_rfl) rfl (l25 x.1 x.2 hx), (e25 k32 x.1 x.2.x _).trans ?_⟩
  rw [at_self]; rfl

/-! ### the reference's Of -/
theorem l9i (r : Row) (j s : Int) {A : Type} : LOK (A := A) [] Try.f9 9 (findLoop 7 (loopsIn (loop Try.f9 3))) (fun T S k => at_ T S (H9i r.x j 0 s).1 (H9i r.x j 0 s).2 (k (.exit 2) (H9i r.x j 8 (times8 turn s)).1 (H9i r.x j 8 (times8 turn s)).2)) := by
  refine cloop (A := A) (n := 8) (I := []) (lp := fun _ _ => noLp) (H := H9i r.x j) (step := fun _ s => turn s) (fun _ _ => True) rfl trivial (fun _ _ _ _ => trivial) (fun k s hk _ => ?_) (fun s _ => ?_)
  · rw [s9i, ilt_of (by omega), cond_true, inc_n (by have : maxLen = 9223372036854775807 := by decide
                                                     omega)]
    exact turn_next (A := Unit) (fun s => H9i r.x j ((k + 1 : Nat) : Int) s) s
  · rw [s9i, ilt_not (by omega)]; rfl
theorem l9 (r : Row) (hr : fitR r) {A : Type} : LOK (A := A) [] Try.f9 9 (loop Try.f9 3) (fun T S k => at_ T S (H9 r.x 0 4294967295).1 (H9 r.x 0 4294967295).2 (k (.exit 0) (H9 r.x r.x.n (r.l.foldl crc1 4294967295)).1 (H9 r.x r.x.n (r.l.foldl crc1 4294967295)).2)) := by
  have := cloop (A := A) (fn := Try.f9) (f := 9) (c := loop Try.f9 3) (n := r.l.length) (l := []) (I := []) (lp := fun k s => lp9 r.x k (u32xor s (IntKind.u32.wrap (iv (r.l.getD k 0)))) (crc1 s (r.l.getD k 0))) (H := H9 r.x) (s0 := 4294967295) (step := fun k s => crc1 s (r.l.getD k 0)) (ee := .exit 0) (fun _ _ => True) (by kernel_rfl) trivial (fun _ _ _ _ => trivial) (fun k s hk _ => ?_) (fun s _ => ?_) (fun k s _ _ => ?_)
  · rw [foldl_take crc1 r.l 4294967295 r.l.length 0 4294967295 (by omega) rfl] at this
    exact this
  · refine (s9 r.x k s _ _).trans ?_
    show (bif ilt k r.l.length then gd (within k r.l.length) (rdI .u8 (cells r.l) _ _) else _) = _
    rw [ilt_of (by omega), within_nat hk, rd_cells _ _ hk, at_self, inc_n (by unfold fitR at hr; omega)]
    rfl
  · refine (s9 r.x _ s _ _).trans ?_
    show (bif ilt r.l.length r.l.length then _ else _) = _
    rw [ilt_not (by omega)]; rfl
  · exact one_loop (c0 := findLoop 7 (loopsIn (loop Try.f9 3))) (id0 := 7) (by kernel_rfl) (by kernel_rfl) rfl (l9i r k _)
def encR (x : Row) : List XV := [x.x.v]
theorem injR (x y : Row) (h : encR x = encR y) : x = y := by
  simp only [encR, List.cons.injEq, and_true] at h
  exact row_inj h
theorem p9 : Pure Try.prog 9 (known 9 1 encR fitR (fun x => crc x.l) 0 (.int .u32)).F := by
  refine kp [] [] false Try.func9 (fun e he => by cases he) (by kernel_rfl) (by kernel_rfl) (by kernel_rfl) rfl injR (fun _ => rfl) fun x hx => ?_
  refine ⟨_, one_loop (c0 := loop Try.f9 3) (id0 := 3) (by kernel_rfl) (by kernel_rfl) rfl (l9 x hx), (e9 x.x _).trans ?_⟩
  rw [at_self]; rfl

/-! ### taken -/
theorem l12 (r : Row) (n : Nat) (hn : n ≤ r.l.length) (hr : fitR r) {A : Type} : LOK (A := A) [] Try.f12 12 (loop Try.f12 5) (fun T S k => at_ T S (H12 r.x n 0 0).1 (H12 r.x n 0 0).2 (k (.exit 0) (H12 r.x n n (num (r.l.take n))).1 (H12 r.x n n (num (r.l.take n))).2)) := by
  have hl : (r.l.take n).length = n := by rw [List.length_take]; omega
  have hc := cut_x r 0 n hn
  rw [Nat.sub_zero, List.drop_zero] at hc
  have := cloop (A := A) (fn := Try.f12) (f := 12) (c := loop Try.f12 5) (n := n) (l := []) (I := []) (lp := fun _ _ => noLp) (H := H12 r.x n) (s0 := 0) (step := fun k s => push8 s (iv ((r.l.take n).getD k 0))) (ee := .exit 0) (fun _ _ => True) (by kernel_rfl) trivial (fun _ _ _ _ => trivial) (fun k s hk _ => ?_) (fun s _ => ?_)
  · rw [foldl_take (fun z x => push8 z (iv x)) (r.l.take n) 0 _ 0 0 (by omega) rfl] at this
    exact this
  · refine (s12 r.x n k s).trans ?_
    rw [show ((n : Int).toNat) = n from rfl, hc]
    show (bif ilt k ((r.l.take n).length : Nat) then gd (within k (r.l.take n).length) (rdI .u8 (cells (r.l.take n)) _ _) else _) = _
    rw [ilt_of (by omega), within_nat (by omega), rd_cells _ _ (by omega), inc_n (by unfold fitR at hr; omega)]
    rfl
  · refine (s12 r.x n n s).trans ?_
    rw [show ((n : Int).toNat) = n from rfl, hc]
    show (bif ilt n ((r.l.take n).length : Nat) then _ else _) = _
    rw [ilt_not (by omega)]; rfl
def enc12 (x : Row × Nat) : List XV := [x.1.x.v, .int .i64 x.2]
theorem inj12 (x y : Row × Nat) (h : enc12 x = enc12 y) : x = y := by
  simp only [enc12, List.cons.injEq, XV.int.injEq, true_and, and_true] at h
  exact Prod.ext (row_inj h.1) (by omega)
theorem n12 (a : RX) (n : Int) : run [] [] noLp Try.f12 12 true [a.v, .int .i64 n] = bif ilt a.n n then some (.tuple [.int .u64 0, .row true true [] 0, .bool false]) else gd (upto n a.n) none := by kernel_rfl
def ans12 (x : Row × Nat) : Int × Row × Bool := if x.1.l.length < x.2 then (0, ⟨true, true, []⟩, false) else (num (x.1.l.take x.2), ⟨x.1.t, x.1.m, x.1.l.drop x.2⟩, true)
theorem p12 : Pure Try.prog 12 (known 12 2 enc12 (fun x => fitR x.1) ans12 (0, ⟨true, true, []⟩, false) (fun y => .tuple [.int .u64 y.1, y.2.1.x.v, .bool y.2.2])).F := by
  refine kp [] [] true Try.func12 (fun e he => by cases he) (by kernel_rfl) (by kernel_rfl) (by kernel_rfl) rfl inj12 (fun _ => rfl) fun x hx => ?_
  obtain ⟨r, n⟩ := x
  by_cases h : r.l.length < n
  · refine ⟨noLp, noLoops, (n12 r.x n).trans ?_⟩
    show (bif ilt r.l.length n then _ else _) = _
    rw [ilt_of (by omega)]
    simp only [ans12, if_pos h]
    rfl
  · refine ⟨_, one_loop (c0 := loop Try.f12 5) (id0 := 5) (by kernel_rfl) (by kernel_rfl) rfl (l12 r n (by omega) hx), (e12 r.x n _ n).trans ?_⟩
    show (bif ilt r.l.length n then _ else gd (upto n r.l.length) _) = _
    have hu : upto n r.l.length = true := upto_of ⟨by omega, by omega⟩
    have hu' : upto n r.x.n = true := hu
    rw [ilt_not (by omega), at_self, hu, hu']
    show some (XV.tuple [_, (r.x.cut n r.l.length).v, _]) = _
    rw [cut_x _ _ _ (Nat.le_refl _)]
    simp only [ans12, if_neg h, beq_self_eq_true, Bool.and_true, List.take_of_length_le (Nat.le_of_eq (List.length_drop ..))]
end Go.Proofs.Ythblghfdfhhppaa

/-
  The reference's numbers and things, rows of bytes that are one: each as a law in plain Lean. No condition.
-/
namespace Go.Proofs.Ythblghfdfhhppaa
open Go.XM
set_option linter.unusedVariables false
set_option linter.unusedSimpArgs false

/-! ### number -/
noncomputable def H15 (a : RX) (i z : Int) : Tmps × XS := (mkT 3 [(0, a.v), (2, .int .u64 0), (3, .int .u64 z), (4, .int .i64 i)], XS.none)
theorem s15 (a : RX) (i z : Int) : roundC [] [] noLp Try.f15 15 (loop Try.f15 3) (H15 a i z) = bif ilt i a.n then gd (within i a.n) (rdI .u8 a.c (i.toNat * 1) fun x => next (H15 a (inc i) (push8 z x))) else fin (.exit 0) (H15 a i z) := by kernel_rfl
theorem e15 (a : RX) (z : Int) : run [] [] (fun id => if Nat.beq id 3 then some fun T S k => at_ T S (H15 a 0 0).1 (H15 a 0 0).2 (k (.exit 0) (H15 a a.n z).1 (H15 a a.n z).2) else none) Try.f15 15 false [a.v] =
    at_ (H15 a 0 0).1 (H15 a 0 0).2 (H15 a 0 0).1 (H15 a 0 0).2 (some (.int .u64 z)) := by kernel_rfl
theorem l15 (r : Row) (hr : fitR r) {A : Type} : LOK (A := A) [] Try.f15 15 (loop Try.f15 3) (fun T S k => at_ T S (H15 r.x 0 0).1 (H15 r.x 0 0).2 (k (.exit 0) (H15 r.x r.x.n (num r.l)).1 (H15 r.x r.x.n (num r.l)).2)) := by
  have := cloop (A := A) (fn := Try.f15) (f := 15) (c := loop Try.f15 3) (n := r.l.length) (l := []) (I := []) (lp := fun _ _ => noLp) (H := H15 r.x) (s0 := 0) (step := fun k s => push8 s (iv (r.l.getD k 0))) (ee := .exit 0) (fun _ _ => True) (by kernel_rfl) trivial (fun _ _ _ _ => trivial) (fun k s hk _ => ?_) (fun s _ => ?_)
  · rw [foldl_take (fun z x => push8 z (iv x)) r.l 0 r.l.length 0 0 (by omega) rfl] at this
    exact this
  · refine (s15 r.x k s).trans ?_
    show (bif ilt k r.l.length then gd (within k r.l.length) (rdI .u8 (cells r.l) _ _) else _) = _
    rw [ilt_of (by omega), within_nat hk, rd_cells _ _ hk, inc_n (by unfold fitR at hr; omega)]
    rfl
  · refine (s15 r.x _ s).trans ?_
    show (bif ilt r.l.length r.l.length then _ else _) = _
    rw [ilt_not (by omega)]; rfl
theorem p15 : Pure Try.prog 15 (known 15 1 encR fitR (fun x => num x.l) 0 (.int .u64)).F := by
  refine kp [] [] false Try.func15 (fun e he => by cases he) (by kernel_rfl) (by kernel_rfl) (by kernel_rfl) rfl injR (fun _ => rfl) fun x hx => ?_
  refine ⟨_, one_loop (c0 := loop Try.f15 3) (id0 := 3) (by kernel_rfl) (by kernel_rfl) rfl (l15 x hx), (e15 x.x _).trans ?_⟩
  rw [at_self]

/-! ### bytes.Equal -/
noncomputable def textOf {A : Type} (a : RX) (k : Bs → Option A) : Option A := gd (Nat.beq a.c.length a.n) (match allBytes a.c with | some l => k l | none => none)
theorem e14 (a b : RX) : run [] [] noLp Try.f14 14 false [a.v, b.v] = textOf a fun l => textOf b fun l2 => some (.bool (l == l2)) := by kernel_rfl
theorem allBytes_cells : ∀ l : Bs, allBytes (cells l) = some l
  | [] => rfl
  | x :: l => by
    show (match allBytes (cells l) with | some l => some (UInt8.ofNat (iv x).toNat :: l) | none => none) = _
    rw [allBytes_cells l]
    simp [iv]
theorem textOf_x {A : Type} (r : Row) (k : Bs → Option A) : textOf r.x k = k r.l := by
  unfold textOf Row.x
  simp only [cells_len, Nat.beq_refl, allBytes_cells]
  rfl
def enc14 (x : Row × Row) : List XV := [x.1.x.v, x.2.x.v]
theorem inj14 (x y : Row × Row) (h : enc14 x = enc14 y) : x = y := by
  simp only [enc14, List.cons.injEq, and_true] at h
  exact Prod.ext (row_inj h.1) (row_inj h.2)
theorem p14 : Pure Try.prog 14 (known 14 2 enc14 (fun _ => True) (fun x => x.1.l == x.2.l) true .bool).F := by
  refine kp [] [] false Try.func14 (fun e he => by cases he) (by kernel_rfl) (by kernel_rfl) (by kernel_rfl) rfl inj14 (fun _ => rfl) fun x hx => ?_
  exact ⟨noLp, noLoops, (e14 x.1.x x.2.x).trans (by rw [textOf_x, textOf_x])⟩

/-! ### take -/
noncomputable def rd1 {A : Type} (a : RX) (i : Nat) (k : Int → Option A) : Option A := gd (within (Int.ofNat i) a.n) (rdI .u8 a.c i k)
noncomputable def cutS {A : Type} (a : RX) (k : Bs → Int → Option A) : Option A := rd1 a 1 fun y => gd (upto (i64of (2 + i64of y)) a.n) (gd (upto 2 (i64of (2 + i64of y)).toNat) (textOf (a.cut 2 (i64of (2 + i64of y)).toNat) fun l => rd1 a 1 fun y3 => k l (i64of (2 + i64of y3))))
noncomputable def took (k n : Int) (s : Bs) (b : Bool) (z : Int) : Option XV := some (.tuple [.agg (thg k n s b), .int .i64 z])
theorem e16 (k15 : IK) (a : RX) : run [k15.k 15 1 .u64] [] noLp Try.f16 16 false [a.v] =
    have third := bif ile 2 a.n then rd1 a 0 fun x => bif x == 3 then rd1 a 1 fun y => bif ile y 1 then rd1 a 1 fun y' => took 3 0 [] (y' == 1) 2 else took 0 0 [] false 0 else took 0 0 [] false 0 else took 0 0 [] false 0
    have second := bif ile 2 a.n then rd1 a 0 fun x => bif x == 2 then rd1 a 1 fun y => bif ile (i64of y) 200 then rd1 a 1 fun y2 => bif ile (i64of (2 + i64of y2)) a.n then cutS a fun _ _ => cutS a fun l h => took 2 0 l false h else third else third else third else third
    bif ile 9 a.n then rd1 a 0 fun x => bif x == 1 then gd (upto 9 a.n) (gd (k15.ok [(a.cut 1 9).v]) (took 1 (i64of (k15.v [(a.cut 1 9).v])) [] false 9)) else second else second := by kernel_rfl

noncomputable def k15 : IK := ⟨okC encR fitR, valC encR fitR (fun x => num x.l) 0⟩
theorem k15_ok (r : Row) (h : fitR r) : k15.ok [r.x.v] = true := okC_at r rfl h
theorem k15_v (r : Row) (h : fitR r) : k15.v [r.x.v] = num r.l := valC_at (enc := encR) (good := fitR) (ans := fun x => num x.l) injR r rfl h
structure Y16 where
  k : Int
  n : Int
  s : Bs
  b : Bool
  z : Int
def thY (t : Th) : Y16 := match t with
  | .num n => ⟨1, n, [], false, 9⟩
  | .txt s => ⟨2, 0, s, false, 2 + s.length⟩
  | .tru b => ⟨3, 0, [], b, 2⟩
def ans16 (r : Row) : Y16 := match takeS r.l with
  | none => ⟨0, 0, [], false, 0⟩
  | some (t, _) => thY t
theorem rd1_x {A : Type} (r : Row) (i : Nat) (h : i < r.l.length) (f : Int → Option A) : rd1 r.x i f = f (iv (r.l.getD i 0)) := by
  unfold rd1
  have := rd_cells r.l i h f
  simp only [Int.toNat_natCast, Nat.mul_one] at this
  show gd (within (i : Int) r.l.length) (rdI .u8 (cells r.l) i f) = _
  rw [within_nat h, this]; rfl
theorem i64_iv (y : UInt8) : i64of (iv y) = iv y := by
  have := y.toNat_lt
  unfold i64of iv
  exact IntWalk.i64_in _ ⟨by omega, by omega⟩
theorem i64_iv2 (y : UInt8) : i64of (2 + i64of (iv y)) = ((2 + y.toNat : Nat) : Int) := by
  have := y.toNat_lt
  rw [i64_iv]
  unfold i64of iv
  rw [IntWalk.i64_in _ ⟨by omega, by omega⟩]; omega
theorem iv_eq (y : UInt8) (n : Nat) (h : n < 256) : (iv y == (n : Int)) = decide (y = UInt8.ofNat n) := by
  have : (iv y = (n : Int)) ↔ y = UInt8.ofNat n := by
    unfold iv
    rw [← UInt8.toNat_inj, UInt8.toNat_ofNat', Nat.mod_eq_of_lt (by simpa using h)]
    omega
  by_cases q : y = UInt8.ofNat n
  · rw [decide_eq_true q, this.2 q]; simp
  · rw [decide_eq_false q]
    exact beq_eq_false_iff_ne.2 fun e => q (this.1 e)
theorem cutS_x {A : Type} (r : Row) (k : UInt8) (y : UInt8) (b : Bs) (h : r.l = k :: y :: b) (hy : y.toNat ≤ b.length) (f : Bs → Int → Option A) : cutS r.x f = f (b.take y.toNat) ((2 + y.toNat : Nat) : Int) := by
  unfold cutS
  have hl : r.l.length = b.length + 2 := by rw [h]; rfl
  have hg : r.l.getD 1 0 = y := by rw [h]; rfl
  rw [rd1_x r 1 (by omega), hg, i64_iv2]
  show gd (upto _ r.l.length) (gd (upto 2 (2 + y.toNat)) (textOf (r.x.cut 2 (2 + y.toNat)) _)) = _
  rw [upto_of ⟨by omega, by omega⟩, upto_of ⟨by omega, by omega⟩, cut_x _ _ _ (by omega), gd_true, gd_true, textOf_x, rd1_x r 1 (by omega), hg, i64_iv2]
  simp only [h, Nat.add_sub_cancel_left]
  rfl
theorem p16 : Pure Try.prog 16 (known 16 1 encR fitR ans16 ⟨0, 0, [], false, 0⟩ (fun y => .tuple [.agg (thg y.k y.n y.s y.b), .int .i64 y.z])).F := by
  refine kp [k15.k 15 1 .u64] [] false Try.func16 (fun e he => by rw [List.mem_singleton.1 he]; exact p15) (by kernel_rfl) (by kernel_rfl) (by kernel_rfl) rfl injR (fun _ => rfl) fun r hr => ?_
  refine ⟨noLp, noLoops, (e16 k15 r.x).trans ?_⟩
  have hn : ∀ z : Int, ile z r.x.n = decide (z ≤ r.l.length) := fun z => ile_eq _ _
  simp only [hn]
  unfold ans16 takeS
  cases hl : r.l with
  | nil => rfl
  | cons k b =>
    have h0 : 0 < r.l.length := by rw [hl]; simp
    have g0 : r.l.getD 0 0 = k := by rw [hl]; rfl
    have c1 : (iv k == 1) = decide (k = 1) := iv_eq k 1 (by decide)
    have c2 : (iv k == 2) = decide (k = 2) := iv_eq k 2 (by decide)
    have c3 : (iv k == 3) = decide (k = 3) := iv_eq k 3 (by decide)
    simp only [rd1_x r 0 h0, g0, c1, c2, c3]
    by_cases k1 : k = 1
    · subst k1
      simp only [decide_true, if_true, List.length_cons, show ¬ (1 : UInt8) = 2 by decide, show ¬ (1 : UInt8) = 3 by decide, decide_false, cond_false]
      by_cases h8 : 8 ≤ b.length
      · rw [decide_eq_true (by omega), if_pos h8]
        have hc := cut_x r 1 9 (by rw [hl]; simp; omega)
        have hf : fitR (⟨r.t, r.m && 9 == r.l.length, (r.l.drop 1).take (9 - 1)⟩ : Row) := by unfold fitR at hr ⊢; simp; omega
        have hu : upto 9 r.x.n = true := upto_of ⟨by omega, by show (9 : Int) ≤ (r.l.length : Nat); rw [hl]; simp; omega⟩
        simp only [hu, hc, k15_ok _ hf, k15_v _ hf, cond_true]
        simp only [hl]
        rfl
      · rw [decide_eq_false (by omega), if_neg h8]
        cases decide (2 ≤ ((b.length + 1 : Nat) : Int)) <;> rfl
    · simp only [k1, decide_false, cond_false, if_false]
      cases b with
      | nil =>
        by_cases k2 : k = 2
        · simp only [k2, if_true]; rfl
        · by_cases k3 : k = 3
          · simp only [k3, show ¬ (3 : UInt8) = 2 by decide, if_true, if_false]; rfl
          · simp only [k2, k3, if_false]; rfl
      | cons y b =>
        have h1 : 1 < r.l.length := by rw [hl]; simp
        have g1 : r.l.getD 1 0 = y := by rw [hl]; rfl
        have d2 : decide ((2 : Int) ≤ (((k :: y :: b).length : Nat) : Int)) = true := decide_eq_true (by simp; omega)
        simp only [rd1_x r 1 h1, g1, d2, cond_true, i64_iv2]
        have hle : ∀ n : Nat, decide (iv y ≤ (n : Int)) = decide (y.toNat ≤ n) := fun n => by
          unfold iv
          by_cases q : y.toNat ≤ n
          · rw [decide_eq_true q, decide_eq_true (by omega)]
          · rw [decide_eq_false q, decide_eq_false (by omega)]
        have h200 : decide (iv y ≤ 200) = decide (y.toNat ≤ 200) := hle 200
        have hone : decide (iv y ≤ 1) = decide (y.toNat ≤ 1) := hle 1
        have hlen : decide (((2 + y.toNat : Nat) : Int) ≤ ((k :: y :: b).length : Nat)) = decide (y.toNat ≤ b.length) := by
          simp only [List.length_cons]
          by_cases q : y.toNat ≤ b.length
          · rw [decide_eq_true q, decide_eq_true (by omega)]
          · rw [decide_eq_false q, decide_eq_false (by omega)]
        simp only [i64_iv, ile_eq, h200, hone, hlen]
        by_cases k2 : k = 2
        · subst k2
          simp only [decide_true, if_true, cond_true, show ¬ (2 : UInt8) = 3 by decide, decide_false, cond_false]
          by_cases c : y.toNat ≤ 200 ∧ y.toNat ≤ b.length
          · rw [if_pos c, decide_eq_true c.1, decide_eq_true c.2, cutS_x r 2 y b hl c.2, cutS_x r 2 y b hl c.2]
            have hlt : (b.take y.toNat).length = y.toNat := by rw [List.length_take]; omega
            simp only [thY, hlt, took, cond_true, Bool.cond_self]
            congr 5
          · rw [if_neg c]
            by_cases c1 : y.toNat ≤ 200
            · rw [decide_eq_false (p := y.toNat ≤ b.length) (by omega)]
              simp only [cond_false, Bool.cond_self, took]
            · rw [decide_eq_false c1]
              simp only [cond_false, Bool.cond_self, took]
        · by_cases k3 : k = 3
          · subst k3
            simp only [decide_true, if_true, cond_true, show ¬ (3 : UInt8) = 2 by decide, decide_false, cond_false, if_false]
            by_cases c : y.toNat ≤ 1
            · rw [if_pos c, decide_eq_true c]
              have hy : (iv y == 1) = (y == 1) := by rw [show (iv y == 1) = decide (y = UInt8.ofNat 1) from iv_eq y 1 (by decide)]; rfl
              simp only [hy, cond_true, Bool.cond_self, took, thY]
            · rw [if_neg c, decide_eq_false c]
              simp only [cond_false, Bool.cond_self, took]
          · simp only [k2, k3, decide_false, cond_false, if_false, Bool.cond_self, took]
end Go.Proofs.Ythblghfdfhhppaa
