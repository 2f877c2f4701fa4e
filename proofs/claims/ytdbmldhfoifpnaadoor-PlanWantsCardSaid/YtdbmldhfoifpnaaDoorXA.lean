/- A plain machine beside the model, and that what it tells the model does: part XA. Conditions: those of each theorem below. -/
import GoSem.Dispatch
import GoSem.Core.Layout
import Derived.Calls
import GoSem.Core.Utf8
namespace Go.XM
set_option linter.unusedVariables false
set_option linter.unusedSimpArgs false
noncomputable section

/-- A value of the plain machine: addresses are numbers of its own blocks. -/
inductive XV where
  | bool (b : Bool)
  | int (k : IntKind) (n : Int)
  | str (s : List UInt8)
  | nilPtr
  | ptr (b o : Nat)
  | nilSlice
  | slice (b o len cap : Nat)
  | sl (b : Nat)
  | part (b o len : Nat)
  | row (t m : Bool) (cs : List XV) (len : Nat)
  | rptr (t : Bool) (cs : List XV) (o : Nat)
  | nilMap
  | func (f : FuncId) (captured : List XV)
  | nilFunc
  | iface (t : TypeId) (v : XV)
  | nilIface
  | agg (cells : List XV)
  | tuple (vs : List XV)
  | dead
  deriving Inhabited

/-- ro: what came in; own: of a size that is known; arr: so, and plain cells alone; loose: a row of n elements that an append made: more room may stand behind it; plain cells alone. -/
inductive XKind where
  | ro | own | arr (esz : Nat) | loose (esz n : Nat)
  deriving DecidableEq, Inhabited

def XKind.flat : XKind → Bool
  | .arr _ => true
  | .loose _ _ => true
  | _ => false

/-- how many cells the log has of a block -/
def XKind.room (k : XKind) (cs : List XV) : Nat :=
  match k with
  | .loose _ _ => cs.length + 1
  | _ => cs.length

inductive XBlk where
  | cells (cs : List XV) (k : XKind)
  | iter (s : List UInt8) (pos : Nat)
  | gone
  deriving Inhabited

/-- The heap, newest block first; log: cells of elder blocks that were written. -/
structure XS where
  heap : List XBlk
  size : Nat
  log : List (Nat × Nat)

def XS.get (S : XS) (b : Nat) : XBlk := if b < S.size then (S.heap[S.size - 1 - b]?).getD .gone else .gone
def XS.put (S : XS) (b : Nat) (x : XBlk) : XS := if b < S.size then { S with heap := S.heap.set (S.size - 1 - b) x } else S
def XS.push (S : XS) (x : XBlk) : XS := { S with heap := x :: S.heap, size := S.size + 1 }
def XS.note (S : XS) (base b o : Nat) : XS := if b < base then { S with log := (b, o) :: S.log } else S

def XV.live : XV → Bool
  | .dead => false
  | _ => true

def XV.oneCell : XV → Bool
  | .agg _ | .tuple _ | .dead => false
  | _ => true

def XV.cells : XV → List XV
  | .agg cs => cs
  | v => [v]

mutual
/-- no address at or beyond n -/
def XV.under (n : Nat) : XV → Bool
  | .ptr b _ => b < n
  | .slice b _ _ _ => b < n
  | .sl b => b < n
  | .part b _ _ => b < n
  | .func _ cs => underAll n cs
  | .iface _ v => v.under n
  | .agg cs => underAll n cs
  | .tuple cs => underAll n cs
  | _ => true
def underAll (n : Nat) : List XV → Bool
  | [] => true
  | v :: r => v.under n && underAll n r
end

/-- what may stand in a row -/
def XV.fits (k : XKind) (v : XV) : Bool := v.oneCell && (!k.flat || v.under 0)
def okCells (k : XKind) (l : List XV) : Bool := k.flat || l.all fun v => v.oneCell && v.under 0

/-- cell o of a row, if it is there and not dead -/
def cellAt (cs : List XV) (o : Nat) : Option XV :=
  match cs[o]? with
  | some v => if v.live then some v else none
  | none => none

def XS.cell (S : XS) (b o : Nat) : Option XV :=
  match S.get b with
  | .cells cs _ => cellAt cs o
  | _ => none

def XS.cellsFrom (S : XS) (b : Nat) : (o n : Nat) → Option (List XV)
  | _, 0 => some []
  | o, n + 1 => match S.cell b o with
    | some v => match S.cellsFrom b (o + 1) n with
      | some r => some (v :: r)
      | none => none
    | none => none

/-- store one cell -/
def XS.store1 (S : XS) (base b o : Nat) (v : XV) : Option XS :=
  match S.get b with
  | .cells cs k =>
    if k = .ro then none else
    match cellAt cs o with
    | some _ => if v.fits k then some ((S.put b (.cells (cs.set o v) k)).note base b o) else none
    | none => none
  | _ => none

def XS.storeN (S : XS) (base b : Nat) : (o : Nat) → List XV → Option XS
  | _, [] => some S
  | o, v :: r => match S.store1 base b o v with
    | some S' => S'.storeN base b (o + 1) r
    | none => none

def tsize (P : Program) (t : TypeId) : Option Nat := match P.info? t with | some i => some i.size | none => none
def tagg (P : Program) (t : TypeId) : Option Bool :=
  match P.underlying t with
  | some (.struct _) => some true
  | some (.array _ _) => some true
  | some _ => some false
  | none => none

def XV.ofCell : Value → Option XV
  | .bool b => some (.bool b)
  | .int k n => some (.int k n)
  | .string s => some (.str s.data.toList)
  | .pointer none => some .nilPtr
  | .slice none 0 0 => some .nilSlice
  | .map none => some .nilMap
  | .nilFunc => some .nilFunc
  | .nilIface => some .nilIface
  | _ => none

def ofCells : List Value → Option (List XV)
  | [] => some []
  | v :: r => match XV.ofCell v, ofCells r with
    | some a, some b => some (a :: b)
    | _, _ => none

def XV.ofValue : Value → Option XV
  | .agg cs => match ofCells cs.toList with | some l => some (.agg l) | none => none
  | .tuple vs => if vs.toList.isEmpty then some (.tuple []) else none
  | v => XV.ofCell v

def zeroCells (P : Program) (t : TypeId) : Option (List XV) :=
  match P.info? t with
  | some i => match i.zero with
    | some z => match XV.ofValue z with
      | some v => some v.cells
      | none => none
    | none => none
  | none => none

/-- what stands at a place, written so that the kernel is quick -/
def nthX {α : Type} (d : α) (l : List α) (n : Nat) : α :=
  List.rec (motive := fun _ => Nat → α) (fun _ => d) (fun x _ ih n => Nat.rec (motive := fun _ => α) x (fun m _ => ih m) n) l n
def setNilX {α : Type} (d v : α) (n : Nat) : List α := Nat.rec (motive := fun _ => List α) [v] (fun _ ih => d :: ih) n
def setX {α : Type} (d : α) (l : List α) (n : Nat) (v : α) : List α :=
  List.rec (motive := fun _ => Nat → List α) (fun n => setNilX d v n) (fun x r ih n => Nat.rec (motive := fun _ => List α) (v :: r) (fun m _ => x :: ih m) n) l n

theorem nthX_nil {α : Type} (d : α) (n : Nat) : nthX d [] n = d := rfl
theorem nthX_zero {α : Type} (d x : α) (r : List α) : nthX d (x :: r) 0 = x := rfl
theorem nthX_succ {α : Type} (d x : α) (r : List α) (n : Nat) : nthX d (x :: r) (n + 1) = nthX d r n := rfl
theorem nthX_setX {α : Type} (d : α) (l : List α) (n : Nat) (v : α) : ∀ t, nthX d (setX d l n v) t = if t = n then v else nthX d l t := by
  induction l generalizing n with
  | nil =>
    induction n with
    | zero => intro t; cases t with
      | zero => rfl
      | succ t => rfl
    | succ n ih => intro t; cases t with
      | zero => rw [if_neg (by omega)]; rfl
      | succ t =>
        have : nthX d (setX d [] (n + 1) v) (t + 1) = nthX d (setX d [] n v) t := rfl
        rw [this, ih]
        by_cases h : t = n
        · rw [if_pos h, if_pos (by omega)]
        · rw [if_neg h, if_neg (by omega)]; rfl
  | cons x r ih =>
    intro t
    cases n with
    | zero => cases t with
      | zero => rfl
      | succ t => rfl
    | succ n => cases t with
      | zero => rw [if_neg (by omega)]; rfl
      | succ t =>
        have : nthX d (setX d (x :: r) (n + 1) v) (t + 1) = nthX d (setX d r n v) t := rfl
        rw [this, ih]
        by_cases h : t = n
        · rw [if_pos h, if_pos (by omega)]
        · rw [if_neg h, if_neg (by omega)]; rfl

/-- the temporaries, in rows of eight -/
abbrev Tmps := List (List XV)
def tget (T : Tmps) (t : Nat) : XV := nthX (.tuple []) (nthX [] T (t / 8)) (t % 8)
def tset (T : Tmps) (t : Nat) (v : XV) : Tmps := setX [] T (t / 8) (setX (.tuple []) (nthX [] T (t / 8)) (t % 8) v)

theorem tget_nil (t : Nat) : tget [] t = .tuple [] := rfl
theorem tget_tset (T : Tmps) (d : Nat) (v : XV) (t : Nat) : tget (tset T d v) t = if t = d then v else tget T t := by
  unfold tget tset
  rw [nthX_setX]
  by_cases h : t / 8 = d / 8
  · rw [if_pos h, nthX_setX]
    by_cases h2 : t % 8 = d % 8
    · rw [if_pos h2, if_pos (by omega)]
    · rw [if_neg h2, if_neg (fun q => h2 (by rw [q])), h]
  · rw [if_neg h, if_neg (fun q => h (by rw [q]))]

def argsT : Nat → List XV → Tmps → Tmps
  | _, [], T => T
  | i, x :: r, T => argsT (i + 1) r (tset T i x)

theorem tget_argsT : ∀ (l : List XV) (i : Nat) (T : Tmps) (t : Nat), tget (argsT i l T) t = if i ≤ t ∧ t < i + l.length then (l[t - i]?).getD (.tuple []) else tget T t
  | [], i, T, t => by
    rw [if_neg (by simp only [List.length_nil]; omega)]
    rfl
  | x :: r, i, T, t => by
    rw [argsT, tget_argsT r (i + 1) _ t, tget_tset]
    simp only [List.length_cons]
    by_cases h : t = i
    · subst h
      rw [if_neg (by omega), if_pos rfl, if_pos (by omega)]
      simp
    · rw [if_neg h]
      by_cases h2 : i + 1 ≤ t ∧ t < i + 1 + r.length
      · rw [if_pos h2, if_pos (by omega), show t - i = (t - (i + 1)) + 1 by omega]
        simp
      · rw [if_neg h2, if_neg (by omega)]

def evalX (T : Tmps) : Operand → Option XV
  | .tmp t => if (tget T t).live then some (tget T t) else none
  | .const v => XV.ofValue v
  | .global _ => none
  | .func f => some (.func f [])

/-- n cells of a row -/
def cellsL (cs : List XV) : (o n : Nat) → Option (List XV)
  | _, 0 => some []
  | o, n + 1 => match cellAt cs o with
    | some v => match cellsL cs (o + 1) n with
      | some r => some (v :: r)
      | none => none
    | none => none

def xload (P : Program) (S : XS) (t : TypeId) : XV → Option XV
  | .rptr _ cs o => match tagg P t with
    | some true => match tsize P t with
      | some n => match cellsL cs o n with
        | some l => some (.agg l)
        | none => none
      | none => none
    | some false => cellAt cs o
    | none => none
  | .ptr b o => match tagg P t with
    | some true => match tsize P t with
      | some n => match S.cellsFrom b o n with
        | some cs => some (.agg cs)
        | none => none
      | none => none
    | some false => S.cell b o
    | none => none
  | _ => none

def xstore (P : Program) (base : Nat) (S : XS) (t : TypeId) (a v : XV) : Option XS :=
  match a with
  | .ptr b o => if tsize P t = some v.cells.length then S.storeN base b o v.cells else none
  | _ => none

def xfill (place : Nat → Option (Nat × Nat)) (cells : List XV) : List (Nat × XV) → Option (List XV)
  | [] => some cells
  | (i, v) :: rest =>
    match place i with
    | none => none
    | some (off, size) =>
      if v.cells.length = size ∧ off + size ≤ cells.length then
        xfill place (cells.take off ++ v.cells ++ cells.drop (off + size)) rest
      else none

def places (P : Program) : List Field → Option (List (Nat × Nat))
  | [] => some []
  | f :: r => match tsize P f.type, places P r with
    | some n, some l => some ((f.offset, n) :: l)
    | _, _ => none

def evalParts (T : Tmps) : List (Nat × Operand) → Option (List (Nat × XV))
  | [] => some []
  | (i, x) :: r => match evalX T x, evalParts T r with
    | some v, some l => some ((i, v) :: l)
    | _, _ => none

def evalAll (T : Tmps) : List Operand → Option (List XV)
  | [] => some []
  | x :: r => match evalX T x, evalAll T r with
    | some v, some l => some (v :: l)
    | _, _ => none

def xbuild (P : Program) (t : TypeId) (parts : List (Nat × XV)) : Option XV :=
  match P.underlying t with
  | some (.struct fs) => match zeroCells P t, places P fs.toList with
    | some z, some pl => match xfill (fun i => pl[i]?) z parts with
      | some cs => some (.agg cs)
      | none => none
    | _, _ => none
  | some (.array _ e) => match zeroCells P t, tsize P e with
    | some z, some n => match xfill (fun i => some (i * n, n)) z parts with
      | some cs => some (.agg cs)
      | none => none
    | _, _ => none
  | _ => none

def repeatL (z : List XV) : Nat → List XV
  | 0 => []
  | n + 1 => z ++ repeatL z n

def sliceElem (P : Program) (t : TypeId) : Option TypeId :=
  match P.underlying t with
  | some (.slice e) => some e
  | _ => none

def xbuildSlice (P : Program) (S : XS) (t : TypeId) (len : Nat) (parts : List (Nat × XV)) : Option (XV × XS) :=
  match sliceElem P t with
  | some e => match zeroCells P e, tsize P e with
    | some z, some n =>
      if z.length = n ∧ 0 < n ∧ len * n ≤ 16777216 then
        match xfill (fun i => some (i * n, n)) (repeatL z len) parts with
        | some cs => some (.slice S.size 0 len len, S.push (.cells cs (if cs.all (XV.fits (.arr n)) then .arr n else .own)))
        | none => none
      else none
    | _, _ => none
  | none => none

def noteAll (b : Nat) : Nat → List (Nat × Nat) → List (Nat × Nat)
  | 0, l => l
  | n + 1, l => (b, n) :: noteAll b n l

/-- nobody may come to this row any more -/
def XS.kill (S : XS) (base b n : Nat) : XS :=
  { S.put b .gone with log := if b < base then noteAll b n S.log else S.log }

def zeroOK (P : Program) (t : TypeId) (n : Nat) : Bool :=
  match zeroCells P t with
  | some z => z.length == n
  | none => false

/-- append: new cells 'new', n elements -/
def xappend (P : Program) (base : Nat) (S : XS) (t : TypeId) (s : XV) (new : List XV) (n : Nat) : Option (XV × XS) :=
  match sliceElem P t with
  | some e => match P.info? e with
    | some i =>
      if i.size = 0 ∨ i.bytes = 0 ∨ new.length ≠ n * i.size ∨ ¬ zeroOK P e i.size then none else
      match s with
      | .nilSlice =>
        if n = 0 then some (.nilSlice, S)
        else if n * i.bytes ≤ 35184372088832 then some (.sl S.size, S.push (.cells new (.loose i.size n)))
        else none
      | .sl b =>
        if n = 0 then some (.sl b, S) else
        match S.get b with
        | .cells cs (.loose esz m) =>
          if esz = i.size ∧ (m + n) * i.bytes ≤ 35184372088832 then
            some (.sl S.size, (S.kill base b (cs.length + 1)).push (.cells (cs ++ new) (.loose esz (m + n))))
          else none
        | _ => none
      | .slice b o len cap =>
        if n = 0 then (if len ≤ cap then some (s, S) else none) else
        if len + n ≤ cap then
          match S.storeN base b (o + len * i.size) new with
          | some S' => some (.slice b o (len + n) cap, S')
          | none => none
        else if (len + n) * i.bytes ≤ 35184372088832 then
          match S.get b with
          | .cells _ k => match S.cellsFrom b o (len * i.size) with
            | some old => if okCells k old then some (.sl S.size, S.push (.cells (old ++ new) (.loose i.size (len + n)))) else none
            | none => none
          | _ => none
        else none
      | .row _ m cs len =>
        if n = 0 then some (s, S)
        else if m = true ∧ cs.length = len * i.size ∧ (len + n) * i.bytes ≤ 35184372088832 then
          some (.sl S.size, S.push (.cells (cs ++ new) (.loose i.size (len + n))))
        else none
      | _ => none
    | none => none
  | none => none

mutual
/-- does a plain value look into memory that was lent? -/
def XV.lent : XV → Bool
  | .row t _ _ _ => t
  | .rptr t _ _ => t
  | .func _ cs => lentAny cs
  | .iface _ v => v.lent
  | .agg cs => lentAny cs
  | .tuple cs => lentAny cs
  | _ => false
def lentAny : List XV → Bool
  | [] => false
  | v :: r => v.lent || lentAny r
end

/-- what a caller hands on to a function that only looks: its rows, read out. t: with this mark -/
def hardAll (hard : XV → Option XV) : List XV → Option (List XV)
  | [] => some []
  | v :: r => match hard v, hardAll hard r with
    | some a, some l => some (a :: l)
    | _, _ => none

def hard (t : Bool) (S : XS) : Nat → XV → Option XV
  | 0, _ => none
  | n + 1, v =>
    match v with
    | .ptr b o => match S.get b with
      | .cells cs k => match hardAll (hard t S n) cs with
        | some l => if k ≠ .ro ∧ (t || !lentAny l) then some (.rptr t l o) else none
        | none => none
      | _ => none
    | .sl b => match S.get b with
      | .cells cs (.loose _ m) => if t || !lentAny cs then some (.row t false cs m) else none
      | _ => none
    | .slice b o len cap => match S.get b with
      | .cells cs (.arr esz) => if t || !lentAny cs then some (.row t (len == cap) ((cs.drop o).take (len * esz)) len) else none
      | .cells cs (.loose esz _) => if t || !lentAny cs then some (.row t (len == cap) ((cs.drop o).take (len * esz)) len) else none
      | .cells cs .own => match hardAll (hard t S n) ((cs.drop o).take (len * (cs.length / cap))) with
        | some l => if (t || !lentAny l) ∧ l.all XV.oneCell = true then some (.row t (len == cap) l len) else none
        | none => none
      | _ => none
    | .part b o len => match S.get b with
      | .cells cs (.arr esz) => if t || !lentAny cs then some (.row t false ((cs.drop o).take (len * esz)) len) else none
      | .cells cs (.loose esz _) => if t || !lentAny cs then some (.row t false ((cs.drop o).take (len * esz)) len) else none
      | _ => none
    | .func f cs => match hardAll (hard t S n) cs with
      | some l => some (.func f l)
      | none => none
    | .iface ty x => match hard t S n x with
      | some y => some (.iface ty y)
      | none => none
    | .agg cs => match hardAll (hard t S n) cs with
      | some l => some (.agg l)
      | none => none
    | .tuple cs => match hardAll (hard t S n) cs with
      | some l => some (.tuple l)
      | none => none
    | .dead => none
    | .nilSlice => some (.row t true [] 0)
    | v => if v.under 0 then some v else none

end
end Go.XM

namespace Go.XM
set_option linter.unusedVariables false
set_option linter.unusedSimpArgs false
noncomputable section

/-- the rune that a text begins with, and its width (as the model decodes) -/
def decL : List UInt8 → Nat × Nat
  | [] => (0, 1)
  | a :: r =>
    let b0 := a.toNat
    let c1 := (r[0]?).getD 0
    let c2 := (r[1]?).getD 0
    let c3 := (r[2]?).getD 0
    let cont (k : Nat) (c : UInt8) : Bool := k < r.length && c.toNat / 64 == 2
    if b0 < 0x80 then (b0, 1)
    else if b0 / 32 == 6 && cont 0 c1 then
      let c := (b0 % 32) * 64 + c1.toNat % 64
      if c ≥ 0x80 then (c, 2) else (0xFFFD, 1)
    else if b0 / 16 == 14 && cont 0 c1 && cont 1 c2 then
      let c := (b0 % 16) * 4096 + (c1.toNat % 64) * 64 + c2.toNat % 64
      if c ≥ 0x800 && Utf8.valid c then (c, 3) else (0xFFFD, 1)
    else if b0 / 8 == 30 && cont 0 c1 && cont 1 c2 && cont 2 c3 then
      let c := (b0 % 8) * 262144 + (c1.toNat % 64) * 4096 + (c2.toNat % 64) * 64 + c3.toNat % 64
      if c ≥ 0x10000 && Utf8.valid c then (c, 4) else (0xFFFD, 1)
    else (0xFFFD, 1)

/-- all runes -/
def runesL : (bound : Nat) → List UInt8 → List Nat
  | 0, _ => []
  | n + 1, s => match s with
    | [] => []
    | _ => (decL s).1 :: runesL n (s.drop (decL s).2)

def encL (r : Int) : List UInt8 := (Utf8.encode r).data.toList

def allBytes : List XV → Option (List UInt8)
  | [] => some []
  | .int .u8 n :: r => match allBytes r with
    | some l => some (UInt8.ofNat n.toNat :: l)
    | none => none
  | _ => none

def xpart (P : Program) (t : TypeId) (cs : List XV) (off : Nat) : Option XV :=
  match tagg P t with
  | some true => match tsize P t with
    | some n => if off + n ≤ cs.length then some (.agg ((cs.drop off).take n)) else none
    | none => none
  | some false => cs[off]?
  | none => none

def xEqFields (P : Program) (rec : TypeId → XV → XV → Option Bool) (xs ys : List XV) : List Field → Option Bool
  | [] => some true
  | f :: r =>
    if f.name ≠ "_" then
      match xpart P f.type xs f.offset, xpart P f.type ys f.offset with
      | some a, some b => match rec f.type a b with
        | some true => xEqFields P rec xs ys r
        | some false => some false
        | none => none
      | _, _ => none
    else xEqFields P rec xs ys r

def xEqIn (P : Program) : (depth : Nat) → TypeId → XV → XV → Option Bool
  | 0, _, _, _ => none
  | d + 1, t, x, y =>
    match P.underlying t, x, y with
    | some .bool, .bool a, .bool b => some (a == b)
    | some (.int _), .int k a, .int k' b => if k = k' then some (a == b) else none
    | some .string, .str a, .str b => some (a == b)
    | some (.pointer _), .nilPtr, .nilPtr => some true
    | some (.pointer _), .nilPtr, .ptr _ _ => some false
    | some (.pointer _), .ptr _ _, .nilPtr => some false
    | some (.pointer _), .nilPtr, .rptr _ _ _ => some false
    | some (.pointer _), .rptr _ _ _, .nilPtr => some false
    | some (.slice _), .nilSlice, .nilSlice => some true
    | some (.slice _), .nilSlice, .slice _ _ _ _ => some false
    | some (.slice _), .slice _ _ _ _, .nilSlice => some false
    | some (.slice _), .nilSlice, .sl _ => some false
    | some (.slice _), .sl _, .nilSlice => some false
    | some (.slice _), .nilSlice, .part _ _ _ => some false
    | some (.slice _), .part _ _ _, .nilSlice => some false
    | some (.interface _), .nilIface, .iface _ _ => some false
    | some (.interface _), .iface _ _, .nilIface => some false
    | some (.interface _), .iface tx vx, .iface ty vy =>
      if tx ≠ ty then some false
      else match P.info? tx with
        | some i => if i.comparable then xEqIn P d tx vx vy else none
        | none => none
    | some (.struct fs), .agg xs, .agg ys =>
      if P.stoodInHeld t || P.eqGuardType P.depth t then none else xEqFields P (xEqIn P d) xs ys fs.toList
    | _, _, _ => none

def bitsX (op : BinOp) (k : IntKind) (x y : Int) : Option XV :=
  let a := BitVec.ofInt k.bits x
  let b := BitVec.ofInt k.bits y
  match op with
  | .and => some (.int k (k.wrap (a &&& b).toNat))
  | .or => some (.int k (k.wrap (a ||| b).toNat))
  | .xor => some (.int k (k.wrap (a ^^^ b).toNat))
  | .andNot => some (.int k (k.wrap (a &&& ~~~b).toNat))
  | _ => none

/-- which is less, as a machine counts -/
def ilt : Int → Int → Bool
  | .ofNat a, .ofNat b => Nat.ble (a + 1) b
  | .negSucc _, .ofNat _ => true
  | .ofNat _, .negSucc _ => false
  | .negSucc a, .negSucc b => Nat.ble (b + 1) a
def ile (a b : Int) : Bool := !(ilt b a)

theorem ilt_eq (a b : Int) : ilt a b = decide (a < b) := by
  have key : ilt a b = true ↔ a < b := by
    cases a <;> cases b <;> simp only [ilt, Nat.ble_eq, Int.ofNat_eq_natCast, Bool.false_eq_true, true_iff, false_iff] <;> (try constructor) <;> (try intro h) <;> omega
  by_cases h : a < b
  · rw [decide_eq_true h]; exact key.2 h
  · rw [decide_eq_false h]
    cases hq : ilt a b with
    | false => rfl
    | true => exact absurd (key.1 hq) h
theorem ile_eq (a b : Int) : ile a b = decide (a ≤ b) := by
  unfold ile
  rw [ilt_eq]
  by_cases h : b < a
  · rw [decide_eq_true h, decide_eq_false (by omega)]; rfl
  · rw [decide_eq_false h, decide_eq_true (by omega)]; rfl

def xbin (P : Program) (op : BinOp) (t : TypeId) (x y : XV) : Option XV :=
  match op, x, y with
  | .shl, .int k a, .int _ b => if b < 0 then none else some (.int k (k.wrap (a * 2 ^ (min b.toNat k.bits))))
  | .shr, .int k a, .int _ b => if b < 0 then none else some (.int k (a.fdiv (2 ^ (min b.toNat k.bits))))
  | _, .int k a, .int k' b =>
    if k ≠ k' then none else
    match op with
    | .add => some (.int k (k.wrap (a + b)))
    | .sub => some (.int k (k.wrap (a - b)))
    | .mul => some (.int k (k.wrap (a * b)))
    | .quo => if b = 0 then none else some (.int k (k.wrap (a.tdiv b)))
    | .rem => if b = 0 then none else some (.int k (a.tmod b))
    | .eql => some (.bool (a == b))
    | .neq => some (.bool (a != b))
    | .lss => some (.bool (ilt a b))
    | .leq => some (.bool (ile a b))
    | .gtr => some (.bool (ilt b a))
    | .geq => some (.bool (ile b a))
    | op => bitsX op k a b
  | .add, .str a, .str b => if a.length + b.length ≤ 9223372036854775807 then some (.str (a ++ b)) else none
  | .eql, .str a, .str b => some (.bool (a == b))
  | .neq, .str a, .str b => some (.bool !(a == b))
  | .lss, .str a, .str b => some (.bool (Op.bytesLess a b))
  | .leq, .str a, .str b => some (.bool (Op.bytesLess a b || a == b))
  | .gtr, .str a, .str b => some (.bool !(Op.bytesLess a b || a == b))
  | .geq, .str a, .str b => some (.bool !(Op.bytesLess a b))
  | .eql, x, y => match xEqIn P 100 t x y with | some b => some (.bool b) | none => none
  | .neq, x, y => match xEqIn P 100 t x y with | some b => some (.bool !b) | none => none
  | _, _, _ => none

def xun (op : UnOp) (x : XV) : Option XV :=
  match op, x with
  | .neg, .int k n => some (.int k (k.wrap (0 - n)))
  | .xor, .int k n => bitsX .xor k (if k.signed then -1 else k.max) n
  | .not, .bool b => some (.bool !b)
  | _, _ => none

def isU8 (P : Program) (e : TypeId) : Bool := match P.underlying e with | some (.int .u8) => true | _ => false
def isI32 (P : Program) (e : TypeId) : Bool := match P.underlying e with | some (.int .i32) => true | _ => false
def isStrT (P : Program) (t : TypeId) : Bool := match P.underlying t with | some .string => true | _ => false
def intT (P : Program) (t : TypeId) : Option IntKind := match P.underlying t with | some (.int k) => some k | _ => none

def looseOf (S : XS) (cs : List XV) (n : Nat) : XV × XS :=
  (.sl S.size, S.push (.cells cs (.loose 1 n)))

/-- the cells of a row of small elements -/
def rowOf (S : XS) : XV → Option (List XV)
  | .nilSlice => some []
  | .slice b o len _ => S.cellsFrom b o len
  | .part b o len => S.cellsFrom b o len
  | .sl b => match S.get b with
    | .cells cs (.loose esz n) => if esz = 1 then some cs else none
    | _ => none
  | .row _ _ cs len => if cs.length = len then some cs else none
  | _ => none

def xconvert (P : Program) (S : XS) (src dst : TypeId) (x : XV) : Option (XV × XS) :=
  if (P.underlying src).isNone then none else
  match x with
  | .int _ n => match intT P dst with
    | some k => some (.int k (k.wrap n), S)
    | none => if isStrT P dst then some (.str (encL n), S) else none
  | .str s =>
    if isStrT P dst then some (.str s, S) else
    match sliceElem P dst with
    | some e =>
      if isU8 P e then some (looseOf S (s.map fun b => .int .u8 b.toNat) s.length)
      else if isI32 P e then
        let l := runesL s.length s
        some (looseOf S (l.map fun r => .int .i32 (Int.ofNat r)) l.length)
      else none
    | none => none
  | x => match sliceElem P src with
    | some e => if isStrT P dst && isU8 P e then
        match rowOf S x with
        | some cs => match allBytes cs with | some l => some (.str l, S) | none => none
        | none => none
      else none
    | none => none

/-- the bounds of a cut: low, high, max -/
def xbound (v : XV) (y : Nat) : Option Nat :=
  match v with
  | .int _ i => if 0 ≤ i ∧ i ≤ y then some i.toNat else none
  | _ => none

def xbounds (len cap : Nat) (low high max : Option XV) : Option (Nat × Nat × Nat) :=
  match (match max with | some v => xbound v cap | none => some cap) with
  | none => none
  | some m =>
    match (match high, max with | some v, _ => xbound v m | none, none => some len | none, some _ => none) with
    | none => none
    | some h =>
      match (match low with | some v => xbound v h | none => some 0) with
      | none => none
      | some l => some (l, h, m)

/-- a cut of a row behind which more room may stand -/
def xslicePart (n b o len : Nat) (low high max : Option XV) : Option XV :=
  match max with
  | none => match xbounds len len low high none with
    | some (l, h, _) => some (.part b (o + l * n) (h - l))
    | none => none
  | some v => match xbounds len len low high (some v) with
    | some (l, h, m) => some (.slice b (if m = l then o else o + l * n) (h - l) (m - l))
    | none => none

def xslice (P : Program) (S : XS) (t : TypeId) (x : XV) (low high max : Option XV) : Option XV :=
  match x with
  | .str s =>
    if isStrT P t && max.isNone then
      match xbounds s.length s.length low high none with
      | some (l, h, _) => some (.str ((s.take h).drop l))
      | none => none
    else none
  | .nilSlice =>
    match sliceElem P t with
    | some e => match tsize P e, xbounds 0 0 low high max with
      | some _, some _ => some .nilSlice
      | _, _ => none
    | none => none
  | .slice b o len cap =>
    match sliceElem P t with
    | some e => match tsize P e with
      | some n =>
        if len ≤ cap then
          match xbounds len cap low high max with
          | some (l, h, m) => some (.slice b (if m = l then o else o + l * n) (h - l) (m - l))
          | none => none
        else none
      | none => none
    | none => none
  | .sl b =>
    match sliceElem P t with
    | some e => match tsize P e with
      | some n =>
        if low.isNone && high.isNone && max.isNone then some (.sl b) else
        match S.get b with
        | .cells _ (.loose _ len) => xslicePart n b 0 len low high max
        | _ => none
      | none => none
    | none => none
  | .part b o len =>
    match sliceElem P t with
    | some e => match tsize P e with
      | some n => xslicePart n b o len low high max
      | none => none
    | none => none
  | .row t' mm cs len =>
    match sliceElem P t with
    | some e => match tsize P e with
      | some n =>
        match xbounds len len low high max with
        | some (l, h, m) => some (.row t' (match max with | some _ => h == m | none => mm && h == len) ((cs.drop (l * n)).take ((h - l) * n)) (h - l))
        | none => none
      | none => none
    | none => none
  | _ => none

def xfieldAddr (P : Program) (t : TypeId) (x : XV) (f : Nat) : Option XV :=
  match P.underlying t, x with
  | some (.struct fs), .ptr b o => match fs[f]? with
    | some fd => match tsize P fd.type with
      | some n => if n = 0 then none else some (.ptr b (o + fd.offset))
      | none => none
    | none => none
  | some (.struct fs), .rptr t cs o => match fs[f]? with
    | some fd => match tsize P fd.type with
      | some n => if n = 0 then none else some (.rptr t cs (o + fd.offset))
      | none => none
    | none => none
  | _, _ => none

def xfield (P : Program) (t : TypeId) (x : XV) (f : Nat) : Option XV :=
  match P.underlying t, x with
  | some (.struct fs), .agg cs => match fs[f]? with
    | some fd => xpart P fd.type cs fd.offset
    | none => none
  | _, _ => none

def xindexAddr (P : Program) (S : XS) (t : TypeId) (x ix : XV) : Option XV :=
  match P.underlying t, x, ix with
  | some (.slice e), x, .int _ i => match tsize P e with
    | some n => match x with
      | .slice b o len _ => if 0 ≤ i ∧ i < len then some (.ptr b (o + i.toNat * n)) else none
      | .part b o len => if 0 ≤ i ∧ i < len then some (.ptr b (o + i.toNat * n)) else none
      | .sl b => match S.get b with
        | .cells _ (.loose _ len) => if 0 ≤ i ∧ i < len then some (.ptr b (i.toNat * n)) else none
        | _ => none
      | .row t cs' cs len => if 0 ≤ i ∧ i < len then some (.rptr t cs (i.toNat * n)) else none
      | _ => none
    | none => none
  | some (.array len e), x, .int _ i => match tsize P e with
    | some n => match x with
      | .ptr b o => if 0 ≤ i ∧ i < len then some (.ptr b (o + i.toNat * n)) else none
      | .rptr t cs o => if 0 ≤ i ∧ i < len then some (.rptr t cs (o + i.toNat * n)) else none
      | _ => none
    | none => none
  | _, _, _ => none

def xindex (P : Program) (t : TypeId) (x ix : XV) : Option XV :=
  match P.underlying t, x, ix with
  | some .string, .str s, .int _ i =>
    if 0 ≤ i then match s[i.toNat]? with
      | some b => some (.int .u8 b.toNat)
      | none => none
    else none
  | some (.array len e), .agg cs, .int _ i => match tsize P e with
    | some n => if 0 ≤ i ∧ i < len then xpart P e cs (i.toNat * n) else none
    | none => none
  | _, _, _ => none

def xnext (base : Nat) (S : XS) (x : XV) : Option (XV × XS) :=
  match x with
  | .ptr b 0 => match S.get b with
    | .iter s pos =>
      if pos < s.length then
        some (.tuple [.bool true, .int .i64 pos, .int .i32 ((decL (s.drop pos)).1 : Nat)],
          (S.put b (.iter s (pos + (decL (s.drop pos)).2))).note base b 0)
      else some (.tuple [.bool false], S)
    | _ => none
  | _ => none

def assertFails (P : Program) (t : TypeId) (ok : Bool) : Option XV :=
  if ok then
    match P.info? t with
    | some i => match i.zero with
      | some z => match XV.ofValue z with
        | some v => some (.tuple [v, .bool false])
        | none => none
      | none => none
    | none => none
  else none

def plainT (P : Program) (t : TypeId) : Bool :=
  match P.underlying t with
  | none => false
  | some (.interface _) => false
  | some _ => true

def xassert (P : Program) (x : XV) (asserted : TypeId) (ok : Bool) : Option XV :=
  if plainT P asserted then
    match x with
    | .nilIface => assertFails P asserted ok
    | .iface t v => if t = asserted then some (if ok then .tuple [v, .bool true] else v) else assertFails P asserted ok
    | _ => none
  else none

def xlen (P : Program) (S : XS) (t : TypeId) (x : XV) : Option XV :=
  match P.underlying t, x with
  | some .string, .str s => some (.int .i64 (s.length : Nat))
  | some (.array n _), _ => some (.int .i64 (n : Nat))
  | some (.slice _), .nilSlice => some (.int .i64 0)
  | some (.slice _), .slice _ _ n _ => some (.int .i64 (n : Nat))
  | some (.slice _), .part _ _ n => some (.int .i64 (n : Nat))
  | some (.slice _), .row _ _ _ n => some (.int .i64 (n : Nat))
  | some (.slice _), .sl b => match S.get b with
    | .cells _ (.loose _ n) => some (.int .i64 (n : Nat))
    | _ => none
  | some (.map _ _), .nilMap => some (.int .i64 0)
  | _, _ => none

def xcap (P : Program) (t : TypeId) (x : XV) : Option XV :=
  match P.underlying t, x with
  | some (.slice _), .nilSlice => some (.int .i64 0)
  | some (.slice _), .slice _ _ _ cap => some (.int .i64 (cap : Nat))
  | some (.slice _), .row _ true _ n => some (.int .i64 (n : Nat))
  | _, _ => none

def foldMin : XV → List XV → Option XV
  | x, [] => some x
  | .int k x, .int _ y :: r => foldMin (.int k (if y < x then y else x)) r
  | _, _ :: _ => none
def foldMax : XV → List XV → Option XV
  | x, [] => some x
  | .int k x, .int _ y :: r => foldMax (.int k (if y > x then y else x)) r
  | _, _ :: _ => none

/-- is the second argument a number (so many zeros are appended)? -/
def zerosT (P : Program) : Option TypeId → Option Bool
  | none => some false
  | some t => match P.underlying t with
    | some (.int _) => some true
    | some (.slice _) => some false
    | some .string => some false
    | _ => none

/-- the cells that are appended, and how many elements they are -/
def xappended (P : Program) (S : XS) (e : TypeId) (zeros : Bool) (x : XV) : Option (List XV × Nat) :=
  match tsize P e with
  | none => none
  | some size =>
    if zeros then
      match x with
      | .int _ l => match zeroCells P e, P.info? e with
        | some z, some i => if 0 < l ∧ l ≤ 1099511627776 ∧ l * i.bytes ≤ 35184372088832 ∧ z.length = size ∧ 0 < size ∧ z.all (XV.fits (.arr 1)) then some (repeatL z l.toNat, l.toNat) else none
        | _, _ => none
      | _ => none
    else
      match x with
      | .nilSlice => some ([], 0)
      | .slice b o n _ => match S.get b, S.cellsFrom b o (n * size) with
        | .cells _ k, some cs => if okCells k cs then some (cs, n) else none
        | _, _ => none
      | .part b o n => match S.get b, S.cellsFrom b o (n * size) with
        | .cells _ k, some cs => if okCells k cs then some (cs, n) else none
        | _, _ => none
      | .sl b => match S.get b with
        | .cells cs (.loose esz n) => if esz = size ∧ cs.all XV.live then some (cs, n) else none
        | _ => none
      | .row _ _ cs n => if cs.length = n * size ∧ cs.all XV.live then some (cs, n) else none
      | .str s => if size = 1 then some (s.map fun b => .int .u8 b.toNat, s.length) else none
      | _ => none

def isNilSlice : XV → Bool
  | .nilSlice => true
  | _ => false

def xbuiltin (P : Program) (base : Nat) (S : XS) (b : Builtin) (ts : List TypeId) (xs : List XV) : Option (XV × XS) :=
  match b, ts, xs with
  | .append, t :: t2, [s, x] => match sliceElem P t with
    | some e => match zerosT P t2.head? with
      | some z => match xappended P S e z x with
        | some (new, n) => if z && !isNilSlice s then none else xappend P base S t s new n
        | none => none
      | none => none
    | none => none
  | .len, t :: _, x :: _ => match xlen P S t x with | some v => some (v, S) | none => none
  | .cap, t :: _, x :: _ => match xcap P t x with | some v => some (v, S) | none => none
  | .min, _, x :: r => match foldMin x r with | some v => some (v, S) | none => none
  | .max, _, x :: r => match foldMax x r with | some v => some (v, S) | none => none
  | _, _, _ => none

def xmakeSlice (P : Program) (S : XS) (t : TypeId) (len cap : XV) : Option (XV × XS) :=
  match sliceElem P t, len, cap with
  | some e, .int _ l, .int _ c => match P.info? e with
    | some i => match zeroCells P e with
      | some z =>
        if 0 ≤ l ∧ l ≤ c ∧ c * i.bytes ≤ 35184372088832 ∧ 0 < i.bytes ∧ z.length = i.size ∧ 0 < i.size then
          some (.slice S.size 0 l.toNat c.toNat, S.push (.cells (repeatL z c.toNat) (if z.all (XV.fits (.arr i.size)) then .arr i.size else .own)))
        else none
      | none => none
    | none => none
  | _, _, _ => none

/-- an operand that may be left out -/
def evalOpt (T : Tmps) : Option Operand → Option (Option XV)
  | none => some none
  | some x => match evalX T x with
    | some v => some (some v)
    | none => none

/-- every operation but a call of a function -/
def xop (P : Program) (base : Nat) (o : Oper) (T : Tmps) (S : XS) : Option (XV × XS) :=
  match o.op with
  | .move x | .assign x => (evalX T x).map fun v => (v, S)
  | .pick c a b => match evalX T c with
    | some (.bool true) => (evalX T a).map fun v => (v, S)
    | some (.bool false) => (evalX T b).map fun v => (v, S)
    | _ => none
  | .alloc t => match zeroCells P t, tsize P t with
    | some z, some n => if z.length = n then some (.ptr S.size 0, S.push (.cells z .own)) else none
    | _, _ => none
  | .box t x => match evalX T x with
    | some v => if tsize P t = some v.cells.length then some (.ptr S.size 0, S.push (.cells v.cells .own)) else none
    | none => none
  | .build t ps => match evalParts T ps.toList with
    | some l => (xbuild P t l).map fun v => (v, S)
    | none => none
  | .buildSlice t n ps => match evalParts T ps.toList with
    | some l => xbuildSlice P S t n l
    | none => none
  | .load t a => match evalX T a with
    | some p => (xload P S t p).map fun v => (v, S)
    | none => none
  | .store t a x => match evalX T a, evalX T x with
    | some p, some v => (xstore P base S t p v).map fun S' => (.tuple [], S')
    | _, _ => none
  | .nilCheck x => match evalX T x with
    | some (.ptr b o) => some (.ptr b o, S)
    | some (.rptr t cs o) => some (.rptr t cs o, S)
    | some (.func f c) => some (.func f c, S)
    | _ => none
  | .binOp op t x y _ => match evalX T x, evalX T y with
    | some a, some b => (xbin P op t a b).map fun v => (v, S)
    | _, _ => none
  | .unOp op _ x => match evalX T x with
    | some a => (xun op a).map fun v => (v, S)
    | none => none
  | .convert src dst x => match evalX T x with
    | some a => xconvert P S src dst a
    | none => none
  | .makeInterface t x => match evalX T x with
    | some v => match P.underlying t with
      | some (.interface _) => none
      | some _ => some (.iface t v, S)
      | none => none
    | none => none
  | .makeFunc (.func f) first caps => if first.toList.isEmpty then (evalAll T caps.toList).map fun l => (.func f l, S) else none
  | .makeSlice t l c => match evalX T l, evalX T c with
    | some a, some b => xmakeSlice P S t a b
    | _, _ => none
  | .slice t x lo hi mx => match evalX T x, evalOpt T lo, evalOpt T hi, evalOpt T mx with
    | some v, some a, some b, some c => (xslice P S t v a b c).map fun v => (v, S)
    | _, _, _, _ => none
  | .fieldAddr t x f => match evalX T x with
    | some v => (xfieldAddr P t v f).map fun v => (v, S)
    | none => none
  | .field t x f => match evalX T x with
    | some v => (xfield P t v f).map fun v => (v, S)
    | none => none
  | .indexAddr t x i => match evalX T x, evalX T i with
    | some v, some j => (xindexAddr P S t v j).map fun v => (v, S)
    | _, _ => none
  | .index t x i => match evalX T x, evalX T i with
    | some v, some j => (xindex P t v j).map fun v => (v, S)
    | _, _ => none
  | .range t x => match evalX T x with
    | some (.str s) => if isStrT P t then some (.ptr S.size 0, S.push (.iter s 0)) else none
    | _ => none
  | .next x isString => if isString then match evalX T x with
      | some v => xnext base S v
      | none => none
    else none
  | .typeAssert x _ t ok => match evalX T x with
    | some v => (xassert P v t ok).map fun v => (v, S)
    | none => none
  | .extract x i => match evalX T x with
    | some (.tuple vs) => (vs[i]?).map fun v => (v, S)
    | _ => none
  | .call c => match c.callee with
    | .builtin b => match evalAll T c.args.toList with
      | some xs => xbuiltin P base S b c.argTypes.toList xs
      | none => none
    | _ => none
  | _ => none

end
end Go.XM

namespace Go.XM
set_option linter.unusedVariables false
set_option linter.unusedSimpArgs false
noncomputable section

inductive XExit where
  | normal | exit (id : Nat) | ret
  deriving DecidableEq

abbrev XCallFn := FuncId → List XV → Nat → XS → Option (XV × XS)

/-- one operation, calls too -/
def xstep (P : Program) (call : XCallFn) (base : Nat) (o : Oper) (T : Tmps) (S : XS) : Option (XV × XS) :=
  match o.op with
  | .call c => match c.callee with
    | .value f => match evalX T f, evalAll T c.args.toList with
      | some (.func g caps), some xs => call g (xs ++ caps) base S
      | _, _ => none
    | _ => xop P base o T S
  | _ => xop P base o T S

/-- is an operation wanted? none: its guard's temporary was given up -/
def wantedX (ops : List Oper) (T : Tmps) (o : Oper) : Option Bool :=
  match o.guard with
  | none => some true
  | some (j, want) => match (ops[j]?).bind (·.dst) with
    | some d => match tget T d with
      | .bool b => some (b == want)
      | .dead => none
      | _ => some false
    | none => some false

def putX (T : Tmps) (dst : Option Tmp) (v : XV) : Tmps :=
  match dst with
  | some d => tset T d v
  | none => T

/-- a region in the order of its text -/
def xops (P : Program) (call : XCallFn) (base : Nat) (ops : List Oper) : List Oper → Tmps → XS → Option (Tmps × XS)
  | [], T, S => some (T, S)
  | o :: rest, T, S =>
    match wantedX ops T o with
    | some true => (match xstep P call base o T S with
      | some (v, S') => xops P call base ops rest (putX T o.dst v) S'
      | none => none)
    | some false => xops P call base ops rest (putX T o.dst (.tuple [])) S
    | none => none

/-- the operations that surely come ahead of each one -/
def directs (o : Oper) : List Nat := (o.after.toList.filter (Region.binds .any)).map (·.on)
def predsFrom (acc : List (List Nat)) : List Oper → List (List Nat)
  | [] => acc
  | o :: r => predsFrom (acc ++ [((directs o).flatMap fun j => j :: acc.getD j [])]) r
def predsOf (ops : List Oper) : List (List Nat) := predsFrom [] ops

def ordered (pr : List (List Nat)) (i j : Nat) : Bool := (pr.getD i []).contains j || (pr.getD j []).contains i

/-- what operations of open order against i have written -/
def openW (pr : List (List Nat)) (Wd : List (List (Nat × Nat))) (i : Nat) : List (Nat × Nat) :=
  ((List.range Wd.length).filter fun j => j != i && !ordered pr i j).flatMap fun j => Wd.getD j []

def XS.poison1 (S : XS) (p : Nat × Nat) : XS :=
  match S.get p.1 with
  | .cells cs k => S.put p.1 (.cells (cs.set p.2 .dead) k)
  | .iter _ _ => S.put p.1 (.cells [] .own)
  | .gone => S
def XS.poison (S : XS) (ps : List (Nat × Nat)) : XS := ps.foldl XS.poison1 S

def XS.restore1 (S0 : XS) (S : XS) (p : Nat × Nat) : XS :=
  match S0.get p.1 with
  | .cells cs _ => match S.get p.1 with
    | .cells cs' k => S.put p.1 (.cells (cs'.set p.2 (cs.getD p.2 .dead)) k)
    | _ => S
  | .iter s n => match S.get p.1 with
    | .gone => S
    | _ => S.put p.1 (.iter s n)
  | .gone => S
def XS.restore (S0 S : XS) (ps : List (Nat × Nat)) : XS := ps.foldl (XS.restore1 S0) S

/-- a region of open order: each operation is carried out where all that may be written ahead of it, or behind it, is dead -/
def xopsW (P : Program) (call : XCallFn) (ops : List Oper) (pr : List (List Nat)) (Wd : List (List (Nat × Nat))) :
    Nat → List Oper → Tmps → XS → Option (Tmps × XS × List (List (Nat × Nat)))
  | _, [], T, S => some (T, S, [])
  | i, o :: rest, T, S =>
    match wantedX ops T o with
    | some true =>
      let ps := openW pr Wd i
      (match xstep P call S.size o T { S.poison ps with log := [] } with
      | some (v, S') =>
        (if S'.log.all (fun p => (Wd.getD i []).contains p && !ps.contains p) then
          (match xopsW P call ops pr Wd (i + 1) rest (putX T o.dst v) { XS.restore S S' ps with log := S.log } with
          | some (T2, S2, ws) => some (T2, S2, S'.log :: ws)
          | none => none)
        else none)
      | none => none)
    | some false =>
      (match xopsW P call ops pr Wd (i + 1) rest (putX T o.dst (.tuple [])) S with
      | some (T2, S2, ws) => some (T2, S2, [] :: ws)
      | none => none)
    | none => none

/-- a first look: who writes what, in the order of the text -/
def xlook (P : Program) (call : XCallFn) (ops : List Oper) : List Oper → Tmps → XS → Option (Tmps × XS × List (List (Nat × Nat)))
  | [], T, S => some (T, S, [])
  | o :: rest, T, S =>
    match wantedX ops T o with
    | some true => (match xstep P call S.size o T { S with log := [] } with
      | some (v, S') => match xlook P call ops rest (putX T o.dst v) S' with
        | some (T2, S2, ws) => some (T2, S2, S'.log :: ws)
        | none => none
      | none => none)
    | some false => (match xlook P call ops rest (putX T o.dst (.tuple [])) S with
      | some (T2, S2, ws) => some (T2, S2, [] :: ws)
      | none => none)
    | none => none

/-- where nothing that was is written, the first look is all; else once more, with an eye on who meets whom -/
def xdraw (P : Program) (call : XCallFn) (base : Nat) (ops : List Oper) (T : Tmps) (S : XS) : Option (Tmps × XS) :=
  match xlook P call ops ops T S with
  | none => none
  | some (T1, S1, Wd) =>
    if Wd.all List.isEmpty then some (T1, { S1 with log := S.log })
    else match xopsW P call ops (predsOf ops) Wd 0 ops T S with
    | some (T', S', ws) => some (T', { S' with log := (ws.flatten.filter fun p => p.1 < base) ++ S.log })
    | none => none

theorem openW_nil (pr : List (List Nat)) (Wd : List (List (Nat × Nat))) (h : Wd.all List.isEmpty = true) (i : Nat) : openW pr Wd i = [] := by
  have hd : ∀ j, Wd.getD j [] = [] := fun j => by
    rw [List.getD_eq_getElem?_getD]
    cases hq : Wd[j]? with
    | none => rfl
    | some W =>
      have := List.all_eq_true.1 h W (List.mem_of_getElem? hq)
      simpa using this
  unfold openW
  rw [List.flatMap_eq_nil_iff]
  intro j _
  exact hd j

theorem look_quiet {P : Program} {call : XCallFn} {ops : List Oper} {pr : List (List Nat)} {Wd : List (List (Nat × Nat))} (hW : Wd.all List.isEmpty = true) :
    ∀ (l : List Oper) (i : Nat) (T : Tmps) (S Sx : XS) (T2 : Tmps) (S2 : XS) (ws : List (List (Nat × Nat))), S.heap = Sx.heap → S.size = Sx.size → xlook P call ops l T S = some (T2, S2, ws) → ws.all List.isEmpty = true →
      xopsW P call ops pr Wd i l T Sx = some (T2, { S2 with log := Sx.log }, ws)
  | [], i, T, S, Sx, T2, S2, ws, h1, h2, hx, ha => by
    simp only [xlook, Option.some.injEq, Prod.mk.injEq] at hx
    obtain ⟨rfl, rfl, rfl⟩ := hx
    simp only [xopsW]
    cases S; cases Sx; simp_all
  | o :: l, i, T, S, Sx, T2, S2, ws, h1, h2, hx, ha => by
    simp only [xlook] at hx
    simp only [xopsW]
    rw [openW_nil pr Wd hW i]
    have hp : ({ Sx.poison [] with log := [] } : XS) = { S with log := [] } := by
      show ({ Sx with log := [] } : XS) = _
      rw [h1, h2]
    split at hx
    · rename_i hw
      rw [hp, ← h2]
      split at hx
      case h_2 => cases hx
      case h_1 v S' hs =>
      split at hx
      case h_2 => cases hx
      case h_1 T3 S3 ws' hr =>
      simp only [Option.some.injEq, Prod.mk.injEq] at hx
      obtain ⟨rfl, rfl, rfl⟩ := hx
      simp only [List.all_cons, Bool.and_eq_true] at ha
      have hl : S'.log = [] := by simpa using ha.1
      simp only [hl, List.all_nil, if_true]
      have := look_quiet (pr := pr) hW l (i + 1) _ S' { S' with log := Sx.log } _ _ _ rfl rfl hr ha.2
      have he : ({ XS.restore Sx S' [] with log := Sx.log } : XS) = { S' with log := Sx.log } := rfl
      rw [he, this]
    · rename_i hw
      split at hx
      case h_2 => cases hx
      case h_1 T3 S3 ws' hr =>
      simp only [Option.some.injEq, Prod.mk.injEq] at hx
      obtain ⟨rfl, rfl, rfl⟩ := hx
      simp only [List.all_cons, Bool.and_eq_true] at ha
      rw [look_quiet (pr := pr) hW l (i + 1) _ S Sx _ _ _ h1 h2 hr ha.2]
    · cases hx

theorem xdraw_eq {P : Program} {call : XCallFn} {base : Nat} {ops : List Oper} {T : Tmps} {S : XS} {T' : Tmps} {S' : XS} (h : xdraw P call base ops T S = some (T', S')) :
    ∃ Wd S1 ws, xopsW P call ops (predsOf ops) Wd 0 ops T S = some (T', S1, ws) ∧ S' = { S1 with log := (ws.flatten.filter fun p => p.1 < base) ++ S.log } := by
  unfold xdraw at h
  split at h
  · cases h
  rename_i T1 S1 Wd hl
  split at h
  · rename_i hq
    simp only [Option.some.injEq, Prod.mk.injEq] at h
    obtain ⟨rfl, rfl⟩ := h
    refine ⟨Wd, _, Wd, look_quiet hq ops 0 T S S _ _ _ rfl rfl hl hq, ?_⟩
    have : Wd.flatten = [] := by
      rw [List.flatten_eq_nil_iff]
      intro W hm
      simpa using List.all_eq_true.1 hq W hm
    rw [this]
    rfl
  · split at h
    case h_2 => cases h
    case h_1 T2 S2 ws hw =>
    simp only [Option.some.injEq, Prod.mk.injEq] at h
    obtain ⟨rfl, rfl⟩ := h
    exact ⟨Wd, _, ws, hw, rfl⟩

/-! ### a loop's head: what is not looked at any more is dropped -/
mutual
def XV.addrs : XV → List Nat
  | .ptr b _ => [b]
  | .slice b _ _ _ => [b]
  | .sl b => [b]
  | .part b _ _ => [b]
  | .func _ cs => addrsAll cs
  | .iface _ v => v.addrs
  | .agg cs => addrsAll cs
  | .tuple cs => addrsAll cs
  | _ => []
def addrsAll : List XV → List Nat
  | [] => []
  | v :: r => v.addrs ++ addrsAll r
end

def idxOf (b : Nat) : List Nat → Option Nat
  | [] => none
  | x :: r => if x == b then some 0 else match idxOf b r with
    | some i => some (i + 1)
    | none => none

def ren (keep : List Nat) : Nat → XV → Option XV
  | 0, _ => none
  | n + 1, v =>
    match v with
    | .ptr b o => match idxOf b keep with | some i => some (.ptr i o) | none => none
    | .slice b o len cap => match idxOf b keep with | some i => some (.slice i o len cap) | none => none
    | .sl b => match idxOf b keep with | some i => some (.sl i) | none => none
    | .part b o len => match idxOf b keep with | some i => some (.part i o len) | none => none
    | .func f cs => match hardAll (ren keep n) cs with | some l => some (.func f l) | none => none
    | .iface t x => match ren keep n x with | some y => some (.iface t y) | none => none
    | .agg cs => match hardAll (ren keep n) cs with | some l => some (.agg l) | none => none
    | .tuple cs => match hardAll (ren keep n) cs with | some l => some (.tuple l) | none => none
    | v => if v.under 0 then some v else none

def blkAddrs : XBlk → List Nat
  | .cells cs k => if k.flat then [] else addrsAll cs
  | _ => []

def growKeep (S : XS) : Nat → List Nat → List Nat → List Nat
  | 0, _, keep => keep
  | _ + 1, [], keep => keep
  | n + 1, b :: todo, keep => if keep.contains b then growKeep S n todo keep else growKeep S n (blkAddrs (S.get b) ++ todo) (keep ++ [b])

def nodupN : List Nat → Bool
  | [] => true
  | x :: r => !r.contains x && nodupN r

def renBlk (keep : List Nat) : XBlk → Option XBlk
  | .cells cs k => if k.flat then some (.cells cs k) else match hardAll (ren keep 20) cs with
    | some l => some (.cells l k)
    | none => none
  | .iter s p => some (.iter s p)
  | .gone => none

def pruneB (keep : List Nat) (S : XS) : List Nat → Option (List XBlk)
  | [] => some []
  | b :: r => match renBlk keep (S.get b), pruneB keep S r with
    | some x, some l => some (x :: l)
    | _, _ => none

def pruneT (keep : List Nat) (T : Tmps) : List Nat → Tmps → Option Tmps
  | [], A => some A
  | t :: ts, A => if (tget T t).live then match ren keep 20 (tget T t) with
      | some v => pruneT keep T ts (tset A t v)
      | none => none
    else pruneT keep T ts A

def deadT (rows : Nat) : Tmps := List.replicate rows (List.replicate 8 .dead)

def prune (rows : Nat) (ts : List Nat) (T : Tmps) (S : XS) : Option (Tmps × XS) :=
  let keep := growKeep S 200 (ts.flatMap fun t => (tget T t).addrs) []
  if nodupN keep then
    match pruneT keep T ts (deadT rows), pruneB keep S keep with
    | some T', some l => some (T', { heap := l.reverse, size := keep.length, log := S.log })
    | _, _ => none
  else none

def headId : Code → Nat
  | .region id _ _ => id
  | .seq a _ => headId a
  | .block _ c => headId c
  | .loop c => headId c
  | _ => 0

/-- which temporaries stay at a loop's head and at its end (rows of eight, temporaries); none: all -/
abbrev Lives := Nat → Option (Nat × List Nat)
def goneB : XBlk → Bool
  | .gone => true
  | _ => false
/-- those that do not point to what is gone -/
def freshT (S : XS) (T : Tmps) (ts : List Nat) : List Nat := ts.filter fun t => (tget T t).addrs.all fun b => !goneB (S.get b)
def headPr (lv : Lives) (base : Nat) (c : Code) (T : Tmps) (S : XS) : Option (Tmps × XS) :=
  match lv (headId c) with
  | some (rows, ts) => if base = 0 then prune rows (freshT S T ts) T S else some (T, S)
  | none => some (T, S)

def xloop (pr : Tmps → XS → Option (Tmps × XS)) (body : Tmps → XS → Option (XExit × Tmps × XS)) : Nat → Tmps → XS → Option (XExit × Tmps × XS)
  | 0, _, _ => none
  | n + 1, T, S => match pr T S with
    | none => none
    | some (T0, S0) => match body T0 S0 with
      | none => none
      | some (.normal, T', S') => xloop pr body n T' S'
      | some (e, T', S') => match pr T' S' with
        | some (T2, S2) => some (e, T2, S2)
        | none => none

def xcode (P : Program) (call : XCallFn) (lv : Lives) (fuel base : Nat) : Code → Tmps → XS → Option (XExit × Tmps × XS)
  | .skip, T, S => some (.normal, T, S)
  | .region _ ops draw, T, S =>
    match (if draw then xdraw P call base ops.toList T S else xops P call base ops.toList ops.toList T S) with
    | some (T', S') => some (.normal, T', S')
    | none => none
  | .seq a b, T, S => match xcode P call lv fuel base a T S with
    | some (.normal, T', S') => xcode P call lv fuel base b T' S'
    | r => r
  | .cond c a b, T, S => match evalX T c with
    | some (.bool true) => xcode P call lv fuel base a T S
    | some (.bool false) => xcode P call lv fuel base b T S
    | _ => none
  | .block id c, T, S => match xcode P call lv fuel base c T S with
    | some (.exit id', T', S') => if id' = id then some (.normal, T', S') else some (.exit id', T', S')
    | r => r
  | .loop c, T, S => xloop (headPr lv base c) (xcode P call lv fuel base c) fuel T S
  | .exit id, T, S => some (.exit id, T, S)
  | .ret, T, S => some (.ret, T, S)
  | _, _, _ => none

def xresult (P : Program) (T : Tmps) (S : XS) : ResultVar → Option XV
  | .tmp t => evalX T (.tmp t)
  | .cell a t => match evalX T (.tmp a) with
    | some p => xload P S t p
    | none => none
def xresults (P : Program) (T : Tmps) (S : XS) : List ResultVar → Option (List XV)
  | [] => some []
  | r :: rs => match xresult P T S r, xresults P T S rs with
    | some v, some l => some (v :: l)
    | _, _ => none
def oneOr : List XV → XV
  | [v] => v
  | l => .tuple l

/-- functions that are answered by a contract; what stays at the heads of a function's loops -/
structure XPrim where
  fn : FuncId → Option (List XV → Option XV)
  live : FuncId → Nat → Option (List Nat)
instance : CoeFun XPrim (fun _ => FuncId → Option (List XV → Option XV)) := ⟨XPrim.fn⟩

def livesOf (fn : Func) (l : Nat → Option (List Nat)) : Lives := fun id => match l id with
  | some ts => some (fn.ntmps / 8 + 1, ts)
  | none => none

/-! ### a call whose answer is read out, and what it made is dropped -/
def tidy1 (n : Nat) (x y : XBlk) : Bool :=
  match x with
  | .gone => true
  | _ => match y with
    | .gone => false
    | .cells cs k => k.flat || underAll n cs
    | .iter _ _ => true
/-- nothing that was is gone, and nothing that was points to what is new -/
def tidy (S S1 : XS) : Bool := (List.range S.size).all fun b => tidy1 S.size (S.get b) (S1.get b)
/-- what is new alone -/
def freshS (S S1 : XS) : XS := { heap := S1.heap.take (S1.size - S.size) ++ List.replicate S.size .gone, size := S1.size, log := [] }
/-- what was, alone -/
def elderS (S S1 : XS) : XS := { heap := S1.heap.drop (S1.size - S.size), size := S.size, log := S1.log }
def xcool (base : Nat) (S S1 : XS) (v : XV) : Option (XV × XS) :=
  if tidy S S1 then match hard false (freshS S S1) 50 v with
    | some y => some (y, { elderS S S1 with log := (S1.log.filter fun p => p.1 < base) ++ S.log })
    | none => none
  else none
/-- is a function's answer read out? (told beside the heads of its loops) -/
def coolB (l : Nat → Option (List Nat)) : Bool := (l 1000000).isSome

/-- a call: what it leaves behind that nobody can reach is dropped -/
def xcall (P : Program) (prim : XPrim) : Nat → XCallFn
  | 0, _, _, _, _ => none
  | n + 1, f, args, base, S =>
    match P.funcs[f]? with
    | none => none
    | some fn => match fn.body with
      | none => none
      | some c =>
        if fn.name == "runtime.NumGoroutine" then none else
        if fn.ntmps < args.length then none else
        match prim f with
        | some g =>
          (if underAll 0 args then match g args with
            | some v => some (v, S)
            | none => none
          else match hardAll (hard true S 50) args with
            | some as => (match g as with
              | some v => if v.lent then none else some (v, S)
              | none => none)
            | none => none)
        | none =>
        match xcode P (xcall P prim n) (livesOf fn (prim.live f)) n S.size c (argsT 0 args []) { S with log := [] } with
        | some (e, T, S1) =>
          if e = .normal ∨ e = .ret then
            (match xresults P T S1 fn.results.toList with
            | some l =>
              if coolB (prim.live f) then xcool base S S1 (oneOr l) else
              if S1.log.isEmpty && (oneOr l).under S.size then some (oneOr l, S)
              else some (oneOr l, { S1 with log := (S1.log.filter fun p => p.1 < base) ++ S.log })
            | none => none)
          else none
        | none => none

def XS.none : XS := { heap := [], size := 0, log := [] }
def noPrim : XPrim := ⟨fun _ => .none, fun _ _ => .none⟩

end
end Go.XM
