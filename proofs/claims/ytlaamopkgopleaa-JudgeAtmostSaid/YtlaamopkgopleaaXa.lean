/- A plain machine beside the model, and that what it tells the model does: part Xa. Conditions: those of each theorem below. -/
import GoSem.Dispatch
import GoSem.Core.Layout
import Derived.Calls
namespace Go.XM
set_option linter.unusedVariables false
set_option linter.unusedSimpArgs false
noncomputable section

/-- A value of the plain machine: addresses are numbers of its own blocks. -/
inductive XV where
  | bool (b : Bool)
  | int (k : IntKind) (n : Int)
  | str (s : List UInt8)
  | nilPtr
  | ptr (b o : Nat)
  | nilSlice
  | slice (b o len cap : Nat)
  | sl (b : Nat)
  | part (b o len : Nat)
  | row (t m : Bool) (cs : List XV) (len : Nat)
  | rptr (t : Bool) (cs : List XV) (o : Nat)
  | nilMap
  | func (f : FuncId) (captured : List XV)
  | nilFunc
  | iface (t : TypeId) (v : XV)
  | nilIface
  | agg (cells : List XV)
  | tuple (vs : List XV)
  | dead
  deriving Inhabited

/-- ro: what came in; own: of a size that is known; arr: so, and plain cells alone; loose: a row of n elements that an append made: more room may stand behind it; plain cells alone. -/
inductive XKind where
  | ro | own | arr (esz : Nat) | loose (esz n : Nat)
  deriving DecidableEq, Inhabited

def XKind.flat : XKind → Bool
  | .arr _ => true
  | .loose _ _ => true
  | _ => false

/-- how many cells the log has of a block -/
def XKind.room (k : XKind) (cs : List XV) : Nat :=
  match k with
  | .loose _ _ => cs.length + 1
  | _ => cs.length

inductive XBlk where
  | cells (cs : List XV) (k : XKind)
  | iter (s : List UInt8) (pos : Nat)
  | gone
  deriving Inhabited

/-- The heap, newest block first; log: cells of elder blocks that were written. -/
structure XS where
  heap : List XBlk
  size : Nat
  log : List (Nat × Nat)

def XS.get (S : XS) (b : Nat) : XBlk := if b < S.size then (S.heap[S.size - 1 - b]?).getD .gone else .gone
def XS.put (S : XS) (b : Nat) (x : XBlk) : XS := if b < S.size then { S with heap := S.heap.set (S.size - 1 - b) x } else S
def XS.push (S : XS) (x : XBlk) : XS := { S with heap := x :: S.heap, size := S.size + 1 }
def XS.note (S : XS) (base b o : Nat) : XS := if b < base then { S with log := (b, o) :: S.log } else S

def XV.live : XV → Bool
  | .dead => false
  | _ => true

def XV.oneCell : XV → Bool
  | .agg _ | .tuple _ | .dead => false
  | _ => true

def XV.cells : XV → List XV
  | .agg cs => cs
  | v => [v]

mutual
/-- no address at or beyond n -/
def XV.under (n : Nat) : XV → Bool
  | .ptr b _ => b < n
  | .slice b _ _ _ => b < n
  | .sl b => b < n
  | .part b _ _ => b < n
  | .func _ cs => underAll n cs
  | .iface _ v => v.under n
  | .agg cs => underAll n cs
  | .tuple cs => underAll n cs
  | _ => true
def underAll (n : Nat) : List XV → Bool
  | [] => true
  | v :: r => v.under n && underAll n r
end

/-- what may stand in a row -/
def XV.fits (k : XKind) (v : XV) : Bool := v.oneCell && (!k.flat || v.under 0)
def okCells (k : XKind) (l : List XV) : Bool := k.flat || l.all fun v => v.oneCell && v.under 0

/-- cell o of a row, if it is there and not dead -/
def cellAt (cs : List XV) (o : Nat) : Option XV :=
  match cs[o]? with
  | some v => if v.live then some v else none
  | none => none

def XS.cell (S : XS) (b o : Nat) : Option XV :=
  match S.get b with
  | .cells cs _ => cellAt cs o
  | _ => none

def XS.cellsFrom (S : XS) (b : Nat) : (o n : Nat) → Option (List XV)
  | _, 0 => some []
  | o, n + 1 => match S.cell b o with
    | some v => match S.cellsFrom b (o + 1) n with
      | some r => some (v :: r)
      | none => none
    | none => none

/-- store one cell -/
def XS.store1 (S : XS) (base b o : Nat) (v : XV) : Option XS :=
  match S.get b with
  | .cells cs k =>
    if k = .ro then none else
    match cellAt cs o with
    | some _ => if v.fits k then some ((S.put b (.cells (cs.set o v) k)).note base b o) else none
    | none => none
  | _ => none

def XS.storeN (S : XS) (base b : Nat) : (o : Nat) → List XV → Option XS
  | _, [] => some S
  | o, v :: r => match S.store1 base b o v with
    | some S' => S'.storeN base b (o + 1) r
    | none => none

def tsize (P : Program) (t : TypeId) : Option Nat := match P.info? t with | some i => some i.size | none => none
def tagg (P : Program) (t : TypeId) : Option Bool :=
  match P.underlying t with
  | some (.struct _) => some true
  | some (.array _ _) => some true
  | some _ => some false
  | none => none

def XV.ofCell : Value → Option XV
  | .bool b => some (.bool b)
  | .int k n => some (.int k n)
  | .string s => some (.str s.data.toList)
  | .pointer none => some .nilPtr
  | .slice none 0 0 => some .nilSlice
  | .map none => some .nilMap
  | .nilFunc => some .nilFunc
  | .nilIface => some .nilIface
  | _ => none

def ofCells : List Value → Option (List XV)
  | [] => some []
  | v :: r => match XV.ofCell v, ofCells r with
    | some a, some b => some (a :: b)
    | _, _ => none

def XV.ofValue : Value → Option XV
  | .agg cs => match ofCells cs.toList with | some l => some (.agg l) | none => none
  | .tuple vs => if vs.toList.isEmpty then some (.tuple []) else none
  | v => XV.ofCell v

def zeroCells (P : Program) (t : TypeId) : Option (List XV) :=
  match P.info? t with
  | some i => match i.zero with
    | some z => match XV.ofValue z with
      | some v => some v.cells
      | none => none
    | none => none
  | none => none

/-- what stands at a place, written so that the kernel is quick -/
def nthX {α : Type} (d : α) (l : List α) (n : Nat) : α :=
  List.rec (motive := fun _ => Nat → α) (fun _ => d) (fun x _ ih n => Nat.rec (motive := fun _ => α) x (fun m _ => ih m) n) l n
def setNilX {α : Type} (d v : α) (n : Nat) : List α := Nat.rec (motive := fun _ => List α) [v] (fun _ ih => d :: ih) n
def setX {α : Type} (d : α) (l : List α) (n : Nat) (v : α) : List α :=
  List.rec (motive := fun _ => Nat → List α) (fun n => setNilX d v n) (fun x r ih n => Nat.rec (motive := fun _ => List α) (v :: r) (fun m _ => x :: ih m) n) l n

theorem nthX_nil {α : Type} (d : α) (n : Nat) : nthX d [] n = d := rfl
theorem nthX_zero {α : Type} (d x : α) (r : List α) : nthX d (x :: r) 0 = x := rfl
theorem nthX_succ {α : Type} (d x : α) (r : List α) (n : Nat) : nthX d (x :: r) (n + 1) = nthX d r n := rfl
theorem nthX_setX {α : Type} (d : α) (l : List α) (n : Nat) (v : α) : ∀ t, nthX d (setX d l n v) t = if t = n then v else nthX d l t := by
  induction l generalizing n with
  | nil =>
    induction n with
    | zero => intro t; cases t with
      | zero => rfl
      | succ t => rfl
    | succ n ih => intro t; cases t with
      | zero => rw [if_neg (by omega)]; rfl
      | succ t =>
        have : nthX d (setX d [] (n + 1) v) (t + 1) = nthX d (setX d [] n v) t := rfl
        rw [this, ih]
        by_cases h : t = n
        · rw [if_pos h, if_pos (by omega)]
        · rw [if_neg h, if_neg (by omega)]; rfl
  | cons x r ih =>
    intro t
    cases n with
    | zero => cases t with
      | zero => rfl
      | succ t => rfl
    | succ n => cases t with
      | zero => rw [if_neg (by omega)]; rfl
      | succ t =>
        have : nthX d (setX d (x :: r) (n + 1) v) (t + 1) = nthX d (setX d r n v) t := rfl
        rw [this, ih]
        by_cases h : t = n
        · rw [if_pos h, if_pos (by omega)]
        · rw [if_neg h, if_neg (by omega)]; rfl

/-- the temporaries, in rows of eight -/
abbrev Tmps := List (List XV)
def tget (T : Tmps) (t : Nat) : XV := nthX (.tuple []) (nthX [] T (t / 8)) (t % 8)
def tset (T : Tmps) (t : Nat) (v : XV) : Tmps := setX [] T (t / 8) (setX (.tuple []) (nthX [] T (t / 8)) (t % 8) v)

theorem tget_nil (t : Nat) : tget [] t = .tuple [] := rfl
theorem tget_tset (T : Tmps) (d : Nat) (v : XV) (t : Nat) : tget (tset T d v) t = if t = d then v else tget T t := by
  unfold tget tset
  rw [nthX_setX]
  by_cases h : t / 8 = d / 8
  · rw [if_pos h, nthX_setX]
    by_cases h2 : t % 8 = d % 8
    · rw [if_pos h2, if_pos (by omega)]
    · rw [if_neg h2, if_neg (fun q => h2 (by rw [q])), h]
  · rw [if_neg h, if_neg (fun q => h (by rw [q]))]

def argsT : Nat → List XV → Tmps → Tmps
  | _, [], T => T
  | i, x :: r, T => argsT (i + 1) r (tset T i x)

theorem tget_argsT : ∀ (l : List XV) (i : Nat) (T : Tmps) (t : Nat), tget (argsT i l T) t = if i ≤ t ∧ t < i + l.length then (l[t - i]?).getD (.tuple []) else tget T t
  | [], i, T, t => by
    rw [if_neg (by simp only [List.length_nil]; omega)]
    rfl
  | x :: r, i, T, t => by
    rw [argsT, tget_argsT r (i + 1) _ t, tget_tset]
    simp only [List.length_cons]
    by_cases h : t = i
    · subst h
      rw [if_neg (by omega), if_pos rfl, if_pos (by omega)]
      simp
    · rw [if_neg h]
      by_cases h2 : i + 1 ≤ t ∧ t < i + 1 + r.length
      · rw [if_pos h2, if_pos (by omega), show t - i = (t - (i + 1)) + 1 by omega]
        simp
      · rw [if_neg h2, if_neg (by omega)]

def evalX (T : Tmps) : Operand → Option XV
  | .tmp t => if (tget T t).live then some (tget T t) else none
  | .const v => XV.ofValue v
  | .global _ => none
  | .func f => some (.func f [])

/-- n cells of a row -/
def cellsL (cs : List XV) : (o n : Nat) → Option (List XV)
  | _, 0 => some []
  | o, n + 1 => match cellAt cs o with
    | some v => match cellsL cs (o + 1) n with
      | some r => some (v :: r)
      | none => none
    | none => none

def xload (P : Program) (S : XS) (t : TypeId) : XV → Option XV
  | .rptr _ cs o => match tagg P t with
    | some true => match tsize P t with
      | some n => match cellsL cs o n with
        | some l => some (.agg l)
        | none => none
      | none => none
    | some false => cellAt cs o
    | none => none
  | .ptr b o => match tagg P t with
    | some true => match tsize P t with
      | some n => match S.cellsFrom b o n with
        | some cs => some (.agg cs)
        | none => none
      | none => none
    | some false => S.cell b o
    | none => none
  | _ => none

def xstore (P : Program) (base : Nat) (S : XS) (t : TypeId) (a v : XV) : Option XS :=
  match a with
  | .ptr b o => if tsize P t = some v.cells.length then S.storeN base b o v.cells else none
  | _ => none

def xfill (place : Nat → Option (Nat × Nat)) (cells : List XV) : List (Nat × XV) → Option (List XV)
  | [] => some cells
  | (i, v) :: rest =>
    match place i with
    | none => none
    | some (off, size) =>
      if v.cells.length = size ∧ off + size ≤ cells.length then
        xfill place (cells.take off ++ v.cells ++ cells.drop (off + size)) rest
      else none

def places (P : Program) : List Field → Option (List (Nat × Nat))
  | [] => some []
  | f :: r => match tsize P f.type, places P r with
    | some n, some l => some ((f.offset, n) :: l)
    | _, _ => none

def evalParts (T : Tmps) : List (Nat × Operand) → Option (List (Nat × XV))
  | [] => some []
  | (i, x) :: r => match evalX T x, evalParts T r with
    | some v, some l => some ((i, v) :: l)
    | _, _ => none

def evalAll (T : Tmps) : List Operand → Option (List XV)
  | [] => some []
  | x :: r => match evalX T x, evalAll T r with
    | some v, some l => some (v :: l)
    | _, _ => none

def xbuild (P : Program) (t : TypeId) (parts : List (Nat × XV)) : Option XV :=
  match P.underlying t with
  | some (.struct fs) => match zeroCells P t, places P fs.toList with
    | some z, some pl => match xfill (fun i => pl[i]?) z parts with
      | some cs => some (.agg cs)
      | none => none
    | _, _ => none
  | some (.array _ e) => match zeroCells P t, tsize P e with
    | some z, some n => match xfill (fun i => some (i * n, n)) z parts with
      | some cs => some (.agg cs)
      | none => none
    | _, _ => none
  | _ => none

def repeatL (z : List XV) : Nat → List XV
  | 0 => []
  | n + 1 => z ++ repeatL z n

def sliceElem (P : Program) (t : TypeId) : Option TypeId :=
  match P.underlying t with
  | some (.slice e) => some e
  | _ => none

def xbuildSlice (P : Program) (S : XS) (t : TypeId) (len : Nat) (parts : List (Nat × XV)) : Option (XV × XS) :=
  match sliceElem P t with
  | some e => match zeroCells P e, tsize P e with
    | some z, some n =>
      if z.length = n ∧ 0 < n ∧ len * n ≤ 16777216 then
        match xfill (fun i => some (i * n, n)) (repeatL z len) parts with
        | some cs => some (.slice S.size 0 len len, S.push (.cells cs (if cs.all (XV.fits (.arr n)) then .arr n else .own)))
        | none => none
      else none
    | _, _ => none
  | none => none

def noteAll (b : Nat) : Nat → List (Nat × Nat) → List (Nat × Nat)
  | 0, l => l
  | n + 1, l => noteAll b n ((b, n) :: l)

/-- nobody may come to this row any more -/
def XS.kill (S : XS) (base b n : Nat) : XS :=
  { S.put b .gone with log := if b < base then noteAll b n S.log else S.log }

def zeroOK (P : Program) (t : TypeId) (n : Nat) : Bool :=
  match zeroCells P t with
  | some z => z.length == n
  | none => false

/-- append: new cells 'new', n elements -/
def xappend (P : Program) (base : Nat) (S : XS) (t : TypeId) (s : XV) (new : List XV) (n : Nat) : Option (XV × XS) :=
  match sliceElem P t with
  | some e => match P.info? e with
    | some i =>
      if i.size = 0 ∨ i.bytes = 0 ∨ new.length ≠ n * i.size ∨ ¬ zeroOK P e i.size then none else
      match s with
      | .nilSlice =>
        if n = 0 then some (.nilSlice, S)
        else if n * i.bytes ≤ 35184372088832 then some (.sl S.size, S.push (.cells new (.loose i.size n)))
        else none
      | .sl b =>
        if n = 0 then some (.sl b, S) else
        match S.get b with
        | .cells cs (.loose esz m) =>
          if esz = i.size ∧ (m + n) * i.bytes ≤ 35184372088832 then
            some (.sl S.size, (S.kill base b (cs.length + 1)).push (.cells (cs ++ new) (.loose esz (m + n))))
          else none
        | _ => none
      | .slice b o len cap =>
        if n = 0 then (if len ≤ cap then some (s, S) else none) else
        if len + n ≤ cap then
          match S.storeN base b (o + len * i.size) new with
          | some S' => some (.slice b o (len + n) cap, S')
          | none => none
        else if (len + n) * i.bytes ≤ 35184372088832 then
          match S.get b with
          | .cells _ k => match S.cellsFrom b o (len * i.size) with
            | some old => if okCells k old then some (.sl S.size, S.push (.cells (old ++ new) (.loose i.size (len + n)))) else none
            | none => none
          | _ => none
        else none
      | .row _ m cs len =>
        if n = 0 then some (s, S)
        else if m = true ∧ cs.length = len * i.size ∧ (len + n) * i.bytes ≤ 35184372088832 then
          some (.sl S.size, S.push (.cells (cs ++ new) (.loose i.size (len + n))))
        else none
      | _ => none
    | none => none
  | none => none

mutual
/-- does a plain value look into memory that was lent? -/
def XV.lent : XV → Bool
  | .row t _ _ _ => t
  | .rptr t _ _ => t
  | .func _ cs => lentAny cs
  | .iface _ v => v.lent
  | .agg cs => lentAny cs
  | .tuple cs => lentAny cs
  | _ => false
def lentAny : List XV → Bool
  | [] => false
  | v :: r => v.lent || lentAny r
end

/-- what a caller hands on to a function that only looks: its rows, read out. t: with this mark -/
def hardAll (hard : XV → Option XV) : List XV → Option (List XV)
  | [] => some []
  | v :: r => match hard v, hardAll hard r with
    | some a, some l => some (a :: l)
    | _, _ => none

def hard (t : Bool) (S : XS) : Nat → XV → Option XV
  | 0, _ => none
  | n + 1, v =>
    match v with
    | .ptr b o => match S.get b with
      | .cells cs k => match hardAll (hard t S n) cs with
        | some l => if k ≠ .ro ∧ (t || !lentAny l) then some (.rptr t l o) else none
        | none => none
      | _ => none
    | .sl b => match S.get b with
      | .cells cs (.loose _ m) => if t || !lentAny cs then some (.row t false cs m) else none
      | _ => none
    | .slice b o len cap => match S.get b with
      | .cells cs (.arr esz) => if t || !lentAny cs then some (.row t (len == cap) ((cs.drop o).take (len * esz)) len) else none
      | .cells cs (.loose esz _) => if t || !lentAny cs then some (.row t (len == cap) ((cs.drop o).take (len * esz)) len) else none
      | _ => none
    | .part b o len => match S.get b with
      | .cells cs (.arr esz) => if t || !lentAny cs then some (.row t false ((cs.drop o).take (len * esz)) len) else none
      | .cells cs (.loose esz _) => if t || !lentAny cs then some (.row t false ((cs.drop o).take (len * esz)) len) else none
      | _ => none
    | .func f cs => match hardAll (hard t S n) cs with
      | some l => some (.func f l)
      | none => none
    | .iface ty x => match hard t S n x with
      | some y => some (.iface ty y)
      | none => none
    | .agg cs => match hardAll (hard t S n) cs with
      | some l => some (.agg l)
      | none => none
    | .tuple cs => match hardAll (hard t S n) cs with
      | some l => some (.tuple l)
      | none => none
    | .dead => none
    | .nilSlice => some (.row t true [] 0)
    | v => if v.under 0 then some v else none

end
end Go.XM
