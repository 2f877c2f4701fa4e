/- A plain machine beside the model, and that what it tells the model does: part Xb. Conditions: those of each theorem below. -/
import Derived.Test.YtlaamopkgopleaaXa
import GoSem.Core.Utf8
namespace Go.XM
set_option linter.unusedVariables false
set_option linter.unusedSimpArgs false
noncomputable section

/-- the rune that a text begins with, and its width (as the model decodes) -/
def decL : List UInt8 → Nat × Nat
  | [] => (0, 1)
  | a :: r =>
    let b0 := a.toNat
    let c1 := (r[0]?).getD 0
    let c2 := (r[1]?).getD 0
    let c3 := (r[2]?).getD 0
    let cont (k : Nat) (c : UInt8) : Bool := k < r.length && c.toNat / 64 == 2
    if b0 < 0x80 then (b0, 1)
    else if b0 / 32 == 6 && cont 0 c1 then
      let c := (b0 % 32) * 64 + c1.toNat % 64
      if c ≥ 0x80 then (c, 2) else (0xFFFD, 1)
    else if b0 / 16 == 14 && cont 0 c1 && cont 1 c2 then
      let c := (b0 % 16) * 4096 + (c1.toNat % 64) * 64 + c2.toNat % 64
      if c ≥ 0x800 && Utf8.valid c then (c, 3) else (0xFFFD, 1)
    else if b0 / 8 == 30 && cont 0 c1 && cont 1 c2 && cont 2 c3 then
      let c := (b0 % 8) * 262144 + (c1.toNat % 64) * 4096 + (c2.toNat % 64) * 64 + c3.toNat % 64
      if c ≥ 0x10000 && Utf8.valid c then (c, 4) else (0xFFFD, 1)
    else (0xFFFD, 1)

/-- all runes -/
def runesL : (bound : Nat) → List UInt8 → List Nat
  | 0, _ => []
  | n + 1, s => match s with
    | [] => []
    | _ => (decL s).1 :: runesL n (s.drop (decL s).2)

def encL (r : Int) : List UInt8 := (Utf8.encode r).data.toList

def allBytes : List XV → Option (List UInt8)
  | [] => some []
  | .int .u8 n :: r => match allBytes r with
    | some l => some (UInt8.ofNat n.toNat :: l)
    | none => none
  | _ => none

def xpart (P : Program) (t : TypeId) (cs : List XV) (off : Nat) : Option XV :=
  match tagg P t with
  | some true => match tsize P t with
    | some n => if off + n ≤ cs.length then some (.agg ((cs.drop off).take n)) else none
    | none => none
  | some false => cs[off]?
  | none => none

def xEqFields (P : Program) (rec : TypeId → XV → XV → Option Bool) (xs ys : List XV) : List Field → Option Bool
  | [] => some true
  | f :: r =>
    if f.name ≠ "_" then
      match xpart P f.type xs f.offset, xpart P f.type ys f.offset with
      | some a, some b => match rec f.type a b with
        | some true => xEqFields P rec xs ys r
        | some false => some false
        | none => none
      | _, _ => none
    else xEqFields P rec xs ys r

def xEqIn (P : Program) : (depth : Nat) → TypeId → XV → XV → Option Bool
  | 0, _, _, _ => none
  | d + 1, t, x, y =>
    match P.underlying t, x, y with
    | some .bool, .bool a, .bool b => some (a == b)
    | some (.int _), .int k a, .int k' b => if k = k' then some (a == b) else none
    | some .string, .str a, .str b => some (a == b)
    | some (.pointer _), .nilPtr, .nilPtr => some true
    | some (.pointer _), .nilPtr, .ptr _ _ => some false
    | some (.pointer _), .ptr _ _, .nilPtr => some false
    | some (.pointer _), .nilPtr, .rptr _ _ _ => some false
    | some (.pointer _), .rptr _ _ _, .nilPtr => some false
    | some (.slice _), .nilSlice, .nilSlice => some true
    | some (.slice _), .nilSlice, .slice _ _ _ _ => some false
    | some (.slice _), .slice _ _ _ _, .nilSlice => some false
    | some (.slice _), .nilSlice, .sl _ => some false
    | some (.slice _), .sl _, .nilSlice => some false
    | some (.slice _), .nilSlice, .part _ _ _ => some false
    | some (.slice _), .part _ _ _, .nilSlice => some false
    | some (.interface _), .nilIface, .iface _ _ => some false
    | some (.interface _), .iface _ _, .nilIface => some false
    | some (.interface _), .iface tx vx, .iface ty vy =>
      if tx ≠ ty then some false
      else match P.info? tx with
        | some i => if i.comparable then xEqIn P d tx vx vy else none
        | none => none
    | some (.struct fs), .agg xs, .agg ys =>
      if P.stoodInHeld t || P.eqGuardType P.depth t then none else xEqFields P (xEqIn P d) xs ys fs.toList
    | _, _, _ => none

def bitsX (op : BinOp) (k : IntKind) (x y : Int) : Option XV :=
  let a := BitVec.ofInt k.bits x
  let b := BitVec.ofInt k.bits y
  match op with
  | .and => some (.int k (k.wrap (a &&& b).toNat))
  | .or => some (.int k (k.wrap (a ||| b).toNat))
  | .xor => some (.int k (k.wrap (a ^^^ b).toNat))
  | .andNot => some (.int k (k.wrap (a &&& ~~~b).toNat))
  | _ => none

/-- which is less, as a machine counts -/
def ilt : Int → Int → Bool
  | .ofNat a, .ofNat b => Nat.ble (a + 1) b
  | .negSucc _, .ofNat _ => true
  | .ofNat _, .negSucc _ => false
  | .negSucc a, .negSucc b => Nat.ble (b + 1) a
def ile (a b : Int) : Bool := !(ilt b a)

theorem ilt_eq (a b : Int) : ilt a b = decide (a < b) := by
  have key : ilt a b = true ↔ a < b := by
    cases a <;> cases b <;> simp only [ilt, Nat.ble_eq, Int.ofNat_eq_natCast, Bool.false_eq_true, true_iff, false_iff] <;> (try constructor) <;> (try intro h) <;> omega
  by_cases h : a < b
  · rw [decide_eq_true h]; exact key.2 h
  · rw [decide_eq_false h]
    cases hq : ilt a b with
    | false => rfl
    | true => exact absurd (key.1 hq) h
theorem ile_eq (a b : Int) : ile a b = decide (a ≤ b) := by
  unfold ile
  rw [ilt_eq]
  by_cases h : b < a
  · rw [decide_eq_true h, decide_eq_false (by omega)]; rfl
  · rw [decide_eq_false h, decide_eq_true (by omega)]; rfl

def xbin (P : Program) (op : BinOp) (t : TypeId) (x y : XV) : Option XV :=
  match op, x, y with
  | .shl, .int k a, .int _ b => if b < 0 then none else some (.int k (k.wrap (a * 2 ^ (min b.toNat k.bits))))
  | .shr, .int k a, .int _ b => if b < 0 then none else some (.int k (a.fdiv (2 ^ (min b.toNat k.bits))))
  | _, .int k a, .int k' b =>
    if k ≠ k' then none else
    match op with
    | .add => some (.int k (k.wrap (a + b)))
    | .sub => some (.int k (k.wrap (a - b)))
    | .mul => some (.int k (k.wrap (a * b)))
    | .quo => if b = 0 then none else some (.int k (k.wrap (a.tdiv b)))
    | .rem => if b = 0 then none else some (.int k (a.tmod b))
    | .eql => some (.bool (a == b))
    | .neq => some (.bool (a != b))
    | .lss => some (.bool (ilt a b))
    | .leq => some (.bool (ile a b))
    | .gtr => some (.bool (ilt b a))
    | .geq => some (.bool (ile b a))
    | op => bitsX op k a b
  | .add, .str a, .str b => if a.length + b.length ≤ 9223372036854775807 then some (.str (a ++ b)) else none
  | .eql, .str a, .str b => some (.bool (a == b))
  | .neq, .str a, .str b => some (.bool !(a == b))
  | .lss, .str a, .str b => some (.bool (Op.bytesLess a b))
  | .leq, .str a, .str b => some (.bool (Op.bytesLess a b || a == b))
  | .gtr, .str a, .str b => some (.bool !(Op.bytesLess a b || a == b))
  | .geq, .str a, .str b => some (.bool !(Op.bytesLess a b))
  | .eql, x, y => match xEqIn P 100 t x y with | some b => some (.bool b) | none => none
  | .neq, x, y => match xEqIn P 100 t x y with | some b => some (.bool !b) | none => none
  | _, _, _ => none

def xun (op : UnOp) (x : XV) : Option XV :=
  match op, x with
  | .neg, .int k n => some (.int k (k.wrap (0 - n)))
  | .xor, .int k n => bitsX .xor k (if k.signed then -1 else k.max) n
  | .not, .bool b => some (.bool !b)
  | _, _ => none

def isU8 (P : Program) (e : TypeId) : Bool := match P.underlying e with | some (.int .u8) => true | _ => false
def isI32 (P : Program) (e : TypeId) : Bool := match P.underlying e with | some (.int .i32) => true | _ => false
def isStrT (P : Program) (t : TypeId) : Bool := match P.underlying t with | some .string => true | _ => false
def intT (P : Program) (t : TypeId) : Option IntKind := match P.underlying t with | some (.int k) => some k | _ => none

def looseOf (S : XS) (cs : List XV) (n : Nat) : XV × XS :=
  (.sl S.size, S.push (.cells cs (.loose 1 n)))

/-- the cells of a row of small elements -/
def rowOf (S : XS) : XV → Option (List XV)
  | .nilSlice => some []
  | .slice b o len _ => S.cellsFrom b o len
  | .part b o len => S.cellsFrom b o len
  | .sl b => match S.get b with
    | .cells cs (.loose esz n) => if esz = 1 then some cs else none
    | _ => none
  | .row _ _ cs len => if cs.length = len then some cs else none
  | _ => none

def xconvert (P : Program) (S : XS) (src dst : TypeId) (x : XV) : Option (XV × XS) :=
  if (P.underlying src).isNone then none else
  match x with
  | .int _ n => match intT P dst with
    | some k => some (.int k (k.wrap n), S)
    | none => if isStrT P dst then some (.str (encL n), S) else none
  | .str s =>
    if isStrT P dst then some (.str s, S) else
    match sliceElem P dst with
    | some e =>
      if isU8 P e then some (looseOf S (s.map fun b => .int .u8 b.toNat) s.length)
      else if isI32 P e then
        let l := runesL s.length s
        some (looseOf S (l.map fun r => .int .i32 (Int.ofNat r)) l.length)
      else none
    | none => none
  | x => match sliceElem P src with
    | some e => if isStrT P dst && isU8 P e then
        match rowOf S x with
        | some cs => match allBytes cs with | some l => some (.str l, S) | none => none
        | none => none
      else none
    | none => none

/-- the bounds of a cut: low, high, max -/
def xbound (v : XV) (y : Nat) : Option Nat :=
  match v with
  | .int _ i => if 0 ≤ i ∧ i ≤ y then some i.toNat else none
  | _ => none

def xbounds (len cap : Nat) (low high max : Option XV) : Option (Nat × Nat × Nat) :=
  match (match max with | some v => xbound v cap | none => some cap) with
  | none => none
  | some m =>
    match (match high, max with | some v, _ => xbound v m | none, none => some len | none, some _ => none) with
    | none => none
    | some h =>
      match (match low with | some v => xbound v h | none => some 0) with
      | none => none
      | some l => some (l, h, m)

/-- a cut of a row behind which more room may stand -/
def xslicePart (n b o len : Nat) (low high max : Option XV) : Option XV :=
  match max with
  | none => match xbounds len len low high none with
    | some (l, h, _) => some (.part b (o + l * n) (h - l))
    | none => none
  | some v => match xbounds len len low high (some v) with
    | some (l, h, m) => some (.slice b (if m = l then o else o + l * n) (h - l) (m - l))
    | none => none

def xslice (P : Program) (S : XS) (t : TypeId) (x : XV) (low high max : Option XV) : Option XV :=
  match x with
  | .str s =>
    if isStrT P t && max.isNone then
      match xbounds s.length s.length low high none with
      | some (l, h, _) => some (.str ((s.take h).drop l))
      | none => none
    else none
  | .nilSlice =>
    match sliceElem P t with
    | some e => match tsize P e, xbounds 0 0 low high max with
      | some _, some _ => some .nilSlice
      | _, _ => none
    | none => none
  | .slice b o len cap =>
    match sliceElem P t with
    | some e => match tsize P e with
      | some n =>
        if len ≤ cap then
          match xbounds len cap low high max with
          | some (l, h, m) => some (.slice b (if m = l then o else o + l * n) (h - l) (m - l))
          | none => none
        else none
      | none => none
    | none => none
  | .sl b =>
    match sliceElem P t with
    | some e => match tsize P e with
      | some n =>
        if low.isNone && high.isNone && max.isNone then some (.sl b) else
        match S.get b with
        | .cells _ (.loose _ len) => xslicePart n b 0 len low high max
        | _ => none
      | none => none
    | none => none
  | .part b o len =>
    match sliceElem P t with
    | some e => match tsize P e with
      | some n => xslicePart n b o len low high max
      | none => none
    | none => none
  | .row t' mm cs len =>
    match sliceElem P t with
    | some e => match tsize P e with
      | some n =>
        match xbounds len len low high max with
        | some (l, h, m) => some (.row t' (match max with | some _ => h == m | none => mm && h == len) ((cs.drop (l * n)).take ((h - l) * n)) (h - l))
        | none => none
      | none => none
    | none => none
  | _ => none

def xfieldAddr (P : Program) (t : TypeId) (x : XV) (f : Nat) : Option XV :=
  match P.underlying t, x with
  | some (.struct fs), .ptr b o => match fs[f]? with
    | some fd => match tsize P fd.type with
      | some n => if n = 0 then none else some (.ptr b (o + fd.offset))
      | none => none
    | none => none
  | some (.struct fs), .rptr t cs o => match fs[f]? with
    | some fd => match tsize P fd.type with
      | some n => if n = 0 then none else some (.rptr t cs (o + fd.offset))
      | none => none
    | none => none
  | _, _ => none

def xfield (P : Program) (t : TypeId) (x : XV) (f : Nat) : Option XV :=
  match P.underlying t, x with
  | some (.struct fs), .agg cs => match fs[f]? with
    | some fd => xpart P fd.type cs fd.offset
    | none => none
  | _, _ => none

def xindexAddr (P : Program) (S : XS) (t : TypeId) (x ix : XV) : Option XV :=
  match P.underlying t, x, ix with
  | some (.slice e), x, .int _ i => match tsize P e with
    | some n => match x with
      | .slice b o len _ => if 0 ≤ i ∧ i < len then some (.ptr b (o + i.toNat * n)) else none
      | .part b o len => if 0 ≤ i ∧ i < len then some (.ptr b (o + i.toNat * n)) else none
      | .sl b => match S.get b with
        | .cells _ (.loose _ len) => if 0 ≤ i ∧ i < len then some (.ptr b (i.toNat * n)) else none
        | _ => none
      | .row t cs' cs len => if 0 ≤ i ∧ i < len then some (.rptr t cs (i.toNat * n)) else none
      | _ => none
    | none => none
  | some (.array len e), x, .int _ i => match tsize P e with
    | some n => match x with
      | .ptr b o => if 0 ≤ i ∧ i < len then some (.ptr b (o + i.toNat * n)) else none
      | .rptr t cs o => if 0 ≤ i ∧ i < len then some (.rptr t cs (o + i.toNat * n)) else none
      | _ => none
    | none => none
  | _, _, _ => none

def xindex (P : Program) (t : TypeId) (x ix : XV) : Option XV :=
  match P.underlying t, x, ix with
  | some .string, .str s, .int _ i =>
    if 0 ≤ i then match s[i.toNat]? with
      | some b => some (.int .u8 b.toNat)
      | none => none
    else none
  | some (.array len e), .agg cs, .int _ i => match tsize P e with
    | some n => if 0 ≤ i ∧ i < len then xpart P e cs (i.toNat * n) else none
    | none => none
  | _, _, _ => none

def xnext (base : Nat) (S : XS) (x : XV) : Option (XV × XS) :=
  match x with
  | .ptr b 0 => match S.get b with
    | .iter s pos =>
      if pos < s.length then
        some (.tuple [.bool true, .int .i64 pos, .int .i32 ((decL (s.drop pos)).1 : Nat)],
          (S.put b (.iter s (pos + (decL (s.drop pos)).2))).note base b 0)
      else some (.tuple [.bool false], S)
    | _ => none
  | _ => none

def assertFails (P : Program) (t : TypeId) (ok : Bool) : Option XV :=
  if ok then
    match P.info? t with
    | some i => match i.zero with
      | some z => match XV.ofValue z with
        | some v => some (.tuple [v, .bool false])
        | none => none
      | none => none
    | none => none
  else none

def plainT (P : Program) (t : TypeId) : Bool :=
  match P.underlying t with
  | none => false
  | some (.interface _) => false
  | some _ => true

def xassert (P : Program) (x : XV) (asserted : TypeId) (ok : Bool) : Option XV :=
  if plainT P asserted then
    match x with
    | .nilIface => assertFails P asserted ok
    | .iface t v => if t = asserted then some (if ok then .tuple [v, .bool true] else v) else assertFails P asserted ok
    | _ => none
  else none

def xlen (P : Program) (S : XS) (t : TypeId) (x : XV) : Option XV :=
  match P.underlying t, x with
  | some .string, .str s => some (.int .i64 (s.length : Nat))
  | some (.array n _), _ => some (.int .i64 (n : Nat))
  | some (.slice _), .nilSlice => some (.int .i64 0)
  | some (.slice _), .slice _ _ n _ => some (.int .i64 (n : Nat))
  | some (.slice _), .part _ _ n => some (.int .i64 (n : Nat))
  | some (.slice _), .row _ _ _ n => some (.int .i64 (n : Nat))
  | some (.slice _), .sl b => match S.get b with
    | .cells _ (.loose _ n) => some (.int .i64 (n : Nat))
    | _ => none
  | some (.map _ _), .nilMap => some (.int .i64 0)
  | _, _ => none

def xcap (P : Program) (t : TypeId) (x : XV) : Option XV :=
  match P.underlying t, x with
  | some (.slice _), .nilSlice => some (.int .i64 0)
  | some (.slice _), .slice _ _ _ cap => some (.int .i64 (cap : Nat))
  | some (.slice _), .row _ true _ n => some (.int .i64 (n : Nat))
  | _, _ => none

def foldMin : XV → List XV → Option XV
  | x, [] => some x
  | .int k x, .int _ y :: r => foldMin (.int k (if y < x then y else x)) r
  | _, _ :: _ => none
def foldMax : XV → List XV → Option XV
  | x, [] => some x
  | .int k x, .int _ y :: r => foldMax (.int k (if y > x then y else x)) r
  | _, _ :: _ => none

/-- is the second argument a number (so many zeros are appended)? -/
def zerosT (P : Program) : Option TypeId → Option Bool
  | none => some false
  | some t => match P.underlying t with
    | some (.int _) => some true
    | some (.slice _) => some false
    | some .string => some false
    | _ => none

/-- the cells that are appended, and how many elements they are -/
def xappended (P : Program) (S : XS) (e : TypeId) (zeros : Bool) (x : XV) : Option (List XV × Nat) :=
  match tsize P e with
  | none => none
  | some size =>
    if zeros then
      match x with
      | .int _ l => match zeroCells P e, P.info? e with
        | some z, some i => if 0 < l ∧ l ≤ 1099511627776 ∧ l * i.bytes ≤ 35184372088832 ∧ z.length = size ∧ 0 < size ∧ z.all (XV.fits (.arr 1)) then some (repeatL z l.toNat, l.toNat) else none
        | _, _ => none
      | _ => none
    else
      match x with
      | .nilSlice => some ([], 0)
      | .slice b o n _ => match S.get b, S.cellsFrom b o (n * size) with
        | .cells _ k, some cs => if okCells k cs then some (cs, n) else none
        | _, _ => none
      | .part b o n => match S.get b, S.cellsFrom b o (n * size) with
        | .cells _ k, some cs => if okCells k cs then some (cs, n) else none
        | _, _ => none
      | .sl b => match S.get b with
        | .cells cs (.loose esz n) => if esz = size ∧ cs.all XV.live then some (cs, n) else none
        | _ => none
      | .row _ _ cs n => if cs.length = n * size ∧ cs.all XV.live then some (cs, n) else none
      | .str s => if size = 1 then some (s.map fun b => .int .u8 b.toNat, s.length) else none
      | _ => none

def isNilSlice : XV → Bool
  | .nilSlice => true
  | _ => false

def xbuiltin (P : Program) (base : Nat) (S : XS) (b : Builtin) (ts : List TypeId) (xs : List XV) : Option (XV × XS) :=
  match b, ts, xs with
  | .append, t :: t2, [s, x] => match sliceElem P t with
    | some e => match zerosT P t2.head? with
      | some z => match xappended P S e z x with
        | some (new, n) => if z && !isNilSlice s then none else xappend P base S t s new n
        | none => none
      | none => none
    | none => none
  | .len, t :: _, x :: _ => match xlen P S t x with | some v => some (v, S) | none => none
  | .cap, t :: _, x :: _ => match xcap P t x with | some v => some (v, S) | none => none
  | .min, _, x :: r => match foldMin x r with | some v => some (v, S) | none => none
  | .max, _, x :: r => match foldMax x r with | some v => some (v, S) | none => none
  | _, _, _ => none

def xmakeSlice (P : Program) (S : XS) (t : TypeId) (len cap : XV) : Option (XV × XS) :=
  match sliceElem P t, len, cap with
  | some e, .int _ l, .int _ c => match P.info? e with
    | some i => match zeroCells P e with
      | some z =>
        if 0 ≤ l ∧ l ≤ c ∧ c * i.bytes ≤ 35184372088832 ∧ 0 < i.bytes ∧ z.length = i.size ∧ 0 < i.size then
          some (.slice S.size 0 l.toNat c.toNat, S.push (.cells (repeatL z c.toNat) (if z.all (XV.fits (.arr i.size)) then .arr i.size else .own)))
        else none
      | none => none
    | none => none
  | _, _, _ => none

/-- an operand that may be left out -/
def evalOpt (T : Tmps) : Option Operand → Option (Option XV)
  | none => some none
  | some x => match evalX T x with
    | some v => some (some v)
    | none => none

/-- every operation but a call of a function -/
def xop (P : Program) (base : Nat) (o : Oper) (T : Tmps) (S : XS) : Option (XV × XS) :=
  match o.op with
  | .move x | .assign x => (evalX T x).map fun v => (v, S)
  | .pick c a b => match evalX T c with
    | some (.bool true) => (evalX T a).map fun v => (v, S)
    | some (.bool false) => (evalX T b).map fun v => (v, S)
    | _ => none
  | .alloc t => match zeroCells P t, tsize P t with
    | some z, some n => if z.length = n then some (.ptr S.size 0, S.push (.cells z .own)) else none
    | _, _ => none
  | .box t x => match evalX T x with
    | some v => if tsize P t = some v.cells.length then some (.ptr S.size 0, S.push (.cells v.cells .own)) else none
    | none => none
  | .build t ps => match evalParts T ps.toList with
    | some l => (xbuild P t l).map fun v => (v, S)
    | none => none
  | .buildSlice t n ps => match evalParts T ps.toList with
    | some l => xbuildSlice P S t n l
    | none => none
  | .load t a => match evalX T a with
    | some p => (xload P S t p).map fun v => (v, S)
    | none => none
  | .store t a x => match evalX T a, evalX T x with
    | some p, some v => (xstore P base S t p v).map fun S' => (.tuple [], S')
    | _, _ => none
  | .nilCheck x => match evalX T x with
    | some (.ptr b o) => some (.ptr b o, S)
    | some (.rptr t cs o) => some (.rptr t cs o, S)
    | some (.func f c) => some (.func f c, S)
    | _ => none
  | .binOp op t x y _ => match evalX T x, evalX T y with
    | some a, some b => (xbin P op t a b).map fun v => (v, S)
    | _, _ => none
  | .unOp op _ x => match evalX T x with
    | some a => (xun op a).map fun v => (v, S)
    | none => none
  | .convert src dst x => match evalX T x with
    | some a => xconvert P S src dst a
    | none => none
  | .makeInterface t x => match evalX T x with
    | some v => match P.underlying t with
      | some (.interface _) => none
      | some _ => some (.iface t v, S)
      | none => none
    | none => none
  | .makeFunc (.func f) first caps => if first.toList.isEmpty then (evalAll T caps.toList).map fun l => (.func f l, S) else none
  | .makeSlice t l c => match evalX T l, evalX T c with
    | some a, some b => xmakeSlice P S t a b
    | _, _ => none
  | .slice t x lo hi mx => match evalX T x, evalOpt T lo, evalOpt T hi, evalOpt T mx with
    | some v, some a, some b, some c => (xslice P S t v a b c).map fun v => (v, S)
    | _, _, _, _ => none
  | .fieldAddr t x f => match evalX T x with
    | some v => (xfieldAddr P t v f).map fun v => (v, S)
    | none => none
  | .field t x f => match evalX T x with
    | some v => (xfield P t v f).map fun v => (v, S)
    | none => none
  | .indexAddr t x i => match evalX T x, evalX T i with
    | some v, some j => (xindexAddr P S t v j).map fun v => (v, S)
    | _, _ => none
  | .index t x i => match evalX T x, evalX T i with
    | some v, some j => (xindex P t v j).map fun v => (v, S)
    | _, _ => none
  | .range t x => match evalX T x with
    | some (.str s) => if isStrT P t then some (.ptr S.size 0, S.push (.iter s 0)) else none
    | _ => none
  | .next x isString => if isString then match evalX T x with
      | some v => xnext base S v
      | none => none
    else none
  | .typeAssert x _ t ok => match evalX T x with
    | some v => (xassert P v t ok).map fun v => (v, S)
    | none => none
  | .extract x i => match evalX T x with
    | some (.tuple vs) => (vs[i]?).map fun v => (v, S)
    | _ => none
  | .call c => match c.callee with
    | .builtin b => match evalAll T c.args.toList with
      | some xs => xbuiltin P base S b c.argTypes.toList xs
      | none => none
    | _ => none
  | _ => none

end
end Go.XM
