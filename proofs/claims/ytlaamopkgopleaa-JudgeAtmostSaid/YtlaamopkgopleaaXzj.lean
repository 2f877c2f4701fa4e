/- A plain machine beside the model, and that what it tells the model does: part Xzj. Conditions: those of each theorem below. -/
import Derived.Test.YtlaamopkgopleaaXzi
namespace Go.XM
set_option linter.unusedVariables false
set_option linter.unusedSimpArgs false
set_option linter.unusedVariables false
noncomputable section

/-! ### the plain machine, told from its end: what is open stands as a choice, a guard, a reading -/
section
variable {A : Type}

/-- a guard -/
def gd (b : Bool) (k : Option A) : Option A := cond b k none
def rdI (kd : IntKind) (cs : List XV) (o : Nat) (k : Int → Option A) : Option A :=
  match cs[o]? with
  | some (.int kd' n) => cond (decide (kd' = kd)) (k n) none
  | _ => none
def rdB (cs : List XV) (o : Nat) (k : Bool → Option A) : Option A :=
  match cs[o]? with
  | some (.bool b) => k b
  | _ => none
def rdS (cs : List XV) (o : Nat) (k : List UInt8 → Option A) : Option A :=
  match cs[o]? with
  | some (.str s) => k s
  | _ => none
def rdR (cs : List XV) (o : Nat) (k : Bool → Bool → List XV → Nat → Option A) : Option A :=
  match cs[o]? with
  | some (.row t m c n) => k t m c n
  | _ => none

def kcell (z : XV) (cs : List XV) (o : Nat) (k : XV → Option A) : Option A :=
  match z with
  | .int kd _ => rdI kd cs o fun n => k (.int kd n)
  | .bool _ => rdB cs o fun b => k (.bool b)
  | .str _ => rdS cs o fun s => k (.str s)
  | .nilSlice => rdR cs o fun t m c n => k (.row t m c n)
  | _ => match cellAt cs o with
    | some v => k v
    | none => none

def kcells (cs : List XV) : (zs : List XV) → (o : Nat) → (List XV → Option A) → Option A
  | [], _, k => k []
  | z :: r, o, k => kcell z cs o fun v => kcells cs r (o + 1) fun l => k (v :: l)

def kread (P : Program) (t : TypeId) (cs : List XV) (o : Nat) (k : XV → Option A) : Option A :=
  match tagg P t, tsize P t, zeroCells P t with
  | some true, some n, some zs => cond (zs.length == n) (kcells cs zs o fun l => k (.agg l)) none
  | some false, _, some [z] => kcell z cs o k
  | _, _, _ => none

def kload (P : Program) (S : XS) (t : TypeId) (p : XV) (k : XV → Option A) : Option A :=
  match p with
  | .rptr _ cs o => kread P t cs o k
  | .ptr b o => match S.get b with
    | .cells cs kd => match kd.flat with
      | true => kread P t cs o k
      | false => match xload P S t (.ptr b o) with
        | some v => k v
        | none => none
    | _ => none
  | _ => none

/-- is a number below a bound, and not below naught? -/
def within (i : Int) (n : Nat) : Bool := ile 0 i && ilt i (Int.ofNat n)
def upto (i : Int) (n : Nat) : Bool := ile 0 i && ile i (Int.ofNat n)

def kindexAddr (P : Program) (S : XS) (t : TypeId) (x ix : XV) (k : XV → Option A) : Option A :=
  match P.underlying t, x, ix with
  | some (.slice e), x, .int _ i => match tsize P e with
    | some n => match x with
      | .slice b o len _ => gd (within i len) (k (.ptr b (o + i.toNat * n)))
      | .part b o len => gd (within i len) (k (.ptr b (o + i.toNat * n)))
      | .sl b => match S.get b with
        | .cells _ (.loose _ len) => gd (within i len) (k (.ptr b (i.toNat * n)))
        | _ => none
      | .row t _ cs len => gd (within i len) (k (.rptr t cs (i.toNat * n)))
      | _ => none
    | none => none
  | _, _, _ => match xindexAddr P S t x ix with
    | some v => k v
    | none => none

def kindex (P : Program) (t : TypeId) (x ix : XV) (k : XV → Option A) : Option A :=
  match P.underlying t, x, ix with
  | some .string, .str s, .int _ i => gd (ile 0 i) (match s[i.toNat]? with
      | some b => k (.int .u8 b.toNat)
      | none => none)
  | _, _, _ => match xindex P t x ix with
    | some v => k v
    | none => none

/-- the bounds of a cut, one by one -/
def kbound (v : XV) (y : Nat) (k : Nat → Option A) : Option A :=
  match v with
  | .int _ i => gd (upto i y) (k i.toNat)
  | _ => none
def kb3 (low : Option XV) (m h : Nat) (k : Nat → Nat → Nat → Option A) : Option A :=
  match low with
  | some v => kbound v h fun l => k l h m
  | none => k 0 h m
def kb2 (len : Nat) (low high : Option XV) (hasMax : Bool) (m : Nat) (k : Nat → Nat → Nat → Option A) : Option A :=
  match high with
  | some v => kbound v m fun h => kb3 low m h k
  | none => match hasMax with
    | true => none
    | false => kb3 low m len k
def kbounds (len cap : Nat) (low high max : Option XV) (k : Nat → Nat → Nat → Option A) : Option A :=
  match max with
  | some v => kbound v cap fun m => kb2 len low high true m k
  | none => kb2 len low high false cap k

def kslicePart (n b o len : Nat) (low high max : Option XV) (k : XV → Option A) : Option A :=
  match max with
  | none => kbounds len len low high none fun l h _ => k (.part b (o + l * n) (h - l))
  | some v => kbounds len len low high (some v) fun l h m => k (.slice b (if m = l then o else o + l * n) (h - l) (m - l))

def kslice (P : Program) (S : XS) (t : TypeId) (x : XV) (low high max : Option XV) (k : XV → Option A) : Option A :=
  match x with
  | .str s =>
    if isStrT P t && max.isNone then kbounds s.length s.length low high none fun l h _ => k (.str ((s.take h).drop l))
    else none
  | .sl b =>
    match sliceElem P t with
    | some e => match tsize P e with
      | some n =>
        if low.isNone && high.isNone && max.isNone then k (.sl b) else
        match S.get b with
        | .cells _ (.loose _ len) => kslicePart n b 0 len low high max k
        | _ => none
      | none => none
    | none => none
  | .part b o len =>
    match sliceElem P t with
    | some e => match tsize P e with
      | some n => kslicePart n b o len low high max k
      | none => none
    | none => none
  | .row t' mm cs len =>
    match sliceElem P t with
    | some e => match tsize P e with
      | some n => kbounds len len low high max fun l h m => k (.row t' (match max with | some _ => h == m | none => mm && h == len) ((cs.drop (l * n)).take ((h - l) * n)) (h - l))
      | none => none
    | none => none
  | x => match xslice P S t x low high max with
    | some v => k v
    | none => none

def knext (base : Nat) (S : XS) (x : XV) (k : XV → XS → Option A) : Option A :=
  match x with
  | .ptr b 0 => match S.get b with
    | .iter s pos => cond (Nat.ble (pos + 1) s.length)
        (k (.tuple [.bool true, .int .i64 pos, .int .i32 ((decL (s.drop pos)).1 : Nat)]) ((S.put b (.iter s (pos + (decL (s.drop pos)).2))).note base b 0))
        (k (.tuple [.bool false]) S)
    | _ => none
  | _ => none

/-- small enough to be made -/
def fitsB (n bytes : Nat) : Bool := Nat.ble (n * bytes) 35184372088832

def kappended (P : Program) (S : XS) (e : TypeId) (x : XV) (k : List XV → Nat → Option A) : Option A :=
  match tsize P e with
  | none => none
  | some size => match x with
    | .sl b => match S.get b with
      | .cells cs (.loose esz n) => gd (Nat.beq esz size && cs.all XV.live) (k cs n)
      | _ => none
    | .row _ _ cs n => gd (Nat.beq cs.length (n * size) && cs.all XV.live) (k cs n)
    | x => match xappended P S e false x with
      | some (new, n) => k new n
      | none => none

def kappend (P : Program) (base : Nat) (S : XS) (t : TypeId) (s : XV) (new : List XV) (n : Nat) (k : XV → XS → Option A) : Option A :=
  match sliceElem P t with
  | some e => match P.info? e with
    | some i => gd (!(Nat.beq i.size 0) && !(Nat.beq i.bytes 0) && Nat.beq new.length (n * i.size) && zeroOK P e i.size)
      (match s with
      | .nilSlice => cond (Nat.beq n 0) (k .nilSlice S) (gd (fitsB n i.bytes) (k (.sl S.size) (S.push (.cells new (.loose i.size n)))))
      | .sl b => cond (Nat.beq n 0) (k (.sl b) S)
        (match S.get b with
        | .cells cs (.loose esz m) => gd (Nat.beq esz i.size && fitsB (m + n) i.bytes)
            (k (.sl S.size) ((S.kill base b (cs.length + 1)).push (.cells (cs ++ new) (.loose esz (m + n)))))
        | _ => none)
      | .row t' m cs len => cond (Nat.beq n 0) (k (.row t' m cs len) S)
          (gd (m && Nat.beq cs.length (len * i.size) && fitsB (len + n) i.bytes) (k (.sl S.size) (S.push (.cells (cs ++ new) (.loose i.size (len + n))))))
      | s => match xappend P base S t s new n with
        | some (v, S') => k v S'
        | none => none)
    | none => none
  | none => none

def kconvert (P : Program) (S : XS) (src dst : TypeId) (x : XV) (k : XV → XS → Option A) : Option A :=
  match x with
  | .row t m cs len =>
    if (P.underlying src).isNone then none else
    match sliceElem P src with
    | some e => if isStrT P dst && isU8 P e then gd (Nat.beq cs.length len) (match allBytes cs with | some l => k (.str l) S | none => none) else none
    | none => none
  | x => match xconvert P S src dst x with
    | some (v, S') => k v S'
    | none => none

def kmake (P : Program) (S : XS) (t : TypeId) (len cap : XV) (k : XV → XS → Option A) : Option A :=
  match sliceElem P t, len, cap with
  | some e, .int _ l, .int _ c => match P.info? e with
    | some i => match zeroCells P e with
      | some z => gd (ile 0 l && ile l c && ile (c * i.bytes) 35184372088832 && Nat.ble 1 i.bytes && Nat.beq z.length i.size && Nat.ble 1 i.size)
          (k (.slice S.size 0 l.toNat c.toNat) (S.push (.cells (repeatL z c.toNat) (if z.all (XV.fits (.arr i.size)) then .arr i.size else .own))))
      | none => none
    | none => none
  | _, _, _ => none

/-- parts of two structs, one by one -/
def kEqFields (P : Program) (xs ys : List XV) : List Field → (Bool → Option A) → Option A
  | [], k => k true
  | f :: r, k =>
    if f.name ≠ "_" then
      match xpart P f.type xs f.offset, xpart P f.type ys f.offset with
      | some (.bool a), some (.bool b) => match P.underlying f.type with
        | some .bool => cond (a == b) (kEqFields P xs ys r k) (k false)
        | _ => none
      | some (.int ka a), some (.int kb b) => match P.underlying f.type with
        | some (.int _) => if ka = kb then cond (a == b) (kEqFields P xs ys r k) (k false) else none
        | _ => none
      | some (.str a), some (.str b) => match P.underlying f.type with
        | some .string => cond (a == b) (kEqFields P xs ys r k) (k false)
        | _ => none
      | _, _ => none
    else kEqFields P xs ys r k

def kbin (P : Program) (op : BinOp) (t : TypeId) (x y : XV) (k : XV → Option A) : Option A :=
  match op, x, y with
  | .shl, .int kd a, .int _ b => gd (ile 0 b) (k (.int kd (kd.wrap (a * 2 ^ (min b.toNat kd.bits)))))
  | .shr, .int kd a, .int _ b => gd (ile 0 b) (k (.int kd (a.fdiv (2 ^ (min b.toNat kd.bits)))))
  | .add, .str a, .str b => gd (Nat.ble (a.length + b.length) 9223372036854775807) (k (.str (a ++ b)))
  | op, .agg xs, .agg ys =>
    match P.underlying t with
    | some (.struct fs) =>
      if P.stoodInHeld t || P.eqGuardType P.depth t then none else
      match op with
      | .eql => kEqFields P xs ys fs.toList fun b => k (.bool b)
      | .neq => kEqFields P xs ys fs.toList fun b => k (.bool !b)
      | _ => none
    | _ => none
  | op, x, y => match xbin P op t x y with
    | some v => k v
    | none => none

/-- functions and loops that are known, told from their end -/
structure KOr (A : Type) where
  fn : FuncId → Option (List XV → (XV → Option A) → Option A)
  lp : Nat → Option (Tmps → XS → (XExit → Tmps → XS → Option A) → Option A)

def kcallf (call : XCallFn) (K : KOr A) (base : Nat) (g : FuncId) (args : List XV) (S : XS) (k : XV → XS → Option A) : Option A :=
  match K.fn g with
  | some F =>
    (if underAll 0 args then F args fun v => k v S
    else match hardAll (hard true S 50) args with
      | some as => F as fun v => cond v.lent none (k v S)
      | none => none)
  | none => match call g args base S with
    | some (v, S') => k v S'
    | none => none

def kstep (P : Program) (call : XCallFn) (K : KOr A) (base : Nat) (o : Oper) (T : Tmps) (S : XS) (k : XV → XS → Option A) : Option A :=
  match o.op with
  | .pick c a b => match evalX T c with
    | some (.bool v) => match evalX T a, evalX T b with
      | some x, some y => cond v (k x S) (k y S)
      | some x, none => cond v (k x S) none
      | none, some y => cond v none (k y S)
      | none, none => none
    | _ => none
  | .load t a => match evalX T a with
    | some p => kload P S t p fun v => k v S
    | none => none
  | .indexAddr t x i => match evalX T x, evalX T i with
    | some v, some j => kindexAddr P S t v j fun v => k v S
    | _, _ => none
  | .index t x i => match evalX T x, evalX T i with
    | some v, some j => kindex P t v j fun v => k v S
    | _, _ => none
  | .slice t x lo hi mx => match evalX T x, evalOpt T lo, evalOpt T hi, evalOpt T mx with
    | some v, some a, some b, some c => kslice P S t v a b c fun v => k v S
    | _, _, _, _ => none
  | .binOp op t x y _ => match evalX T x, evalX T y with
    | some a, some b => kbin P op t a b fun v => k v S
    | _, _ => none
  | .convert src dst x => match evalX T x with
    | some a => kconvert P S src dst a k
    | none => none
  | .makeSlice t l c => match evalX T l, evalX T c with
    | some a, some b => kmake P S t a b k
    | _, _ => none
  | .next x isString => if isString then match evalX T x with
      | some v => knext base S v k
      | none => none
    else none
  | .call c => match c.callee with
    | .value f => match evalX T f, evalAll T c.args.toList with
      | some (.func g caps), some xs => kcallf call K base g (xs ++ caps) S k
      | _, _ => none
    | .builtin .append => match c.argTypes.toList, evalAll T c.args.toList with
      | t :: t2, some [s, x] => match sliceElem P t, zerosT P t2.head? with
        | some e, some false => kappended P S e x fun new n => kappend P base S t s new n k
        | _, _ => none
      | _, _ => none
    | _ => match xop P base o T S with
      | some (v, S') => k v S'
      | none => none
  | _ => match xop P base o T S with
    | some (v, S') => k v S'
    | none => none

/-- an operation of a region of open order: it writes nothing that was -/
def kquiet (log : List (Nat × Nat)) (k : Option A) : Option A :=
  match log with
  | [] => k
  | _ => none

/-- by a guard: the way on, or past the operation; its temporary is known on either way -/
def kguard (ops : List Oper) (o : Oper) (T : Tmps) (run skip : Tmps → Option A) : Option A :=
  match o.guard with
  | none => run T
  | some (j, want) => match (ops[j]?).bind (·.dst) with
    | none => skip T
    | some d => match tget T d with
      | .bool b => (match want with
        | true => cond b (run (tset T d (.bool true))) (skip (tset T d (.bool false)))
        | false => cond b (skip (tset T d (.bool true))) (run (tset T d (.bool false))))
      | .dead => none
      | _ => skip T

def kops (P : Program) (call : XCallFn) (K : KOr A) (draw : Bool) (base : Nat) (ops : List Oper) : List Oper → Tmps → XS → (Tmps → XS → Option A) → Option A
  | [], T, S, k => k T S
  | o :: rest, T, S, k => kguard ops o T
    (fun T => match draw with
      | false => kstep P call K base o T S fun v S' => kops P call K draw base ops rest (putX T o.dst v) S' k
      | true => kstep P call K S.size o T { S with log := [] } fun v S' => kquiet S'.log (kops P call K draw base ops rest (putX T o.dst v) S' k))
    (fun T => kops P call K draw base ops rest (putX T o.dst (.tuple [])) S k)

def kcode (P : Program) (call : XCallFn) (K : KOr A) (lv : Lives) (fuel base : Nat) : Code → Tmps → XS → (XExit → Tmps → XS → Option A) → Option A
  | .skip, T, S, k => k .normal T S
  | .region _ ops draw, T, S, k => match draw with
    | false => kops P call K false base ops.toList ops.toList T S fun T' S' => k .normal T' S'
    | true => kops P call K true base ops.toList ops.toList T S fun T' S' => k .normal T' { S' with log := S.log }
  | .seq a b, T, S, k => kcode P call K lv fuel base a T S fun e T' S' => match e with
    | .normal => kcode P call K lv fuel base b T' S' k
    | .exit id => k (.exit id) T' S'
    | .ret => k .ret T' S'
  | .cond c a b, T, S, k => match evalX T c with
    | some (.bool v) => cond v (kcode P call K lv fuel base a T S k) (kcode P call K lv fuel base b T S k)
    | _ => none
  | .block id c, T, S, k => kcode P call K lv fuel base c T S fun e T' S' => match e with
    | .exit id' => cond (Nat.beq id' id) (k .normal T' S') (k (.exit id') T' S')
    | .normal => k .normal T' S'
    | .ret => k .ret T' S'
  | .loop c, T, S, k => match headPr lv base c T S with
    | some (T0, S0) => match K.lp (headId c) with
      | some g => g T0 S0 k
      | none => none
    | none => none
  | .exit id, T, S, k => k (.exit id) T S
  | .ret, T, S, k => k .ret T S
  | _, _, _, _ => none

end
end
end Go.XM
