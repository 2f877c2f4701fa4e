/- A plain machine beside the model, and that what it tells the model does: part XF. Conditions: those of each theorem below. -/
import Derived.Test.YtdbmldhfoifpnaaDoorXE
import Derived.ReadAgain
import Derived.ChangeSame
import Derived.Below
namespace Go.XM
set_option linter.unusedVariables false
set_option linter.unusedSimpArgs false
set_option linter.unusedVariables false
noncomputable section

/-! ### the plain machine, told from its end: what is open stands as a choice, a guard, a reading -/
section
variable {A : Type}

/-- a guard -/
def gd (b : Bool) (k : Option A) : Option A := cond b k none
def rdI (kd : IntKind) (cs : List XV) (o : Nat) (k : Int → Option A) : Option A :=
  match cs[o]? with
  | some (.int kd' n) => cond (decide (kd' = kd)) (k n) none
  | _ => none
def rdB (cs : List XV) (o : Nat) (k : Bool → Option A) : Option A :=
  match cs[o]? with
  | some (.bool b) => k b
  | _ => none
def rdS (cs : List XV) (o : Nat) (k : List UInt8 → Option A) : Option A :=
  match cs[o]? with
  | some (.str s) => k s
  | _ => none
def rdR (cs : List XV) (o : Nat) (k : Bool → Bool → List XV → Nat → Option A) : Option A :=
  match cs[o]? with
  | some (.row t m c n) => k t m c n
  | _ => none

/-- a thing of any kind: a whole number, a text, a truth, or none -/
def rdA (cs : List XV) (o : Nat) (ki : TypeId → Int → Option A) (ks : TypeId → List UInt8 → Option A) (kb : TypeId → Bool → Option A) (kn : Option A) : Option A :=
  match cs[o]? with
  | some (.iface t (.int .i64 n)) => ki t n
  | some (.iface t (.str s)) => ks t s
  | some (.iface t (.bool b)) => kb t b
  | some .nilIface => kn
  | _ => none

def kcell (z : XV) (cs : List XV) (o : Nat) (k : XV → Option A) : Option A :=
  match z with
  | .int kd _ => rdI kd cs o fun n => k (.int kd n)
  | .bool _ => rdB cs o fun b => k (.bool b)
  | .str _ => rdS cs o fun s => k (.str s)
  | .nilSlice => rdR cs o fun t m c n => k (.row t m c n)
  | .nilIface => rdA cs o (fun t n => k (.iface t (.int .i64 n))) (fun t s => k (.iface t (.str s))) (fun t b => k (.iface t (.bool b))) (k .nilIface)
  | _ => match cellAt cs o with
    | some v => k v
    | none => none

def kcells (cs : List XV) : (zs : List XV) → (o : Nat) → (List XV → Option A) → Option A
  | [], _, k => k []
  | z :: r, o, k => kcell z cs o fun v => kcells cs r (o + 1) fun l => k (v :: l)

def kread (P : Program) (t : TypeId) (cs : List XV) (o : Nat) (k : XV → Option A) : Option A :=
  match tagg P t, tsize P t, zeroCells P t with
  | some true, some n, some zs => cond (zs.length == n) (kcells cs zs o fun l => k (.agg l)) none
  | some false, _, some [z] => kcell z cs o k
  | _, _, _ => none

def kload (P : Program) (S : XS) (t : TypeId) (p : XV) (k : XV → Option A) : Option A :=
  match p with
  | .rptr _ cs o => kread P t cs o k
  | .ptr b o => match S.get b with
    | .cells cs kd => match kd.flat with
      | true => kread P t cs o k
      | false => match xload P S t (.ptr b o) with
        | some v => k v
        | none => none
    | _ => none
  | _ => none

/-- is a number below a bound, and not below naught? -/
def within (i : Int) (n : Nat) : Bool := ile 0 i && ilt i (Int.ofNat n)
def upto (i : Int) (n : Nat) : Bool := ile 0 i && ile i (Int.ofNat n)

def kindexAddr (P : Program) (S : XS) (t : TypeId) (x ix : XV) (k : XV → Option A) : Option A :=
  match P.underlying t, x, ix with
  | some (.slice e), x, .int _ i => match tsize P e with
    | some n => match x with
      | .slice b o len _ => gd (within i len) (k (.ptr b (o + i.toNat * n)))
      | .part b o len => gd (within i len) (k (.ptr b (o + i.toNat * n)))
      | .sl b => match S.get b with
        | .cells _ (.loose _ len) => gd (within i len) (k (.ptr b (i.toNat * n)))
        | _ => none
      | .row t _ cs len => gd (within i len) (k (.rptr t cs (i.toNat * n)))
      | _ => none
    | none => none
  | _, _, _ => match xindexAddr P S t x ix with
    | some v => k v
    | none => none

def kindex (P : Program) (t : TypeId) (x ix : XV) (k : XV → Option A) : Option A :=
  match P.underlying t, x, ix with
  | some .string, .str s, .int _ i => gd (ile 0 i) (match s[i.toNat]? with
      | some b => k (.int .u8 b.toNat)
      | none => none)
  | _, _, _ => match xindex P t x ix with
    | some v => k v
    | none => none

/-- the bounds of a cut, one by one -/
def kbound (v : XV) (y : Nat) (k : Nat → Option A) : Option A :=
  match v with
  | .int _ i => gd (upto i y) (k i.toNat)
  | _ => none
def kb3 (low : Option XV) (m h : Nat) (k : Nat → Nat → Nat → Option A) : Option A :=
  match low with
  | some v => kbound v h fun l => k l h m
  | none => k 0 h m
def kb2 (len : Nat) (low high : Option XV) (hasMax : Bool) (m : Nat) (k : Nat → Nat → Nat → Option A) : Option A :=
  match high with
  | some v => kbound v m fun h => kb3 low m h k
  | none => match hasMax with
    | true => none
    | false => kb3 low m len k
def kbounds (len cap : Nat) (low high max : Option XV) (k : Nat → Nat → Nat → Option A) : Option A :=
  match max with
  | some v => kbound v cap fun m => kb2 len low high true m k
  | none => kb2 len low high false cap k

def kslicePart (n b o len : Nat) (low high max : Option XV) (k : XV → Option A) : Option A :=
  match max with
  | none => kbounds len len low high none fun l h _ => k (.part b (o + l * n) (h - l))
  | some v => kbounds len len low high (some v) fun l h m => k (.slice b (if m = l then o else o + l * n) (h - l) (m - l))

def kslice (P : Program) (S : XS) (t : TypeId) (x : XV) (low high max : Option XV) (k : XV → Option A) : Option A :=
  match x with
  | .str s =>
    if isStrT P t && max.isNone then kbounds s.length s.length low high none fun l h _ => k (.str ((s.take h).drop l))
    else none
  | .sl b =>
    match sliceElem P t with
    | some e => match tsize P e with
      | some n =>
        if low.isNone && high.isNone && max.isNone then k (.sl b) else
        match S.get b with
        | .cells _ (.loose _ len) => kslicePart n b 0 len low high max k
        | _ => none
      | none => none
    | none => none
  | .part b o len =>
    match sliceElem P t with
    | some e => match tsize P e with
      | some n => kslicePart n b o len low high max k
      | none => none
    | none => none
  | .row t' mm cs len =>
    match sliceElem P t with
    | some e => match tsize P e with
      | some n => kbounds len len low high max fun l h m => k (.row t' (match max with | some _ => h == m | none => mm && h == len) ((cs.drop (l * n)).take ((h - l) * n)) (h - l))
      | none => none
    | none => none
  | x => match xslice P S t x low high max with
    | some v => k v
    | none => none

def knext (base : Nat) (S : XS) (x : XV) (k : XV → XS → Option A) : Option A :=
  match x with
  | .ptr b 0 => match S.get b with
    | .iter s pos => cond (Nat.ble (pos + 1) s.length)
        (k (.tuple [.bool true, .int .i64 pos, .int .i32 ((decL (s.drop pos)).1 : Nat)]) ((S.put b (.iter s (pos + (decL (s.drop pos)).2))).note base b 0))
        (k (.tuple [.bool false]) S)
    | _ => none
  | _ => none

/-- small enough to be made -/
def fitsB (n bytes : Nat) : Bool := Nat.ble (n * bytes) 35184372088832

def kappended (P : Program) (S : XS) (e : TypeId) (x : XV) (k : List XV → Nat → Option A) : Option A :=
  match tsize P e with
  | none => none
  | some size => match x with
    | .sl b => match S.get b with
      | .cells cs (.loose esz n) => gd (Nat.beq esz size && cs.all XV.live) (k cs n)
      | _ => none
    | .row _ _ cs n => gd (Nat.beq cs.length (n * size) && cs.all XV.live) (k cs n)
    | x => match xappended P S e false x with
      | some (new, n) => k new n
      | none => none

def kappend (P : Program) (base : Nat) (S : XS) (t : TypeId) (s : XV) (new : List XV) (n : Nat) (k : XV → XS → Option A) : Option A :=
  match sliceElem P t with
  | some e => match P.info? e with
    | some i => gd (!(Nat.beq i.size 0) && !(Nat.beq i.bytes 0) && Nat.beq new.length (n * i.size) && zeroOK P e i.size)
      (match s with
      | .nilSlice => cond (Nat.beq n 0) (k .nilSlice S) (gd (fitsB n i.bytes) (k (.sl S.size) (S.push (.cells new (.loose i.size n)))))
      | .sl b => cond (Nat.beq n 0) (k (.sl b) S)
        (match S.get b with
        | .cells cs (.loose esz m) => gd (Nat.beq esz i.size && fitsB (m + n) i.bytes)
            (k (.sl S.size) ((S.kill base b (cs.length + 1)).push (.cells (cs ++ new) (.loose esz (m + n)))))
        | _ => none)
      | .row t' m cs len => cond (Nat.beq n 0) (k (.row t' m cs len) S)
          (gd (m && Nat.beq cs.length (len * i.size) && fitsB (len + n) i.bytes) (k (.sl S.size) (S.push (.cells (cs ++ new) (.loose i.size (len + n))))))
      | .slice b o len cap => (match Nat.beq len cap with
        | true => cond (Nat.beq n 0) (k (.slice b o len cap) S) (gd (fitsB (len + n) i.bytes) (match S.get b with
          | .cells _ kd => (match S.cellsFrom b o (len * i.size) with
            | some old => (match okCells kd old with
              | true => k (.sl S.size) (S.push (.cells (old ++ new) (.loose i.size (len + n))))
              | false => none)
            | none => none)
          | _ => none))
        | false => match xappend P base S t (.slice b o len cap) new n with
          | some (v, S') => k v S'
          | none => none)
      | s => match xappend P base S t s new n with
        | some (v, S') => k v S'
        | none => none)
    | none => none
  | none => none

def kconvert (P : Program) (S : XS) (src dst : TypeId) (x : XV) (k : XV → XS → Option A) : Option A :=
  match x with
  | .row t m cs len =>
    if (P.underlying src).isNone then none else
    match sliceElem P src with
    | some e => if isStrT P dst && isU8 P e then gd (Nat.beq cs.length len) (match allBytes cs with | some l => k (.str l) S | none => none) else none
    | none => none
  | .sl b =>
    if (P.underlying src).isNone then none else
    match sliceElem P src with
    | some e => if isStrT P dst && isU8 P e then (match S.get b with
      | .cells cs (.loose esz _) => gd (Nat.beq esz 1) (match allBytes cs with | some l => k (.str l) S | none => none)
      | _ => none) else none
    | none => none
  | x => match xconvert P S src dst x with
    | some (v, S') => k v S'
    | none => none

def kmake (P : Program) (S : XS) (t : TypeId) (len cap : XV) (k : XV → XS → Option A) : Option A :=
  match sliceElem P t, len, cap with
  | some e, .int _ l, .int _ c => match P.info? e with
    | some i => match zeroCells P e with
      | some z => gd (ile 0 l && ile l c && ile (c * i.bytes) 35184372088832 && Nat.ble 1 i.bytes && Nat.beq z.length i.size && Nat.ble 1 i.size)
          (k (.slice S.size 0 l.toNat c.toNat) (S.push (.cells (repeatL z c.toNat) (if z.all (XV.fits (.arr i.size)) then .arr i.size else .own))))
      | none => none
    | none => none
  | _, _, _ => none

def kassert (P : Program) (x : XV) (asserted : TypeId) (ok : Bool) (k : XV → Option A) : Option A :=
  match x with
  | .iface t v => match plainT P asserted with
    | true => cond (Nat.beq t asserted) (k (match ok with | true => .tuple [v, .bool true] | false => v)) (match assertFails P asserted ok with
      | some u => k u
      | none => none)
    | false => none
  | x => match xassert P x asserted ok with
    | some u => k u
    | none => none

/-- parts of two structs, one by one -/
def kEqFields (P : Program) (xs ys : List XV) : List Field → (Bool → Option A) → Option A
  | [], k => k true
  | f :: r, k =>
    if f.name ≠ "_" then
      match xpart P f.type xs f.offset, xpart P f.type ys f.offset with
      | some (.bool a), some (.bool b) => match P.underlying f.type with
        | some .bool => cond (a == b) (kEqFields P xs ys r k) (k false)
        | _ => none
      | some (.int ka a), some (.int kb b) => match P.underlying f.type with
        | some (.int _) => if ka = kb then cond (a == b) (kEqFields P xs ys r k) (k false) else none
        | _ => none
      | some (.str a), some (.str b) => match P.underlying f.type with
        | some .string => cond (a == b) (kEqFields P xs ys r k) (k false)
        | _ => none
      | _, _ => none
    else kEqFields P xs ys r k

def kbin (P : Program) (op : BinOp) (t : TypeId) (x y : XV) (k : XV → Option A) : Option A :=
  match op, x, y with
  | .shl, .int kd a, .int _ b => gd (ile 0 b) (k (.int kd (kd.wrap (a * 2 ^ (min b.toNat kd.bits)))))
  | .shr, .int kd a, .int _ b => gd (ile 0 b) (k (.int kd (a.fdiv (2 ^ (min b.toNat kd.bits)))))
  | .add, .str a, .str b => gd (Nat.ble (a.length + b.length) 9223372036854775807) (k (.str (a ++ b)))
  | op, .agg xs, .agg ys =>
    match P.underlying t with
    | some (.struct fs) =>
      if P.stoodInHeld t || P.eqGuardType P.depth t then none else
      match op with
      | .eql => kEqFields P xs ys fs.toList fun b => k (.bool b)
      | .neq => kEqFields P xs ys fs.toList fun b => k (.bool !b)
      | _ => none
    | _ => none
  | op, x, y => match xbin P op t x y with
    | some v => k v
    | none => none

/-- functions and loops that are known, told from their end -/
structure KOr (A : Type) where
  fn : FuncId → Option (List XV → (XV → Option A) → Option A)
  lp : Nat → Option (Tmps → XS → (XExit → Tmps → XS → Option A) → Option A)
  ic : FuncId → Option (List XV → Nat → XS → (XV → XS → Option A) → Option A)

def kcallf (call : XCallFn) (K : KOr A) (base : Nat) (g : FuncId) (args : List XV) (S : XS) (k : XV → XS → Option A) : Option A :=
  match K.fn g with
  | some F =>
    (if underAll 0 args then F args fun v => k v S
    else match hardAll (hard true S 50) args with
      | some aa => F aa fun v => cond v.lent none (k v S)
      | none => none)
  | none => match K.ic g with
    | some F => F args base S k
    | none => match call g args base S with
      | some (v, S') => k v S'
      | none => none

def kstep (P : Program) (call : XCallFn) (K : KOr A) (base : Nat) (o : Oper) (T : Tmps) (S : XS) (k : XV → XS → Option A) : Option A :=
  match o.op with
  | .pick c a b => match evalX T c with
    | some (.bool v) => match evalX T a, evalX T b with
      | some x, some y => cond v (k x S) (k y S)
      | some x, none => cond v (k x S) none
      | none, some y => cond v none (k y S)
      | none, none => none
    | _ => none
  | .load t a => match evalX T a with
    | some p => kload P S t p fun v => k v S
    | none => none
  | .indexAddr t x i => match evalX T x, evalX T i with
    | some v, some j => kindexAddr P S t v j fun v => k v S
    | _, _ => none
  | .index t x i => match evalX T x, evalX T i with
    | some v, some j => kindex P t v j fun v => k v S
    | _, _ => none
  | .slice t x lo hi mx => match evalX T x, evalOpt T lo, evalOpt T hi, evalOpt T mx with
    | some v, some a, some b, some c => kslice P S t v a b c fun v => k v S
    | _, _, _, _ => none
  | .binOp op t x y _ => match evalX T x, evalX T y with
    | some a, some b => kbin P op t a b fun v => k v S
    | _, _ => none
  | .convert src dst x => match evalX T x with
    | some a => kconvert P S src dst a k
    | none => none
  | .typeAssert x _ t ok => match evalX T x with
    | some v => kassert P v t ok fun v => k v S
    | none => none
  | .makeSlice t l c => match evalX T l, evalX T c with
    | some a, some b => kmake P S t a b k
    | _, _ => none
  | .next x isString => if isString then match evalX T x with
      | some v => knext base S v k
      | none => none
    else none
  | .call c => match c.callee with
    | .value f => match evalX T f, evalAll T c.args.toList with
      | some (.func g caps), some xs => kcallf call K base g (xs ++ caps) S k
      | _, _ => none
    | .builtin .append => match c.argTypes.toList, evalAll T c.args.toList with
      | t :: t2, some [s, x] => match sliceElem P t, zerosT P t2.head? with
        | some e, some false => kappended P S e x fun new n => kappend P base S t s new n k
        | _, _ => none
      | _, _ => none
    | _ => match xop P base o T S with
      | some (v, S') => k v S'
      | none => none
  | _ => match xop P base o T S with
    | some (v, S') => k v S'
    | none => none

/-- an operation of a region of open order: it writes nothing that was -/
def kquiet (log : List (Nat × Nat)) (k : Option A) : Option A :=
  match log with
  | [] => k
  | _ => none

/-- by a guard: the way on, or past the operation; its temporary is known on either way -/
def kguard (ops : List Oper) (o : Oper) (T : Tmps) (run skip : Tmps → Option A) : Option A :=
  match o.guard with
  | none => run T
  | some (j, want) => match (ops[j]?).bind (·.dst) with
    | none => skip T
    | some d => match tget T d with
      | .bool b => (match want with
        | true => cond b (run (tset T d (.bool true))) (skip (tset T d (.bool false)))
        | false => cond b (skip (tset T d (.bool true))) (run (tset T d (.bool false))))
      | .dead => none
      | _ => skip T

def kops (P : Program) (call : XCallFn) (K : KOr A) (draw : Bool) (base : Nat) (ops : List Oper) : List Oper → Tmps → XS → (Tmps → XS → Option A) → Option A
  | [], T, S, k => k T S
  | o :: rest, T, S, k => kguard ops o T
    (fun T => match draw with
      | false => kstep P call K base o T S fun v S' => kops P call K draw base ops rest (putX T o.dst v) S' k
      | true => kstep P call K S.size o T { S with log := [] } fun v S' => kquiet S'.log (kops P call K draw base ops rest (putX T o.dst v) S' k))
    (fun T => kops P call K draw base ops rest (putX T o.dst (.tuple [])) S k)

/-- an operation that no heap matters to -/
def freeOp (o : Oper) (T : Tmps) : Bool := match o.op with
  | .move _ | .assign _ | .pick _ _ _ | .nilCheck _ | .binOp _ _ _ _ _ | .unOp _ _ _ | .makeInterface _ _ | .fieldAddr _ _ _ | .field _ _ _ | .index _ _ _ | .typeAssert _ _ _ _ | .extract _ _ | .build _ _ => true
  | .slice _ x _ _ _ => match evalX T x with
    | some (.row _ _ _ _) => true
    | some (.str _) => true
    | _ => false
  | .convert _ _ x => match evalX T x with
    | some (.row _ _ _ _) => true
    | some (.int _ _) => true
    | _ => false
  | _ => false

def klook (P : Program) (call : XCallFn) (K : KOr A) (ops : List Oper) : List Oper → Tmps → XS → (Tmps → XS → List (List (Nat × Nat)) → Option A) → Option A
  | [], T, S, k => k T S []
  | o :: rest, T, S, k => kguard ops o T
    (fun T => kstep P call K S.size o T { S with log := [] } fun v S' => klook P call K ops rest (putX T o.dst v) S' fun T2 S2 ws => k T2 S2 (S'.log :: ws))
    (fun T => klook P call K ops rest (putX T o.dst (.tuple [])) S fun T2 S2 ws => k T2 S2 ([] :: ws))

def kopsW (P : Program) (call : XCallFn) (K : KOr A) (ops : List Oper) (pr : List (List Nat)) (Wd : List (List (Nat × Nat))) : Nat → List Oper → Tmps → XS → (Tmps → XS → List (List (Nat × Nat)) → Option A) → Option A
  | _, [], T, S, k => k T S []
  | i, o :: rest, T, S, k => kguard ops o T
    (fun T => match freeOp o T with
      | true => kstep P call K S.size o T S fun v _ => kopsW P call K ops pr Wd (i + 1) rest (putX T o.dst v) S fun T2 S2 ws => k T2 S2 ([] :: ws)
      | false => kstep P call K S.size o T { S.poison (openW pr Wd i) with log := [] } fun v S' =>
        gd (S'.log.all (fun p => (Wd.getD i []).contains p && !(openW pr Wd i).contains p))
          (kopsW P call K ops pr Wd (i + 1) rest (putX T o.dst v) { XS.restore S S' (openW pr Wd i) with log := S.log } fun T2 S2 ws => k T2 S2 (S'.log :: ws)))
    (fun T => kopsW P call K ops pr Wd (i + 1) rest (putX T o.dst (.tuple [])) S fun T2 S2 ws => k T2 S2 ([] :: ws))

/-- a region of open order: a first look; where something that was is written, once more -/
def kdraw (P : Program) (call : XCallFn) (K : KOr A) (base : Nat) (ops : List Oper) (T : Tmps) (S : XS) (k : Tmps → XS → Option A) : Option A :=
  klook P call K ops ops T S fun T1 S1 Wd => match Wd.all List.isEmpty with
    | true => k T1 { S1 with log := S.log }
    | false => kopsW P call K ops (predsOf ops) Wd 0 ops T S fun T' S' ws => k T' { S' with log := (ws.flatten.filter fun p => p.1 < base) ++ S.log }

def kcode (P : Program) (call : XCallFn) (K : KOr A) (lv : Lives) (fuel base : Nat) : Code → Tmps → XS → (XExit → Tmps → XS → Option A) → Option A
  | .skip, T, S, k => k .normal T S
  | .region _ ops draw, T, S, k => match draw with
    | false => kops P call K false base ops.toList ops.toList T S fun T' S' => k .normal T' S'
    | true => kdraw P call K base ops.toList T S fun T' S' => k .normal T' S'
  | .seq a b, T, S, k => kcode P call K lv fuel base a T S fun e T' S' => match e with
    | .normal => kcode P call K lv fuel base b T' S' k
    | .exit id => k (.exit id) T' S'
    | .ret => k .ret T' S'
  | .cond c a b, T, S, k => match evalX T c with
    | some (.bool v) => cond v (kcode P call K lv fuel base a T S k) (kcode P call K lv fuel base b T S k)
    | _ => none
  | .block id c, T, S, k => kcode P call K lv fuel base c T S fun e T' S' => match e with
    | .exit id' => cond (Nat.beq id' id) (k .normal T' S') (k (.exit id') T' S')
    | .normal => k .normal T' S'
    | .ret => k .ret T' S'
  | .loop c, T, S, k => match headPr lv base c T S with
    | some (T0, S0) => match K.lp (headId c) with
      | some g => g T0 S0 k
      | none => none
    | none => none
  | .exit id, T, S, k => k (.exit id) T S
  | .ret, T, S, k => k .ret T S
  | _, _, _, _ => none

end
end
end Go.XM

namespace Go.XM
set_option linter.unusedVariables false
set_option linter.unusedSimpArgs false
set_option linter.unusedVariables false

/-! ### more fuel tells the same -/
section
variable {P : Program}

def CallLe (c c' : XCallFn) : Prop := ∀ f args base S r, c f args base S = some r → c' f args base S = some r
theorem CallLe.refl (c : XCallFn) : CallLe c c := fun _ _ _ _ _ h => h

variable {call call' : XCallFn}

theorem xstep_mono (hc : CallLe call call') {base : Nat} {o : Oper} {T : Tmps} {S : XS} {r : XV × XS} (h : xstep P call base o T S = some r) : xstep P call' base o T S = some r := by
  unfold xstep at h ⊢
  split at h
  · split at h
    · split at h
      · exact hc _ _ _ _ _ h
      · cases h
    · exact h
  · exact h

theorem xops_mono (hc : CallLe call call') {base : Nat} {ops : List Oper} : ∀ (l : List Oper) (T : Tmps) (S : XS) (r : Tmps × XS), xops P call base ops l T S = some r → xops P call' base ops l T S = some r
  | [], T, S, r, h => h
  | o :: l, T, S, r, h => by
    simp only [xops] at h ⊢
    split at h
    · split at h
      · rename_i v S' hs
        rw [xstep_mono hc hs]
        exact xops_mono hc l _ _ _ h
      · cases h
    · exact xops_mono hc l _ _ _ h
    · cases h

theorem xlook_mono (hc : CallLe call call') {ops : List Oper} : ∀ (l : List Oper) (T : Tmps) (S : XS) (r : Tmps × XS × List (List (Nat × Nat))), xlook P call ops l T S = some r → xlook P call' ops l T S = some r
  | [], T, S, r, h => h
  | o :: l, T, S, r, h => by
    simp only [xlook] at h ⊢
    split at h
    · split at h
      · rename_i v S' hs
        rw [xstep_mono hc hs]
        simp only
        split at h
        · rename_i T2 S2 ws hl
          rw [xlook_mono hc l _ _ _ hl]
          exact h
        · cases h
      · cases h
    · split at h
      · rename_i T2 S2 ws hl
        rw [xlook_mono hc l _ _ _ hl]
        exact h
      · cases h
    · cases h

theorem xopsW_mono (hc : CallLe call call') {ops : List Oper} {pr : List (List Nat)} {Wd : List (List (Nat × Nat))} : ∀ (l : List Oper) (i : Nat) (T : Tmps) (S : XS) (r : Tmps × XS × List (List (Nat × Nat))), xopsW P call ops pr Wd i l T S = some r → xopsW P call' ops pr Wd i l T S = some r
  | [], i, T, S, r, h => h
  | o :: l, i, T, S, r, h => by
    simp only [xopsW] at h ⊢
    split at h
    · split at h
      · rename_i v S' hs
        rw [xstep_mono hc hs]
        simp only
        split at h
        · rename_i hall
          rw [if_pos hall]
          split at h
          · rename_i T2 S2 ws hl
            rw [xopsW_mono hc l _ _ _ _ hl]
            exact h
          · cases h
        · cases h
      · cases h
    · split at h
      · rename_i T2 S2 ws hl
        rw [xopsW_mono hc l _ _ _ _ hl]
        exact h
      · cases h
    · cases h

theorem xdraw_mono (hc : CallLe call call') {base : Nat} {ops : List Oper} {T : Tmps} {S : XS} {r : Tmps × XS} (h : xdraw P call base ops T S = some r) : xdraw P call' base ops T S = some r := by
  unfold xdraw at h ⊢
  split at h
  · cases h
  · rename_i T1 S1 Wd hl
    rw [xlook_mono hc _ _ _ _ hl]
    simp only
    split at h
    · rename_i hq
      rw [if_pos hq]; exact h
    · rename_i hq
      rw [if_neg hq]
      split at h
      · rename_i T' S' ws hw
        rw [xopsW_mono hc _ _ _ _ _ hw]
        exact h
      · cases h

theorem xcode_mono (hc : CallLe call call') {lv : Lives} {m n base : Nat} (hmn : m ≤ n) : ∀ (c : Code) (T : Tmps) (S : XS) (r : XExit × Tmps × XS), xcode P call lv m base c T S = some r → xcode P call' lv n base c T S = some r := by
  intro c
  induction c with
  | skip => intro T S r h; exact h
  | region id ops draw =>
    intro T S r h
    simp only [xcode] at h ⊢
    cases draw with
    | true =>
      simp only [if_true] at h ⊢
      split at h
      · rename_i T' S' hd
        rw [xdraw_mono hc hd]; exact h
      · cases h
    | false =>
      simp only [Bool.false_eq_true, if_false] at h ⊢
      split at h
      · rename_i T' S' hd
        rw [xops_mono hc _ _ _ _ hd]; exact h
      · cases h
  | seq a b iha ihb =>
    intro T S r h
    simp only [xcode] at h ⊢
    split at h
    · rename_i T' S' ha
      rw [iha _ _ _ ha]
      exact ihb _ _ _ h
    · rename_i hne
      rw [iha _ _ _ h]
      obtain ⟨e, T1, S1⟩ := r
      cases e with
      | normal => exact absurd h (hne _ _)
      | exit id => rfl
      | ret => rfl
  | cond c a b iha ihb =>
    intro T S r h
    simp only [xcode] at h ⊢
    split at h
    · exact iha _ _ _ h
    · exact ihb _ _ _ h
    · cases h
  | block id c ih =>
    intro T S r h
    simp only [xcode] at h ⊢
    split at h
    · rename_i id' T' S' hb
      rw [ih _ _ _ hb]
      exact h
    · rename_i hne
      rw [ih _ _ _ h]
      obtain ⟨e, T1, S1⟩ := r
      cases e with
      | normal => rfl
      | exit id => exact absurd h (hne _ _ _)
      | ret => rfl
  | loop c ih =>
    intro T S r h
    simp only [xcode] at h ⊢
    have key : ∀ (k k' : Nat), k ≤ k' → ∀ (T : Tmps) (S : XS), xloop (headPr lv base c) (xcode P call lv m base c) k T S = some r → xloop (headPr lv base c) (xcode P call' lv n base c) k' T S = some r := by
      intro k
      induction k with
      | zero => intro k' _ T S h; simp [xloop] at h
      | succ k ihk =>
        intro k' hk T S h
        obtain ⟨j, rfl⟩ : ∃ j, k' = j + 1 := ⟨k' - 1, by omega⟩
        simp only [xloop] at h ⊢
        split at h
        · cases h
        rename_i T0 S0 hp
        split at h
        · cases h
        · rename_i T1 S1 hb
          rw [ih _ _ _ hb]
          exact ihk j (by omega) _ _ h
        · rename_i e1 T1 S1 hne hb
          rw [ih _ _ _ hb]
          cases e1 with
          | normal => exact (hne rfl).elim
          | exit id => exact h
          | ret => exact h
    exact key m n hmn T S h
  | exit id => intro T S r h; exact h
  | ret => intro T S r h; exact h
  | rangeFunc f ps x y ihx ihy => intro T S r h; simp [xcode] at h
  | scope c ih => intro T S r h; simp [xcode] at h
  | label l => intro T S r h; simp [xcode] at h
  | goto l => intro T S r h; simp [xcode] at h
  | refuse why => intro T S r h; simp [xcode] at h

theorem xcall_mono {prim : XPrim} : ∀ {m n : Nat}, m ≤ n → CallLe (xcall P prim m) (xcall P prim n)
  | 0, n, _ => fun f args base S r h => by simp [xcall] at h
  | m + 1, n, hmn => fun f args base S r h => by
    obtain ⟨j, rfl⟩ : ∃ j, n = j + 1 := ⟨n - 1, by omega⟩
    have ih := xcall_mono (prim := prim) (m := m) (n := j) (by omega)
    unfold xcall at h ⊢
    split at h
    · cases h
    split at h
    · cases h
    split at h
    · cases h
    rename_i hname
    rw [if_neg hname]
    split at h
    · cases h
    rename_i hlen
    rw [if_neg hlen]
    split at h
    · exact h
    · split at h
      · rename_i e T S1 hcode
        rw [xcode_mono ih (by omega) _ _ _ _ hcode]
        exact h
      · cases h

/-- a loop from its head on -/
def loopC (pr : Tmps → XS → Option (Tmps × XS)) (body : Tmps → XS → Option (XExit × Tmps × XS)) : Nat → Tmps → XS → Option (XExit × Tmps × XS)
  | 0, _, _ => none
  | n + 1, T0, S0 => match body T0 S0 with
    | none => none
    | some (.normal, T', S') => (match pr T' S' with
      | some (T1, S1) => loopC pr body n T1 S1
      | none => none)
    | some (e, T', S') => match pr T' S' with
      | some (T2, S2) => some (e, T2, S2)
      | none => none

theorem xloop_head {pr : Tmps → XS → Option (Tmps × XS)} {body : Tmps → XS → Option (XExit × Tmps × XS)} : ∀ (n : Nat) (T : Tmps) (S : XS) (T0 : Tmps) (S0 : XS), pr T S = some (T0, S0) → xloop pr body n T S = loopC pr body n T0 S0
  | 0, T, S, T0, S0, h => rfl
  | n + 1, T, S, T0, S0, h => by
    simp only [xloop, loopC, h]
    cases hb : body T0 S0 with
    | none => rfl
    | some r =>
      obtain ⟨e, T', S'⟩ := r
      cases e with
      | normal =>
        simp only
        cases hp : pr T' S' with
        | none => cases n <;> simp [xloop, hp]
        | some q => exact xloop_head n T' S' q.1 q.2 hp
      | exit id => rfl
      | ret => rfl

end
end Go.XM

namespace Go.XM
set_option linter.unusedVariables false
set_option linter.unusedSimpArgs false
set_option linter.unusedVariables false
set_option linter.unusedSimpArgs false

section
variable {P : Program} {A : Type} {r : A}

theorem bleI (a b : Nat) : Nat.ble a b = true ↔ a ≤ b := by rw [Nat.ble_eq]
theorem beqI (a b : Nat) : Nat.beq a b = true ↔ a = b := by rw [Nat.beq_eq]
theorem gd_some {b : Bool} {k : Option A} (h : gd b k = some r) : b = true ∧ k = some r := by
  unfold gd at h
  cases b with
  | true => exact ⟨rfl, h⟩
  | false => cases h

theorem within_iff {i : Int} {n : Nat} : within i n = true ↔ 0 ≤ i ∧ i < n := by
  unfold within
  rw [ile_eq, ilt_eq, Bool.and_eq_true, decide_eq_true_eq, decide_eq_true_eq]
  rfl
theorem upto_iff {i : Int} {n : Nat} : upto i n = true ↔ 0 ≤ i ∧ i ≤ n := by
  unfold upto
  rw [ile_eq, ile_eq, Bool.and_eq_true, decide_eq_true_eq, decide_eq_true_eq]
  rfl

theorem kcell_sound {z : XV} {cs : List XV} {o : Nat} {k : XV → Option A} (h : kcell z cs o k = some r) : ∃ v, cellAt cs o = some v ∧ k v = some r := by
  have live : ∀ v, cs[o]? = some v → v.live = true → cellAt cs o = some v := fun v hv hl => by
    unfold cellAt; rw [hv]; simp [hl]
  unfold kcell at h
  split at h
  · unfold rdI at h
    split at h
    · rename_i kd' n hn
      obtain ⟨hc, h⟩ := gd_some h
      have he := of_decide_eq_true hc
      subst he
      exact ⟨_, live _ hn rfl, h⟩
    · cases h
  · unfold rdB at h
    split at h
    · rename_i b hn; exact ⟨_, live _ hn rfl, h⟩
    · cases h
  · unfold rdS at h
    split at h
    · rename_i b hn; exact ⟨_, live _ hn rfl, h⟩
    · cases h
  · unfold rdR at h
    split at h
    · rename_i hn; exact ⟨_, live _ hn rfl, h⟩
    · cases h
  · unfold rdA at h
    split at h
    · rename_i hn; exact ⟨_, live _ hn rfl, h⟩
    · rename_i hn; exact ⟨_, live _ hn rfl, h⟩
    · rename_i hn; exact ⟨_, live _ hn rfl, h⟩
    · rename_i hn; exact ⟨_, live _ hn rfl, h⟩
    · cases h
  · split at h
    · rename_i v hv; exact ⟨v, hv, h⟩
    · cases h

theorem kcells_sound {cs : List XV} : ∀ {zs : List XV} {o : Nat} {k : List XV → Option A}, kcells cs zs o k = some r → ∃ l, cellsL cs o zs.length = some l ∧ k l = some r
  | [], o, k, h => ⟨[], rfl, h⟩
  | z :: zs, o, k, h => by
    simp only [kcells] at h
    obtain ⟨v, hv, h⟩ := kcell_sound h
    obtain ⟨l, hl, h⟩ := kcells_sound h
    exact ⟨v :: l, by simp only [List.length_cons, cellsL, hv, hl], h⟩

theorem kread_sound {t : TypeId} {cs : List XV} {o : Nat} {k : XV → Option A} (h : kread P t cs o k = some r) :
    ∃ v, (match tagg P t with
      | some true => match tsize P t with
        | some n => match cellsL cs o n with
          | some l => some (.agg l)
          | none => none
        | none => none
      | some false => cellAt cs o
      | none => none) = some v ∧ k v = some r := by
  unfold kread at h
  split at h
  · rename_i n zs ht hn hz
    cases hq : (zs.length == n) with
    | false => rw [hq] at h; cases h
    | true =>
      rw [hq] at h
      have he : zs.length = n := by simpa using hq
      obtain ⟨l, hl, h⟩ := kcells_sound h
      refine ⟨.agg l, ?_, h⟩
      rw [ht, hn, ← he]
      simp only [hl]
  · rename_i _ z ht hz
    obtain ⟨v, hv, h⟩ := kcell_sound h
    exact ⟨v, by rw [ht]; exact hv, h⟩
  · cases h

theorem cell_of_get {S : XS} {b : Nat} {cs : List XV} {kd : XKind} (hg : S.get b = .cells cs kd) (o : Nat) : S.cell b o = cellAt cs o := by unfold XS.cell; rw [hg]
theorem cellsFrom_of_get {S : XS} {b : Nat} {cs : List XV} {kd : XKind} (hg : S.get b = .cells cs kd) : ∀ (n o : Nat), S.cellsFrom b o n = cellsL cs o n
  | 0, o => rfl
  | n + 1, o => by
    simp only [XS.cellsFrom, cellsL, cell_of_get hg, cellsFrom_of_get hg n (o + 1)]

theorem kload_sound {S : XS} {t : TypeId} {p : XV} {k : XV → Option A} (h : kload P S t p k = some r) : ∃ v, xload P S t p = some v ∧ k v = some r := by
  unfold kload at h
  split at h
  · obtain ⟨v, hv, h⟩ := kread_sound h
    exact ⟨v, by unfold xload; exact hv, h⟩
  · rename_i b o
    split at h
    · rename_i cs kd hg
      split at h
      · obtain ⟨v, hv, h⟩ := kread_sound h
        refine ⟨v, ?_, h⟩
        unfold xload
        simp only [cellsFrom_of_get hg, cell_of_get hg]
        exact hv
      · split at h
        · rename_i v hv; exact ⟨v, hv, h⟩
        · cases h
    · cases h
  · cases h

theorem kindexAddr_sound {S : XS} {t : TypeId} {x ix : XV} {k : XV → Option A} (h : kindexAddr P S t x ix k = some r) : ∃ v, xindexAddr P S t x ix = some v ∧ k v = some r := by
  unfold kindexAddr at h
  split at h
  · rename_i e kk i hu
    unfold xindexAddr
    rw [hu]
    simp only
    split at h
    · rename_i n hn
      rw [hn]
      simp only
      split at h
      · obtain ⟨hb, h⟩ := gd_some h
        refine ⟨_, ?_, h⟩
        simp only
        rw [if_pos (within_iff.1 hb)]
      · obtain ⟨hb, h⟩ := gd_some h
        refine ⟨_, ?_, h⟩
        simp only
        rw [if_pos (within_iff.1 hb)]
      · split at h
        · rename_i hg
          obtain ⟨hb, h⟩ := gd_some h
          refine ⟨_, ?_, h⟩
          simp only [hg]
          rw [if_pos (within_iff.1 hb)]
        · cases h
      · obtain ⟨hb, h⟩ := gd_some h
        refine ⟨_, ?_, h⟩
        simp only
        rw [if_pos (within_iff.1 hb)]
      · cases h
    · cases h
  · split at h
    · rename_i v hv; exact ⟨v, hv, h⟩
    · cases h

theorem kindex_sound {t : TypeId} {x ix : XV} {k : XV → Option A} (h : kindex P t x ix k = some r) : ∃ v, xindex P t x ix = some v ∧ k v = some r := by
  unfold kindex at h
  split at h
  · rename_i s kk i hu
    obtain ⟨hb, h⟩ := gd_some h
    rw [ile_eq, decide_eq_true_eq] at hb
    split at h
    · rename_i b hs
      refine ⟨_, ?_, h⟩
      unfold xindex
      rw [hu]
      simp only [hs]
      rw [if_pos hb]
    · cases h
  · split at h
    · rename_i v hv; exact ⟨v, hv, h⟩
    · cases h

theorem kbound_sound {v : XV} {y : Nat} {k : Nat → Option A} (h : kbound v y k = some r) : ∃ n, xbound v y = some n ∧ k n = some r := by
  unfold kbound at h
  split at h
  · obtain ⟨hb, h⟩ := gd_some h
    exact ⟨_, by unfold xbound; simp only; rw [if_pos (upto_iff.1 hb)], h⟩
  · cases h

theorem kbounds_sound {len cap : Nat} {low high max : Option XV} {k : Nat → Nat → Nat → Option A} (h : kbounds len cap low high max k = some r) : ∃ l hh m, xbounds len cap low high max = some (l, hh, m) ∧ k l hh m = some r := by
  have k3 : ∀ m hh, kb3 low m hh k = some r → ∃ l, (match low with | some v => xbound v hh | none => some 0) = some l ∧ k l hh m = some r := fun m hh h => by
    unfold kb3 at h
    split at h
    · exact kbound_sound h
    · exact ⟨0, rfl, h⟩
  unfold kbounds at h
  unfold xbounds
  cases max with
  | some v =>
    obtain ⟨m, q1, h⟩ := kbound_sound h
    simp only [q1]
    unfold kb2 at h
    cases high with
    | some vh =>
      obtain ⟨hh, q2, h⟩ := kbound_sound h
      obtain ⟨l, q3, h⟩ := k3 m hh h
      exact ⟨l, hh, m, by cases low <;> simp_all, h⟩
    | none => cases h
  | none =>
    simp only
    unfold kb2 at h
    cases high with
    | some vh =>
      obtain ⟨hh, q2, h⟩ := kbound_sound h
      obtain ⟨l, q3, h⟩ := k3 cap hh h
      exact ⟨l, hh, cap, by cases low <;> simp_all, h⟩
    | none =>
      obtain ⟨l, q3, h⟩ := k3 cap len h
      exact ⟨l, len, cap, by cases low <;> simp_all, h⟩

theorem kslicePart_sound {n b o len : Nat} {low high max : Option XV} {k : XV → Option A} (h : kslicePart n b o len low high max k = some r) : ∃ v, xslicePart n b o len low high max = some v ∧ k v = some r := by
  unfold kslicePart at h
  unfold xslicePart
  split at h
  · obtain ⟨l, hh, m, q, h⟩ := kbounds_sound h
    simp only [q]; exact ⟨_, rfl, h⟩
  · obtain ⟨l, hh, m, q, h⟩ := kbounds_sound h
    simp only [q]; exact ⟨_, rfl, h⟩

theorem kslice_sound {S : XS} {t : TypeId} {x : XV} {low high max : Option XV} {k : XV → Option A} (h : kslice P S t x low high max k = some r) : ∃ v, xslice P S t x low high max = some v ∧ k v = some r := by
  unfold kslice at h
  split at h
  · split at h
    · rename_i hc
      obtain ⟨l, hh, m, q, h⟩ := kbounds_sound h
      unfold xslice
      simp only
      rw [if_pos hc]
      simp only [q]; exact ⟨_, rfl, h⟩
    · cases h
  · split at h
    · rename_i e he
      split at h
      · rename_i n hn
        unfold xslice
        simp only [he, hn]
        split at h
        · rename_i hc
          rw [if_pos hc]; exact ⟨_, rfl, h⟩
        · rename_i hc
          rw [if_neg hc]
          split at h
          · rename_i hg
            simp only [hg]
            exact kslicePart_sound h
          · cases h
      · cases h
    · cases h
  · split at h
    · rename_i e he
      split at h
      · rename_i n hn
        unfold xslice
        simp only [he, hn]
        exact kslicePart_sound h
      · cases h
    · cases h
  · split at h
    · rename_i e he
      split at h
      · rename_i n hn
        obtain ⟨l, hh, m, q, h⟩ := kbounds_sound h
        unfold xslice
        simp only [he, hn, q]
        exact ⟨_, rfl, h⟩
      · cases h
    · cases h
  · split at h
    · rename_i v hv; exact ⟨v, hv, h⟩
    · cases h

theorem knext_sound {base : Nat} {S : XS} {x : XV} {k : XV → XS → Option A} (h : knext base S x k = some r) : ∃ v S', xnext base S x = some (v, S') ∧ k v S' = some r := by
  unfold knext at h
  split at h
  · split at h
    · rename_i s pos hg
      unfold xnext
      simp only [hg]
      cases hq : Nat.ble (pos + 1) s.length with
      | true =>
        rw [hq] at h
        have : pos < s.length := (bleI _ _).1 hq
        rw [if_pos this]; exact ⟨_, _, rfl, h⟩
      | false =>
        rw [hq] at h
        have : ¬ pos < s.length := by
          intro z
          have : Nat.ble (pos + 1) s.length = true := (bleI _ _).2 z
          rw [hq] at this; cases this
        rw [if_neg this]; exact ⟨_, _, rfl, h⟩
    · cases h
  · cases h

theorem fitsB_iff {n b : Nat} : fitsB n b = true ↔ n * b ≤ 35184372088832 := by unfold fitsB; exact bleI _ _

theorem kappended_sound {S : XS} {e : TypeId} {x : XV} {k : List XV → Nat → Option A} (h : kappended P S e x k = some r) : ∃ new n, xappended P S e false x = some (new, n) ∧ k new n = some r := by
  unfold kappended at h
  split at h
  · cases h
  · rename_i size hsz
    split at h
    · split at h
      · rename_i hg
        obtain ⟨hb, h⟩ := gd_some h
        simp only [Bool.and_eq_true, Nat.beq_eq] at hb
        refine ⟨_, _, ?_, h⟩
        unfold xappended
        simp only [hsz, Bool.false_eq_true, if_false, hg]
        rw [if_pos hb]
      · cases h
    · obtain ⟨hb, h⟩ := gd_some h
      simp only [Bool.and_eq_true, Nat.beq_eq] at hb
      refine ⟨_, _, ?_, h⟩
      unfold xappended
      simp only [hsz, Bool.false_eq_true, if_false]
      rw [if_pos hb]
    · split at h
      · rename_i new n hx; exact ⟨new, n, hx, h⟩
      · cases h

theorem kappend_sound {base : Nat} {S : XS} {t : TypeId} {s : XV} {new : List XV} {n : Nat} {k : XV → XS → Option A} (h : kappend P base S t s new n k = some r) : ∃ v S', xappend P base S t s new n = some (v, S') ∧ k v S' = some r := by
  unfold kappend at h
  split at h
  case h_2 => cases h
  rename_i e he
  split at h
  case h_2 => cases h
  rename_i i hi
  obtain ⟨hb, h⟩ := gd_some h
  simp only [Bool.and_eq_true, Bool.not_eq_true', Nat.beq_eq] at hb
  obtain ⟨⟨⟨b1, b2⟩, b3⟩, b4⟩ := hb
  have hcond : ¬ (i.size = 0 ∨ i.bytes = 0 ∨ new.length ≠ n * i.size ∨ ¬ zeroOK P e i.size) := by
    simp only [not_or, Decidable.not_not]
    refine ⟨fun q => ?_, fun q => ?_, b3, b4⟩
    · rw [q] at b1; cases b1
    · rw [q] at b2; cases b2
  have n0 : ∀ {x y : Option A}, cond (Nat.beq n 0) x y = some r → (n = 0 ∧ x = some r) ∨ (n ≠ 0 ∧ y = some r) := fun {x y} h => by
    cases hq : Nat.beq n 0 with
    | true => rw [hq] at h; exact .inl ⟨(beqI _ _).1 hq, h⟩
    | false => rw [hq] at h; exact .inr ⟨fun z => (by subst z; cases hq), h⟩
  unfold xappend
  simp only [he, hi]
  rw [if_neg hcond]
  split at h
  · simp only
    rcases n0 h with ⟨hn, h⟩ | ⟨hn, h⟩
    · rw [if_pos hn]; exact ⟨_, _, rfl, h⟩
    · obtain ⟨hf, h⟩ := gd_some h
      rw [if_neg hn, if_pos (fitsB_iff.1 hf)]; exact ⟨_, _, rfl, h⟩
  · simp only
    rcases n0 h with ⟨hn, h⟩ | ⟨hn, h⟩
    · rw [if_pos hn]; exact ⟨_, _, rfl, h⟩
    · rw [if_neg hn]
      split at h
      · rename_i hg
        obtain ⟨hf, h⟩ := gd_some h
        simp only [Bool.and_eq_true, Nat.beq_eq] at hf
        simp only [hg]
        rw [if_pos ⟨hf.1, fitsB_iff.1 hf.2⟩]; exact ⟨_, _, rfl, h⟩
      · cases h
  · simp only
    rcases n0 h with ⟨hn, h⟩ | ⟨hn, h⟩
    · rw [if_pos hn]; exact ⟨_, _, rfl, h⟩
    · obtain ⟨hf, h⟩ := gd_some h
      simp only [Bool.and_eq_true, Nat.beq_eq] at hf
      rw [if_neg hn, if_pos ⟨hf.1.1, hf.1.2, fitsB_iff.1 hf.2⟩]; exact ⟨_, _, rfl, h⟩
  · rename_i b o len cap
    split at h
    · rename_i hlc
      have hlc := (beqI _ _).1 hlc
      subst hlc
      simp only
      rcases n0 h with ⟨hn, h⟩ | ⟨hn, h⟩
      · rw [if_pos hn, if_pos (Nat.le_refl _)]; exact ⟨_, _, rfl, h⟩
      · obtain ⟨hf, h⟩ := gd_some h
        rw [if_neg hn, if_neg (by omega), if_pos (fitsB_iff.1 hf)]
        split at h
        case h_2 => cases h
        rename_i hg
        simp only [hg]
        split at h
        case h_2 => cases h
        rename_i old ho
        simp only [ho]
        split at h
        · rename_i hk
          rw [if_pos hk]; exact ⟨_, _, rfl, h⟩
        · cases h
    · split at h
      · rename_i v S' hx
        unfold xappend at hx
        simp only [he, hi] at hx
        rw [if_neg hcond] at hx
        exact ⟨v, S', hx, h⟩
      · cases h
  · split at h
    · rename_i v S' hx
      unfold xappend at hx
      simp only [he, hi] at hx
      rw [if_neg hcond] at hx
      cases hx
    · cases h

theorem kconvert_sound {S : XS} {src dst : TypeId} {x : XV} {k : XV → XS → Option A} (h : kconvert P S src dst x k = some r) : ∃ v S', xconvert P S src dst x = some (v, S') ∧ k v S' = some r := by
  unfold kconvert at h
  split at h
  · split at h
    · cases h
    rename_i hs
    split at h
    · rename_i e he
      split at h
      · rename_i hc
        obtain ⟨hb, h⟩ := gd_some h
        have hb' := (beqI _ _).1 hb
        split at h
        · rename_i l hl
          refine ⟨_, _, ?_, h⟩
          unfold xconvert
          rw [if_neg hs]
          simp only [he]
          rw [if_pos hc]
          simp only [rowOf]
          rw [if_pos hb']
          simp only [hl]
        · cases h
      · cases h
    · cases h
  · split at h
    · cases h
    rename_i hs
    split at h
    · rename_i e he
      split at h
      · rename_i hc
        split at h
        · rename_i hg
          obtain ⟨hb, h⟩ := gd_some h
          have hb' := (beqI _ _).1 hb
          split at h
          · rename_i l hl
            refine ⟨_, _, ?_, h⟩
            unfold xconvert
            rw [if_neg hs]
            simp only [he]
            rw [if_pos hc]
            simp only [rowOf, hg]
            rw [if_pos hb']
            simp only [hl]
          · cases h
        · cases h
      · cases h
    · cases h
  · split at h
    · rename_i v S' hx; exact ⟨v, S', hx, h⟩
    · cases h

theorem kassert_sound {x : XV} {t : TypeId} {ok : Bool} {k : XV → Option A} (h : kassert P x t ok k = some r) : ∃ v, xassert P x t ok = some v ∧ k v = some r := by
  unfold kassert at h
  split at h
  · rename_i t' v
    unfold xassert
    split at h
    · rename_i hp
      rw [if_pos hp]
      simp only
      cases hq : Nat.beq t' t with
      | true =>
        rw [hq] at h
        rw [if_pos ((beqI _ _).1 hq)]
        refine ⟨_, rfl, ?_⟩
        cases ok <;> exact h
      | false =>
        rw [hq] at h
        rw [if_neg (fun z => by rw [(beqI _ _).2 z] at hq; cases hq)]
        simp only [cond_false] at h
        split at h
        · rename_i u hu; exact ⟨u, hu, h⟩
        · cases h
    · cases h
  · split at h
    · rename_i u hu; exact ⟨u, hu, h⟩
    · cases h

theorem kmake_sound {S : XS} {t : TypeId} {len cap : XV} {k : XV → XS → Option A} (h : kmake P S t len cap k = some r) : ∃ v S', xmakeSlice P S t len cap = some (v, S') ∧ k v S' = some r := by
  unfold kmake at h
  split at h
  · rename_i e kl l kc c he
    split at h
    · rename_i i hi
      split at h
      · rename_i z hz
        obtain ⟨hb, h⟩ := gd_some h
        simp only [Bool.and_eq_true, ile_eq, decide_eq_true_eq, Nat.beq_eq, Nat.ble_eq] at hb
        obtain ⟨⟨⟨⟨⟨b1, b2⟩, b3⟩, b4⟩, b5⟩, b6⟩ := hb
        refine ⟨_, _, ?_, h⟩
        unfold xmakeSlice
        simp only [he, hi, hz]
        rw [if_pos ⟨b1, b2, b3, b4, b5, b6⟩]
      · cases h
    · cases h
  · cases h

theorem kEqFields_sound {d : Nat} {xs ys : List XV} : ∀ {fs : List Field} {k : Bool → Option A}, kEqFields P xs ys fs k = some r → ∃ b, xEqFields P (xEqIn P (d + 1)) xs ys fs = some b ∧ k b = some r
  | [], k, h => ⟨true, rfl, h⟩
  | f :: fs, k, h => by
    simp only [kEqFields] at h
    simp only [xEqFields]
    have fin : ∀ {c : Bool}, cond c (kEqFields P xs ys fs k) (k false) = some r → ∃ b, (match some c with | some true => xEqFields P (xEqIn P (d + 1)) xs ys fs | some false => some false | none => none) = some b ∧ k b = some r := fun {c} h => by
      cases c with
      | true => exact kEqFields_sound h
      | false => exact ⟨false, rfl, h⟩
    split at h
    · rename_i hn
      rw [if_pos hn]
      split at h
      · rename_i a b ha hb
        rw [ha, hb]
        simp only
        split at h
        · rename_i hu
          have := fin h
          simp only [xEqIn, hu]
          exact this
        · cases h
      · rename_i ka a kb b ha hb
        rw [ha, hb]
        simp only
        split at h
        · rename_i hu
          split at h
          · rename_i hk
            have := fin h
            simp only [xEqIn, hu]
            rw [if_pos hk]
            exact this
          · cases h
        · cases h
      · rename_i a b ha hb
        rw [ha, hb]
        simp only
        split at h
        · rename_i hu
          have := fin h
          simp only [xEqIn, hu]
          exact this
        · cases h
      · cases h
    · rename_i hn
      rw [if_neg hn]
      exact kEqFields_sound h

theorem kbin_sound {op : BinOp} {t : TypeId} {x y : XV} {k : XV → Option A} (h : kbin P op t x y k = some r) : ∃ v, xbin P op t x y = some v ∧ k v = some r := by
  unfold kbin at h
  split at h
  · obtain ⟨hb, h⟩ := gd_some h
    rw [ile_eq, decide_eq_true_eq] at hb
    simp only [xbin]
    rw [if_neg (by omega)]; exact ⟨_, rfl, h⟩
  · obtain ⟨hb, h⟩ := gd_some h
    rw [ile_eq, decide_eq_true_eq] at hb
    simp only [xbin]
    rw [if_neg (by omega)]; exact ⟨_, rfl, h⟩
  · obtain ⟨hb, h⟩ := gd_some h
    have hb' := (bleI _ _).1 hb
    simp only [xbin]
    rw [if_pos hb']; exact ⟨_, rfl, h⟩
  · rename_i op xs ys
    split at h
    · rename_i fs hu
      split at h
      · cases h
      rename_i hc
      split at h
      · obtain ⟨b, hb, h⟩ := kEqFields_sound (d := 98) h
        refine ⟨.bool b, ?_, h⟩
        simp only [xbin]
        have : xEqIn P 100 t (.agg xs) (.agg ys) = some b := by
          unfold xEqIn
          rw [hu]
          simp only
          rw [if_neg hc]
          exact hb
        rw [this]
      · obtain ⟨b, hb, h⟩ := kEqFields_sound (d := 98) h
        refine ⟨.bool !b, ?_, h⟩
        simp only [xbin]
        have : xEqIn P 100 t (.agg xs) (.agg ys) = some b := by
          unfold xEqIn
          rw [hu]
          simp only
          rw [if_neg hc]
          exact hb
        rw [this]
      · cases h
    · cases h
  · split at h
    · rename_i v hv; exact ⟨v, hv, h⟩
    · cases h

end
end Go.XM

namespace Go.XM
set_option linter.unusedVariables false
set_option linter.unusedSimpArgs false
set_option linter.unusedVariables false
set_option linter.unusedSimpArgs false

/-! ### what is poisoned and put back is as it was; operations that no heap matters to -/
def XS.Shell (S S' : XS) : Prop := S'.size = S.size ∧ S'.heap.length = S.heap.length ∧ ∀ i, S.size ≤ i → S'.heap[i]? = S.heap[i]?
theorem XS.Shell.refl (S : XS) : S.Shell S := ⟨rfl, rfl, fun _ _ => rfl⟩
theorem XS.Shell.trans {S S1 S2 : XS} (h : S.Shell S1) (k : S1.Shell S2) : S.Shell S2 := ⟨k.1.trans h.1, k.2.1.trans h.2.1, fun i hi => (k.2.2 i (by rw [h.1]; exact hi)).trans (h.2.2 i hi)⟩
theorem shell_put (S : XS) (b : Nat) (x : XBlk) : S.Shell (S.put b x) := by
  unfold XS.put
  split
  · rename_i hb
    refine ⟨rfl, by simp, fun i hi => ?_⟩
    rw [List.getElem?_set_ne]
    omega
  · exact .refl S
theorem shell_poison1 (S : XS) (p : Nat × Nat) : S.Shell (S.poison1 p) := by
  unfold XS.poison1
  split
  · exact shell_put _ _ _
  · exact shell_put _ _ _
  · exact .refl S
theorem shell_poison : ∀ (ps : List (Nat × Nat)) (S : XS), S.Shell (S.poison ps)
  | [], S => .refl S
  | p :: ps, S => (shell_poison1 S p).trans (shell_poison ps _)
theorem shell_restore1 (S0 S : XS) (p : Nat × Nat) : S.Shell (XS.restore1 S0 S p) := by
  unfold XS.restore1
  split
  · split
    · exact shell_put _ _ _
    · exact .refl S
  · split
    · exact .refl S
    · exact shell_put _ _ _
  · exact .refl S
theorem shell_restore (S0 : XS) : ∀ (ps : List (Nat × Nat)) (S : XS), S.Shell (XS.restore S0 S ps)
  | [], S => .refl S
  | p :: ps, S => (shell_restore1 S0 S p).trans (shell_restore S0 ps _)

theorem back_eq {ps : List (Nat × Nat)} {b : Nat} {x y z : XBlk} (h : PoisR ps b x y) (k : RestR ps b x y z) : z = x := by
  cases x with
  | cells cs kd =>
    cases y with
    | cells cp kp =>
      obtain ⟨rfl, l1, a1, a2, a3⟩ := h
      obtain ⟨cz, rfl, l3, c1, c2⟩ := k
      congr 1
      apply List.ext_getElem?
      intro o
      by_cases q : (b, o) ∈ ps
      · rcases Nat.lt_or_ge o cs.length with hlt | hge
        · rw [c2 o q (by omega), List.getD_eq_getElem?_getD, List.getElem?_eq_getElem hlt]; rfl
        · rw [List.getElem?_eq_none (by omega), List.getElem?_eq_none hge]
      · rw [c1 o q, a1 o q]
    | iter s n => exact h.elim
    | gone => exact h.elim
  | iter s n =>
    cases y with
    | cells cp kp =>
      obtain ⟨rfl, rfl, o, ho⟩ := h
      rcases k with ⟨_, _, rfl⟩ | ⟨hc, rfl⟩
      · rfl
      · rcases hc with hc | hc
        · exact absurd ho (hc o)
        · cases hc
    | iter s' n' =>
      obtain ⟨rfl, rfl, hno⟩ := h
      rcases k with ⟨⟨o, ho⟩, _, _⟩ | ⟨_, rfl⟩
      · exact absurd ho (hno o)
      · rfl
    | gone => exact h.elim
  | gone =>
    cases y with
    | gone => exact k
    | cells cp kp => exact h.elim
    | iter s n => exact h.elim

theorem restore_poison (S : XS) (ps : List (Nat × Nat)) : ({ XS.restore S { S.poison ps with log := [] } ps with log := S.log } : XS) = S := by
  have sh1 : S.Shell { S.poison ps with log := [] } := shell_poison ps S
  have sh := sh1.trans (shell_restore S ps { S.poison ps with log := [] })
  have hget : ∀ b, (XS.restore S { S.poison ps with log := [] } ps).get b = S.get b := fun b => back_eq (poison_get ps S b) (restore_get S ps { S.poison ps with log := [] } b)
  obtain ⟨s1, s2, s3⟩ := sh
  have hheap : (XS.restore S { S.poison ps with log := [] } ps).heap = S.heap := by
    apply List.ext_getElem?
    intro i
    rcases Nat.lt_or_ge i S.size with q | q
    · have := hget (S.size - 1 - i)
      unfold XS.get at this
      rw [s1, if_pos (by omega), if_pos (by omega), show S.size - 1 - (S.size - 1 - i) = i by omega] at this
      rcases Nat.lt_or_ge i S.heap.length with r | r
      · rw [List.getElem?_eq_getElem (by omega), List.getElem?_eq_getElem r] at this ⊢
        simpa using this
      · rw [List.getElem?_eq_none r, List.getElem?_eq_none (by omega)]
    · exact s3 i q
  cases S
  simp only [XS.mk.injEq, and_true] at *
  exact ⟨hheap, s1⟩

theorem free_xop {P : Program} {base : Nat} {o : Oper} {T : Tmps} {S S' : XS} {v : XV} (hf : freeOp o T = true) (h : xop P base o T S = some (v, S')) : S' = S ∧ ∀ b2 S2, xop P b2 o T S2 = some (v, S2) := by
  obtain ⟨dst, op, ty, pos, after, guard⟩ := o
  have mapd : ∀ {x : Option XV}, (x.map fun v => (v, S)) = some (v, S') → S' = S ∧ x = some v := fun {x} h => by
    cases x with
    | none => cases h
    | some y => simp only [Option.map_some, Option.some.injEq, Prod.mk.injEq] at h; exact ⟨h.2.symm, by rw [h.1]⟩
  cases op with
  | move x => unfold xop at h ⊢; simp only at h ⊢; obtain ⟨rfl, hx⟩ := mapd h; exact ⟨rfl, fun b2 S2 => by rw [hx]; rfl⟩
  | assign x => unfold xop at h ⊢; simp only at h ⊢; obtain ⟨rfl, hx⟩ := mapd h; exact ⟨rfl, fun b2 S2 => by rw [hx]; rfl⟩
  | pick c a b =>
    unfold xop at h ⊢; simp only at h ⊢
    split at h
    · obtain ⟨rfl, hx⟩ := mapd h; exact ⟨rfl, fun b2 S2 => by rw [hx]; rfl⟩
    · obtain ⟨rfl, hx⟩ := mapd h; exact ⟨rfl, fun b2 S2 => by rw [hx]; rfl⟩
    · cases h
  | nilCheck x =>
    unfold xop at h ⊢; simp only at h ⊢
    split at h
    all_goals first | (simp only [Option.some.injEq, Prod.mk.injEq] at h; obtain ⟨rfl, rfl⟩ := h; exact ⟨rfl, fun b2 S2 => rfl⟩) | cases h
  | binOp op t x y _ =>
    unfold xop at h ⊢; simp only at h ⊢
    split at h
    · obtain ⟨rfl, hx⟩ := mapd h; exact ⟨rfl, fun b2 S2 => by rw [hx]; rfl⟩
    · cases h
  | unOp op t x =>
    unfold xop at h ⊢; simp only at h ⊢
    split at h
    · obtain ⟨rfl, hx⟩ := mapd h; exact ⟨rfl, fun b2 S2 => by rw [hx]; rfl⟩
    · cases h
  | makeInterface t x =>
    unfold xop at h ⊢; simp only at h ⊢
    split at h
    · split at h
      · cases h
      · simp only [Option.some.injEq, Prod.mk.injEq] at h; obtain ⟨rfl, rfl⟩ := h; exact ⟨rfl, fun b2 S2 => rfl⟩
      · cases h
    · cases h
  | fieldAddr t x f =>
    unfold xop at h ⊢; simp only at h ⊢
    split at h
    · obtain ⟨rfl, hx⟩ := mapd h; exact ⟨rfl, fun b2 S2 => by rw [hx]; rfl⟩
    · cases h
  | field t x f =>
    unfold xop at h ⊢; simp only at h ⊢
    split at h
    · obtain ⟨rfl, hx⟩ := mapd h; exact ⟨rfl, fun b2 S2 => by rw [hx]; rfl⟩
    · cases h
  | index t x i =>
    unfold xop at h ⊢; simp only at h ⊢
    split at h
    · obtain ⟨rfl, hx⟩ := mapd h; exact ⟨rfl, fun b2 S2 => by rw [hx]; rfl⟩
    · cases h
  | typeAssert x xt t ok =>
    unfold xop at h ⊢; simp only at h ⊢
    split at h
    · obtain ⟨rfl, hx⟩ := mapd h; exact ⟨rfl, fun b2 S2 => by rw [hx]; rfl⟩
    · cases h
  | extract x i =>
    unfold xop at h ⊢; simp only at h ⊢
    split at h
    · obtain ⟨rfl, hx⟩ := mapd h; exact ⟨rfl, fun b2 S2 => by rw [hx]; rfl⟩
    · cases h
  | build t ps =>
    unfold xop at h ⊢; simp only at h ⊢
    split at h
    · obtain ⟨rfl, hx⟩ := mapd h; exact ⟨rfl, fun b2 S2 => by rw [hx]; rfl⟩
    · cases h
  | slice t x lo hi mx =>
    unfold freeOp at hf; simp only at hf
    unfold xop at h ⊢; simp only at h ⊢
    split at h
    · rename_i w a b c hw ha hb hc
      rw [hw] at hf
      obtain ⟨rfl, hx⟩ := mapd h
      refine ⟨rfl, fun b2 S2 => ?_⟩
      have he : xslice P S2 t w a b c = xslice P S' t w a b c := by
        cases w <;> first | (cases hf; done) | rfl
      rw [he, hx]; rfl
    · cases h
  | convert src dst x =>
    unfold freeOp at hf; simp only at hf
    unfold xop at h ⊢; simp only at h ⊢
    split at h
    · rename_i w hw
      rw [hw] at hf
      cases w <;> try (cases hf; done)
      case int kd n =>
        have red : ∀ S : XS, xconvert P S src dst (.int kd n) = if (P.underlying src).isNone then none else (match intT P dst with | some k => some (.int k (k.wrap n), S) | none => if isStrT P dst then some (.str (encL n), S) else none) := fun S => rfl
        simp only [red] at h ⊢
        split at h
        · cases h
        rename_i hs
        simp only [if_neg hs]
        cases hi : intT P dst with
        | some k =>
          rw [hi] at h
          simp only [Option.some.injEq, Prod.mk.injEq] at h; obtain ⟨rfl, rfl⟩ := h; exact ⟨rfl, fun b2 S2 => rfl⟩
        | none =>
          rw [hi] at h
          simp only at h ⊢
          split at h
          · rename_i hst
            simp only [Option.some.injEq, Prod.mk.injEq] at h; obtain ⟨rfl, rfl⟩ := h; exact ⟨rfl, fun b2 S2 => by rw [if_pos hst]⟩
          · cases h
      case row t m cs len =>
        have red : ∀ S : XS, xconvert P S src dst (.row t m cs len) = if (P.underlying src).isNone then none else (match sliceElem P src with
          | some e => if isStrT P dst && isU8 P e then (match rowOf XS.none (.row t m cs len) with
            | some cs => match allBytes cs with | some l => some (.str l, S) | none => none
            | none => none) else none
          | none => none) := fun S => rfl
        simp only [red] at h ⊢
        split at h
        · cases h
        rename_i hs
        simp only [if_neg hs]
        cases he : sliceElem P src with
        | none => rw [he] at h; cases h
        | some e =>
          rw [he] at h
          simp only at h ⊢
          split at h
          · rename_i hst
            simp only [if_pos hst]
            cases hr : rowOf XS.none (.row t m cs len) with
            | none => rw [hr] at h; cases h
            | some c =>
              rw [hr] at h
              simp only at h ⊢
              cases ha : allBytes c with
              | none => rw [ha] at h; cases h
              | some l =>
                rw [ha] at h
                simp only [Option.some.injEq, Prod.mk.injEq] at h; obtain ⟨rfl, rfl⟩ := h
                exact ⟨rfl, fun b2 S2 => rfl⟩
          · cases h
    · cases h
  | _ => cases hf

theorem free_xstep {P : Program} {call : XCallFn} {base : Nat} {o : Oper} {T : Tmps} {S : XS} (hf : freeOp o T = true) : xstep P call base o T S = xop P base o T S := by
  obtain ⟨dst, op, ty, pos, after, guard⟩ := o
  cases op <;> first | rfl | cases hf
theorem free_congr {o : Oper} {T T' : Tmps} (h : ∀ x, evalX T x = evalX T' x) : freeOp o T = freeOp o T' := by
  obtain ⟨dst, op, ty, pos, after, guard⟩ := o
  cases op <;> simp only [freeOp, h]
end Go.XM

namespace Go.XM
set_option linter.unusedVariables false
set_option linter.unusedSimpArgs false
set_option linter.unusedVariables false
set_option linter.unusedSimpArgs false

section
variable {P : Program} {A : Type} {r : A}

def Teq (T T' : Tmps) : Prop := ∀ t, tget T t = tget T' t
theorem Teq.refl (T : Tmps) : Teq T T := fun _ => rfl
theorem Teq.put {T T' : Tmps} (h : Teq T T') (d : Option Tmp) (v : XV) : Teq (putX T d v) (putX T' d v) := fun t => by
  unfold putX
  cases d with
  | none => exact h t
  | some d => simp only [tget_tset]; split <;> first | rfl | exact h t
theorem Teq.same {T T' : Tmps} (h : Teq T T') {d : Nat} {v : XV} (hv : tget T' d = v) : Teq T (tset T' d v) := fun t => by
  rw [tget_tset]
  split
  · rename_i q; subst q; rw [h, hv]
  · exact h t
theorem Teq.step {T T' : Tmps} (h : Teq T T') (call : XCallFn) (base : Nat) (o : Oper) (S : XS) : xstep P call base o T S = xstep P call base o T' S := xstep_congr fun t _ => h t
theorem Teq.eval {T T' : Tmps} (h : Teq T T') (x : Operand) : evalX T x = evalX T' x := evalX_congr fun t _ => h t

def FnOK (callN : XCallFn) (K : KOr A) : Prop := ∀ g F, K.fn g = some F → ∃ F0 : List XV → Option XV, (∀ args k (r : A), F args k = some r → ∃ v, F0 args = some v ∧ k v = some r) ∧
  (∀ args base S v, underAll 0 args = true → F0 args = some v → callN g args base S = some (v, S)) ∧
  (∀ args aa base S v, underAll 0 args = false → hardAll (hard true S 50) args = some aa → F0 aa = some v → v.lent = false → callN g args base S = some (v, S))

variable {call callN : XCallFn} {K : KOr A}

theorem kcallf_sound (hle : CallLe call callN) (hf : FnOK callN K) (hic : ∀ g, K.ic g = none) {base : Nat} {g : FuncId} {args : List XV} {S : XS} {k : XV → XS → Option A} (h : kcallf call K base g args S k = some r) :
    ∃ v S', callN g args base S = some (v, S') ∧ k v S' = some r := by
  unfold kcallf at h
  split at h
  · rename_i F hF
    obtain ⟨F0, f1, f2, f3⟩ := hf g F hF
    split at h
    · rename_i hu
      obtain ⟨v, hv, h⟩ := f1 _ _ _ h
      exact ⟨v, S, f2 args base S v hu hv, h⟩
    · rename_i hu
      split at h
      · rename_i aa has
        obtain ⟨v, hv, h⟩ := f1 _ _ _ h
        cases hl : v.lent with
        | true => rw [hl] at h; cases h
        | false =>
          rw [hl] at h
          exact ⟨v, S, f3 args aa base S v (by simpa using hu) has hv hl, h⟩
      · cases h
  · rw [hic g] at h
    simp only at h
    split at h
    · rename_i v S' hv; exact ⟨v, S', hle _ _ _ _ _ hv, h⟩
    · cases h

theorem kstep_plain (hle : CallLe call callN) (hf : FnOK callN K) (hic : ∀ g, K.ic g = none) {base : Nat} {o : Oper} {T : Tmps} {S : XS} {k : XV → XS → Option A} (h : kstep P call K base o T S k = some r) :
    ∃ v S', xstep P callN base o T S = some (v, S') ∧ k v S' = some r := by
  obtain ⟨dst, op, ty, pos, after, guard⟩ := o
  have dflt : ∀ {x : Option (XV × XS)}, (match x with | some (v, S') => k v S' | none => none) = some r → ∃ v S', x = some (v, S') ∧ k v S' = some r := fun {x} h => by
    split at h
    · rename_i v S'; exact ⟨v, S', rfl, h⟩
    · cases h
  cases op with
  | call c =>
    unfold kstep at h
    unfold xstep
    simp only at h ⊢
    split at h
    · rename_i f hcal
      rw [hcal]
      simp only
      split at h
      · rename_i g caps xs hg hxs
        rw [hg, hxs]
        exact kcallf_sound hle hf hic h
      · cases h
    · rename_i hcal
      rw [hcal]
      simp only
      split at h
      · rename_i t t2 s x hts hxs
        split at h
        · rename_i e he hz
          obtain ⟨new, n, ha, h⟩ := kappended_sound h
          obtain ⟨v, S', hx, h⟩ := kappend_sound h
          refine ⟨v, S', ?_, h⟩
          unfold xop
          simp only [hcal, hxs]
          unfold xbuiltin
          simp only [hts, he, hz, ha, Bool.false_and, Bool.false_eq_true, if_false]
          exact hx
        · cases h
      · cases h
    · rename_i hn1 hn2
      obtain ⟨v, S', hx, h⟩ := dflt h
      refine ⟨v, S', ?_, h⟩
      split
      · rename_i f hcal; exact absurd hcal (hn1 f)
      · exact hx
  | pick c a b =>
    unfold kstep at h
    simp only at h
    unfold xstep xop
    simp only
    split at h
    · rename_i v hc
      split at h
      · rename_i x y hx hy
        cases v with
        | true => exact ⟨x, S, by simp [hc, hx], h⟩
        | false => exact ⟨y, S, by simp [hc, hy], h⟩
      · rename_i x hx hy
        cases v with
        | true => exact ⟨x, S, by simp [hc, hx], h⟩
        | false => cases h
      · rename_i y hx hy
        cases v with
        | true => cases h
        | false => exact ⟨y, S, by simp [hc, hy], h⟩
      · cases h
    · cases h
  | load t a =>
    unfold kstep at h
    simp only at h
    unfold xstep xop
    simp only
    split at h
    · rename_i p hp
      obtain ⟨v, hv, h⟩ := kload_sound h
      exact ⟨v, S, by simp [hp, hv], h⟩
    · cases h
  | typeAssert x xt t ok =>
    unfold kstep at h
    simp only at h
    unfold xstep xop
    simp only
    split at h
    · rename_i a ha
      obtain ⟨v, hv, h⟩ := kassert_sound h
      exact ⟨v, S, by simp [ha, hv], h⟩
    · cases h
  | indexAddr t x i =>
    unfold kstep at h
    simp only at h
    unfold xstep xop
    simp only
    split at h
    · rename_i a b ha hb
      obtain ⟨v, hv, h⟩ := kindexAddr_sound h
      exact ⟨v, S, by simp [ha, hb, hv], h⟩
    · cases h
  | index t x i =>
    unfold kstep at h
    simp only at h
    unfold xstep xop
    simp only
    split at h
    · rename_i a b ha hb
      obtain ⟨v, hv, h⟩ := kindex_sound h
      exact ⟨v, S, by simp [ha, hb, hv], h⟩
    · cases h
  | slice t x lo hi mx =>
    unfold kstep at h
    simp only at h
    unfold xstep xop
    simp only
    split at h
    · rename_i a b c d ha hb hc hd
      obtain ⟨v, hv, h⟩ := kslice_sound h
      exact ⟨v, S, by simp [ha, hb, hc, hd, hv], h⟩
    · cases h
  | binOp op t x y yt =>
    unfold kstep at h
    simp only at h
    unfold xstep xop
    simp only
    split at h
    · rename_i a b ha hb
      obtain ⟨v, hv, h⟩ := kbin_sound h
      exact ⟨v, S, by simp [ha, hb, hv], h⟩
    · cases h
  | convert src dstT x =>
    unfold kstep at h
    simp only at h
    unfold xstep xop
    simp only
    split at h
    · rename_i a ha
      obtain ⟨v, S', hv, h⟩ := kconvert_sound h
      exact ⟨v, S', by simp [ha, hv], h⟩
    · cases h
  | makeSlice t l c =>
    unfold kstep at h
    simp only at h
    unfold xstep xop
    simp only
    split at h
    · rename_i a b ha hb
      obtain ⟨v, S', hv, h⟩ := kmake_sound h
      exact ⟨v, S', by simp [ha, hb, hv], h⟩
    · cases h
  | next x isS =>
    unfold kstep at h
    simp only at h
    unfold xstep xop
    simp only
    split at h
    · rename_i his
      rw [if_pos his]
      split at h
      · rename_i v hv
        obtain ⟨v', S', hv', h⟩ := knext_sound h
        exact ⟨v', S', by simp [hv, hv'], h⟩
      · cases h
    · cases h
  | _ => exact dflt h

theorem want_cases {ops : List Oper} {o : Oper} {T T' : Tmps} (hT : Teq T T') {run skip : Tmps → Option A}
    (h : kguard ops o T' run skip = some r) :
    ∃ T2, Teq T T2 ∧ ((wantedX ops T o = some true ∧ run T2 = some r) ∨ (wantedX ops T o = some false ∧ skip T2 = some r)) := by
  unfold kguard at h
  unfold wantedX
  split at h
  · rename_i hg
    rw [hg]
    exact ⟨T', hT, .inl ⟨rfl, h⟩⟩
  · rename_i j want hg
    rw [hg]
    simp only
    split at h
    · rename_i hd
      rw [hd]
      exact ⟨T', hT, .inr ⟨rfl, h⟩⟩
    · rename_i d hd
      rw [hd]
      simp only
      rw [hT d]
      split at h
      · rename_i b hb
        rw [hb]
        cases want with
        | true =>
          cases b with
          | true => exact ⟨_, hT.same hb, .inl ⟨rfl, h⟩⟩
          | false => exact ⟨_, hT.same hb, .inr ⟨rfl, h⟩⟩
        | false =>
          cases b with
          | true => exact ⟨_, hT.same hb, .inr ⟨rfl, h⟩⟩
          | false => exact ⟨_, hT.same hb, .inl ⟨rfl, h⟩⟩
      · cases h
      · rename_i hnb hnd
        refine ⟨T', hT, .inr ⟨?_, h⟩⟩
        split
        · rename_i b hb; exact absurd hb (hnb b)
        · rename_i hb; exact absurd hb hnd
        · rfl

/-- calls that are run in their callers' stead -/
def ICOK (P : Program) (prim : XPrim) (K : KOr A) : Prop := ∀ g F, K.ic g = some F → ∀ args base S k (r : A), F args base S k = some r → ∃ m v S', xcall P prim m g args base S = some (v, S') ∧ k v S' = some r

def bareK : KOr A := ⟨fun _ => none, fun _ => none, fun _ => none⟩
theorem bare_fn (callN : XCallFn) : FnOK callN (bareK : KOr A) := fun g F h => by cases h

theorem icNone {prim : XPrim} {K : KOr A} (h : K.ic = fun _ => none) : ICOK P prim K := fun g F hF => by rw [h] at hF; cases hF

section
variable {prim : XPrim} {N : Nat}
theorem kcallf_fam (hle : CallLe call (xcall P prim N)) (hf : ∀ n, N ≤ n → FnOK (xcall P prim n) K) (hic : ICOK P prim K) {base : Nat} {g : FuncId} {args : List XV} {S : XS} {k : XV → XS → Option A} (h : kcallf call K base g args S k = some r) :
    ∃ m v S', N ≤ m ∧ xcall P prim m g args base S = some (v, S') ∧ k v S' = some r := by
  cases hF : K.ic g with
  | none =>
    have h' : kcallf call ⟨K.fn, K.lp, fun _ => none⟩ base g args S k = some r := by
      unfold kcallf at h ⊢
      rw [hF] at h
      exact h
    obtain ⟨v, S', h1, h2⟩ := kcallf_sound (K := ⟨K.fn, K.lp, fun _ => none⟩) hle (hf N (Nat.le_refl _)) (fun _ => rfl) h'
    exact ⟨N, v, S', Nat.le_refl _, h1, h2⟩
  | some F =>
    cases hfn : K.fn g with
    | some F' =>
      have h' : kcallf call ⟨K.fn, K.lp, fun _ => none⟩ base g args S k = some r := by
        unfold kcallf at h ⊢
        rw [hfn] at h ⊢
        exact h
      obtain ⟨v, S', h1, h2⟩ := kcallf_sound (K := ⟨K.fn, K.lp, fun _ => none⟩) hle (hf N (Nat.le_refl _)) (fun _ => rfl) h'
      exact ⟨N, v, S', Nat.le_refl _, h1, h2⟩
    | none =>
      unfold kcallf at h
      rw [hfn, hF] at h
      obtain ⟨m, v, S', h1, h2⟩ := hic g F hF args base S k r h
      exact ⟨max N m, v, S', by omega, xcall_mono (by omega) _ _ _ _ _ h1, h2⟩

theorem kstep_sound (hle : CallLe call (xcall P prim N)) (hf : ∀ n, N ≤ n → FnOK (xcall P prim n) K) (hic : ICOK P prim K) {base : Nat} {o : Oper} {T : Tmps} {S : XS} {k : XV → XS → Option A} (h : kstep P call K base o T S k = some r) :
    ∃ m v S', N ≤ m ∧ xstep P (xcall P prim m) base o T S = some (v, S') ∧ k v S' = some r := by
  have plain : kstep P call bareK base o T S k = some r → ∃ m v S', N ≤ m ∧ xstep P (xcall P prim m) base o T S = some (v, S') ∧ k v S' = some r := fun h => by
    obtain ⟨v, S', h1, h2⟩ := kstep_plain hle (bare_fn _) (fun _ => rfl) h
    exact ⟨N, v, S', Nat.le_refl _, h1, h2⟩
  obtain ⟨dst, op, ty, pos, after, guard⟩ := o
  cases op with
  | call c =>
    obtain ⟨callee, args, argTypes⟩ := c
    cases callee with
    | value f =>
      unfold kstep at h
      unfold xstep
      simp only at h ⊢
      split at h
      · rename_i g caps xs hg hxs
        rw [hg, hxs]
        obtain ⟨m, v, S', h1, h2, h3⟩ := kcallf_fam hle hf hic h
        exact ⟨m, v, S', h1, h2, h3⟩
      · cases h
    | builtin b => cases b <;> exact plain h
    | _ => exact plain h
  | _ => exact plain h

theorem kops_sound (hle : CallLe call (xcall P prim N)) (hf : ∀ n, N ≤ n → FnOK (xcall P prim n) K) (hic : ICOK P prim K) {base : Nat} {ops : List Oper} {k : Tmps → XS → Option A} : ∀ (l : List Oper) (T T' : Tmps) (S : XS), Teq T T' → kops P call K false base ops l T' S k = some r →
    ∃ m T1 T1' S1, N ≤ m ∧ xops P (xcall P prim m) base ops l T S = some (T1, S1) ∧ Teq T1 T1' ∧ k T1' S1 = some r
  | [], T, T', S, hT, h => ⟨N, T, T', S, Nat.le_refl _, rfl, hT, h⟩
  | o :: l, T, T', S, hT, h => by
    simp only [kops] at h
    simp only [xops]
    obtain ⟨T2, hT2, hw⟩ := want_cases hT h
    rcases hw with ⟨hw, h⟩ | ⟨hw, h⟩
    · rw [hw]
      simp only
      obtain ⟨m1, v, S', hm1, hs, h⟩ := kstep_sound hle hf hic h
      rw [← hT2.step] at hs
      obtain ⟨m2, T1, T1', S1, hm2, q1, q2, q3⟩ := kops_sound hle hf hic l _ _ S' (hT2.put o.dst v) h
      refine ⟨max m1 m2, T1, T1', S1, by omega, ?_, q2, q3⟩
      rw [xstep_mono (xcall_mono (Nat.le_max_left m1 m2)) hs]
      exact xops_mono (xcall_mono (Nat.le_max_right m1 m2)) _ _ _ _ q1
    · rw [hw]
      exact kops_sound hle hf hic l _ _ S (hT2.put o.dst _) h

theorem klook_sound (hle : CallLe call (xcall P prim N)) (hf : ∀ n, N ≤ n → FnOK (xcall P prim n) K) (hic : ICOK P prim K) {ops : List Oper} : ∀ (l : List Oper) (T T' : Tmps) (S : XS) (k : Tmps → XS → List (List (Nat × Nat)) → Option A), Teq T T' → klook P call K ops l T' S k = some r →
    ∃ m T1 T1' S1 ws, N ≤ m ∧ xlook P (xcall P prim m) ops l T S = some (T1, S1, ws) ∧ Teq T1 T1' ∧ k T1' S1 ws = some r
  | [], T, T', S, k, hT, h => ⟨N, T, T', S, [], Nat.le_refl _, rfl, hT, h⟩
  | o :: l, T, T', S, k, hT, h => by
    simp only [klook] at h
    simp only [xlook]
    obtain ⟨T2, hT2, hw⟩ := want_cases hT h
    rcases hw with ⟨hw, h⟩ | ⟨hw, h⟩
    · rw [hw]
      simp only
      obtain ⟨m1, v, S', hm1, hs, h⟩ := kstep_sound hle hf hic h
      rw [← hT2.step] at hs
      obtain ⟨m2, T1, T1', S1, ws, hm2, h1, h3, h4⟩ := klook_sound hle hf hic l _ _ S' _ (hT2.put o.dst v) h
      refine ⟨max m1 m2, T1, T1', S1, S'.log :: ws, by omega, ?_, h3, h4⟩
      rw [xstep_mono (xcall_mono (Nat.le_max_left m1 m2)) hs]
      simp only
      rw [xlook_mono (xcall_mono (Nat.le_max_right m1 m2)) _ _ _ _ h1]
    · rw [hw]
      simp only
      obtain ⟨m2, T1, T1', S1, ws, hm2, h1, h3, h4⟩ := klook_sound hle hf hic l _ _ S _ (hT2.put o.dst _) h
      refine ⟨m2, T1, T1', S1, [] :: ws, hm2, ?_, h3, h4⟩
      rw [h1]

theorem kopsW_sound (hle : CallLe call (xcall P prim N)) (hf : ∀ n, N ≤ n → FnOK (xcall P prim n) K) (hic : ICOK P prim K) {ops : List Oper} {pr : List (List Nat)} {Wd : List (List (Nat × Nat))} : ∀ (l : List Oper) (i : Nat) (T T' : Tmps) (S : XS) (k : Tmps → XS → List (List (Nat × Nat)) → Option A), Teq T T' → kopsW P call K ops pr Wd i l T' S k = some r →
    ∃ m T1 T1' S1 ws, N ≤ m ∧ xopsW P (xcall P prim m) ops pr Wd i l T S = some (T1, S1, ws) ∧ Teq T1 T1' ∧ k T1' S1 ws = some r
  | [], i, T, T', S, k, hT, h => ⟨N, T, T', S, [], Nat.le_refl _, rfl, hT, h⟩
  | o :: l, i, T, T', S, k, hT, h => by
    simp only [kopsW] at h
    simp only [xopsW]
    obtain ⟨T2, hT2, hw⟩ := want_cases hT h
    rcases hw with ⟨hw, h⟩ | ⟨hw, h⟩
    · rw [hw]
      simp only
      split at h
      · rename_i hfree
        obtain ⟨m1, v, S', hm1, hs, h⟩ := kstep_sound hle hf hic h
        rw [free_xstep hfree] at hs
        obtain ⟨rfl, hall⟩ := free_xop hfree hs
        obtain ⟨m2, T1, T1', S1, ws, hm2, h1, h3, h4⟩ := kopsW_sound hle hf hic l (i + 1) _ _ _ _ (hT2.put o.dst v) h
        refine ⟨m2, T1, T1', S1, [] :: ws, hm2, ?_, h3, h4⟩
        have hst : xstep P (xcall P prim m2) S'.size o T { S'.poison (openW pr Wd i) with log := [] } = some (v, { S'.poison (openW pr Wd i) with log := [] }) := by
          rw [hT2.step, free_xstep hfree]
          exact hall _ _
        rw [hst]
        simp only
        rw [if_pos (by simp), restore_poison, h1]
      · obtain ⟨m1, v, S', hm1, hs, h⟩ := kstep_sound hle hf hic h
        obtain ⟨hall, h⟩ := gd_some h
        rw [← hT2.step] at hs
        obtain ⟨m2, T1, T1', S1, ws, hm2, h1, h3, h4⟩ := kopsW_sound hle hf hic l (i + 1) _ _ _ _ (hT2.put o.dst v) h
        refine ⟨max m1 m2, T1, T1', S1, S'.log :: ws, by omega, ?_, h3, h4⟩
        rw [xstep_mono (xcall_mono (Nat.le_max_left m1 m2)) hs]
        simp only
        rw [if_pos hall, xopsW_mono (xcall_mono (Nat.le_max_right m1 m2)) _ _ _ _ _ h1]
    · rw [hw]
      simp only
      obtain ⟨m2, T1, T1', S1, ws, hm2, h1, h3, h4⟩ := kopsW_sound hle hf hic l (i + 1) _ _ S _ (hT2.put o.dst _) h
      refine ⟨m2, T1, T1', S1, [] :: ws, hm2, ?_, h3, h4⟩
      rw [h1]

theorem kdraw_sound (hle : CallLe call (xcall P prim N)) (hf : ∀ n, N ≤ n → FnOK (xcall P prim n) K) (hic : ICOK P prim K) {base : Nat} {ops : List Oper} {T T' : Tmps} {S : XS} {k : Tmps → XS → Option A} (hT : Teq T T') (h : kdraw P call K base ops T' S k = some r) :
    ∃ m T1 T1' S1, N ≤ m ∧ xdraw P (xcall P prim m) base ops T S = some (T1, S1) ∧ Teq T1 T1' ∧ k T1' S1 = some r := by
  unfold kdraw at h
  obtain ⟨m1, T1, T1', S1, Wd, hm1, h1, h2, h3⟩ := klook_sound hle hf hic ops T T' S _ hT h
  split at h3
  · rename_i hq
    refine ⟨m1, T1, T1', _, hm1, ?_, h2, h3⟩
    unfold xdraw
    rw [h1]
    simp only
    rw [if_pos hq]
  · rename_i hq
    obtain ⟨m2, T2, T2', S2, ws, hm2, q1, q2, q3⟩ := kopsW_sound hle hf hic ops 0 T T' S _ hT h3
    refine ⟨max m1 m2, T2, T2', _, by omega, ?_, q2, q3⟩
    unfold xdraw
    rw [xlook_mono (xcall_mono (Nat.le_max_left m1 m2)) _ _ _ _ h1]
    simp only
    rw [if_neg (by rw [hq]; decide), xopsW_mono (xcall_mono (Nat.le_max_right m1 m2)) _ _ _ _ _ q1]
end

theorem pruneT_congr {keep : List Nat} {T T' : Tmps} (h : Teq T T') : ∀ (ts : List Nat) (B : Tmps), pruneT keep T ts B = pruneT keep T' ts B
  | [], B => rfl
  | t :: ts, B => by
    simp only [pruneT, h t]
    split
    · split
      · exact pruneT_congr h ts _
      · rfl
    · exact pruneT_congr h ts _

theorem head_congr {lv : Lives} {base : Nat} {c : Code} {T T' : Tmps} {S : XS} (h : Teq T T') {T0' : Tmps} {S0 : XS} (hp : headPr lv base c T' S = some (T0', S0)) : ∃ T0, headPr lv base c T S = some (T0, S0) ∧ Teq T0 T0' := by
  unfold headPr at hp ⊢
  split at hp
  · rename_i rows ts hl
    by_cases hb : base = 0
    case neg =>
      rw [if_neg hb] at hp ⊢
      injection hp with hp
      simp only [Prod.mk.injEq] at hp
      obtain ⟨rfl, rfl⟩ := hp
      exact ⟨T, rfl, h⟩
    rw [if_pos hb] at hp ⊢
    have hfr : freshT S T ts = freshT S T' ts := by
      unfold freshT
      congr 1
      funext t
      rw [h t]
    rw [hfr]
    have : ∀ ts, prune rows ts T S = prune rows ts T' S := fun ts => by
      unfold prune
      have e1 : (ts.flatMap fun t => (tget T t).addrs) = ts.flatMap fun t => (tget T' t).addrs := by
        congr 1; funext t; rw [h t]
      simp only [e1, pruneT_congr h]
    rw [this, hp]
    exact ⟨T0', rfl, Teq.refl _⟩
  · rename_i hl
    injection hp with hp
    simp only [Prod.mk.injEq] at hp
    obtain ⟨rfl, rfl⟩ := hp
    exact ⟨T, rfl, h⟩

/-- the loops of a piece of code -/
def loopsIn : Code → List Code
  | .seq a b => loopsIn a ++ loopsIn b
  | .cond _ a b => loopsIn a ++ loopsIn b
  | .block _ c => loopsIn c
  | .loop c => [c]
  | _ => []

def LpOKb (base : Nat) (P : Program) (prim : XPrim) (lv : Lives) (c : Code) (g : Tmps → XS → (XExit → Tmps → XS → Option A) → Option A) : Prop :=
  ∀ T0 T0' S0 k (r : A), Teq T0 T0' → g T0' S0 k = some r → ∃ m e T1 T1' S1, (∀ n, m ≤ n → loopC (headPr lv base c) (xcode P (xcall P prim n) lv n base c) n T0 S0 = some (e, T1, S1)) ∧ Teq T1 T1' ∧ k e T1' S1 = some r
abbrev LpOK (P : Program) (prim : XPrim) (lv : Lives) (c : Code) (g : Tmps → XS → (XExit → Tmps → XS → Option A) → Option A) : Prop := LpOKb 0 P prim lv c g

theorem kcode_sound {prim : XPrim} {lv : Lives} {N fuel base : Nat} (hf : ∀ n, N ≤ n → FnOK (xcall P prim n) K) (hic : ICOK P prim K) : ∀ (c : Code) (T T' : Tmps) (S : XS) (k : XExit → Tmps → XS → Option A) (r : A),
    (∀ c', c' ∈ loopsIn c → ∀ g, K.lp (headId c') = some g → LpOKb base P prim lv c' g) → Teq T T' → kcode P (xcall P prim N) K lv fuel base c T' S k = some r →
    ∃ m e T1 T1' S1, (∀ n, m ≤ n → xcode P (xcall P prim n) lv n base c T S = some (e, T1, S1)) ∧ Teq T1 T1' ∧ k e T1' S1 = some r := by
  intro c
  induction c with
  | skip => intro T T' S k r hl hT h; exact ⟨0, .normal, T, T', S, fun n _ => rfl, hT, h⟩
  | region id ops draw =>
    intro T T' S k r hl hT h
    simp only [kcode] at h
    cases draw with
    | false =>
      obtain ⟨m, T1, T1', S1, hm, h1, h2, h3⟩ := kops_sound (xcall_mono (Nat.le_refl N)) hf hic ops.toList T T' S hT h
      refine ⟨m, .normal, T1, T1', S1, fun n hn => ?_, h2, h3⟩
      simp only [xcode, Bool.false_eq_true, if_false]
      rw [xops_mono (xcall_mono hn) _ _ _ _ h1]
    | true =>
      obtain ⟨m, T1, T1', S1, hm, h1, h2, h3⟩ := kdraw_sound (xcall_mono (Nat.le_refl N)) hf hic hT h
      refine ⟨m, .normal, T1, T1', S1, fun n hn => ?_, h2, h3⟩
      simp only [xcode, if_true]
      rw [xdraw_mono (xcall_mono hn) h1]
  | seq a b iha ihb =>
    intro T T' S k r hl hT h
    simp only [kcode] at h
    obtain ⟨m, e, T1, T1', S1, h1, h2, h3⟩ := iha T T' S _ r (fun c' hc => hl c' (by simp [loopsIn, hc])) hT h
    cases e with
    | normal =>
      obtain ⟨m2, e2, T2, T2', S2, q1, q2, q3⟩ := ihb T1 T1' S1 k r (fun c' hc => hl c' (by simp [loopsIn, hc])) h2 h3
      refine ⟨max m m2, e2, T2, T2', S2, fun n hn => ?_, q2, q3⟩
      simp only [xcode]
      rw [h1 n (by omega)]
      exact q1 n (by omega)
    | exit id =>
      refine ⟨m, .exit id, T1, T1', S1, fun n hn => ?_, h2, h3⟩
      simp only [xcode]
      rw [h1 n hn]
    | ret =>
      refine ⟨m, .ret, T1, T1', S1, fun n hn => ?_, h2, h3⟩
      simp only [xcode]
      rw [h1 n hn]
  | cond c a b iha ihb =>
    intro T T' S k r hl hT h
    simp only [kcode] at h
    split at h
    · rename_i v hv
      rw [← hT.eval] at hv
      cases v with
      | true =>
        obtain ⟨m, e, T1, T1', S1, h1, h2, h3⟩ := iha T T' S k r (fun c' hc => hl c' (by simp [loopsIn, hc])) hT h
        exact ⟨m, e, T1, T1', S1, fun n hn => by simp only [xcode, hv]; exact h1 n hn, h2, h3⟩
      | false =>
        obtain ⟨m, e, T1, T1', S1, h1, h2, h3⟩ := ihb T T' S k r (fun c' hc => hl c' (by simp [loopsIn, hc])) hT h
        exact ⟨m, e, T1, T1', S1, fun n hn => by simp only [xcode, hv]; exact h1 n hn, h2, h3⟩
    · cases h
  | block id c ih =>
    intro T T' S k r hl hT h
    simp only [kcode] at h
    obtain ⟨m, e, T1, T1', S1, h1, h2, h3⟩ := ih T T' S _ r (fun c' hc => hl c' (by simpa [loopsIn] using hc)) hT h
    cases e with
    | normal => exact ⟨m, .normal, T1, T1', S1, fun n hn => by simp only [xcode]; rw [h1 n hn], h2, h3⟩
    | ret => exact ⟨m, .ret, T1, T1', S1, fun n hn => by simp only [xcode]; rw [h1 n hn], h2, h3⟩
    | exit id' =>
      simp only at h3
      cases hq : Nat.beq id' id with
      | true =>
        rw [hq] at h3
        exact ⟨m, .normal, T1, T1', S1, fun n hn => by simp only [xcode]; rw [h1 n hn]; simp only; rw [if_pos ((beqI _ _).1 hq)], h2, h3⟩
      | false =>
        rw [hq] at h3
        refine ⟨m, .exit id', T1, T1', S1, fun n hn => ?_, h2, h3⟩
        simp only [xcode]
        rw [h1 n hn]
        simp only
        rw [if_neg]
        intro z
        rw [(beqI _ _).2 z] at hq
        cases hq
  | loop c ih =>
    intro T T' S k r hl hT h
    simp only [kcode] at h
    split at h
    case h_2 => cases h
    rename_i T0' S0 hp
    split at h
    case h_2 => cases h
    rename_i g hg
    obtain ⟨T0, hp0, hT0⟩ := head_congr hT hp
    obtain ⟨m, e, T1, T1', S1, h1, h2, h3⟩ := hl c (by simp [loopsIn]) g hg T0 T0' S0 k r hT0 h
    refine ⟨m, e, T1, T1', S1, fun n hn => ?_, h2, h3⟩
    simp only [xcode]
    rw [xloop_head n T S T0 S0 hp0]
    exact h1 n hn
  | exit id => intro T T' S k r hl hT h; exact ⟨0, .exit id, T, T', S, fun n _ => rfl, hT, h⟩
  | ret => intro T T' S k r hl hT h; exact ⟨0, .ret, T, T', S, fun n _ => rfl, hT, h⟩
  | rangeFunc f ps x y ihx ihy => intro T T' S k r hl hT h; simp [kcode] at h
  | scope c ih => intro T T' S k r hl hT h; simp [kcode] at h
  | label l => intro T T' S k r hl hT h; simp [kcode] at h
  | goto l => intro T T' S k r hl hT h; simp [kcode] at h
  | refuse why => intro T T' S k r hl hT h; simp [kcode] at h

end
end Go.XM

namespace Go.XM
set_option linter.unusedVariables false
set_option linter.unusedSimpArgs false
set_option linter.unusedVariables false
set_option linter.unusedSimpArgs false

/-! ### functions that are known, loops that are known -/
structure FnE where
  id : Nat
  ar : Nat
  F : List XV → Option XV

def findE (g : Nat) : List FnE → Option FnE
  | [] => none
  | e :: r => if Nat.beq e.id g then some e else findE g r

def FnE.go (e : FnE) (args : List XV) : Option XV := if Nat.beq args.length e.ar then e.F args else none

def primOf (l : List FnE) (live : FuncId → Nat → Option (List Nat)) : XPrim := ⟨fun g => match findE g l with
  | some e => some e.go
  | none => none, live⟩

def fitB (P : Program) (l : List FnE) : Bool := l.all fun e => match P.funcs[e.id]? with
  | some fn => fn.body.isSome && !(fn.name == "runtime.NumGoroutine") && Nat.ble e.ar fn.ntmps
  | none => false

noncomputable def kOf {A : Type} (prim : XPrim) (lp : Nat → Option (Tmps → XS → (XExit → Tmps → XS → Option A) → Option A)) : KOr A := ⟨fun g => match prim.fn g with
  | some F0 => some fun args k => match F0 args with
    | some v => k v
    | none => none
  | none => none, lp, fun _ => none⟩

section
variable {P : Program}

theorem findE_some {g : Nat} : ∀ {l : List FnE} {e : FnE}, findE g l = some e → e ∈ l ∧ e.id = g
  | [], e, h => by cases h
  | x :: r, e, h => by
    simp only [findE] at h
    split at h
    · rename_i hq
      injection h with h
      subst h
      exact ⟨by simp, (beqI _ _).1 hq⟩
    · obtain ⟨h1, h2⟩ := findE_some h
      exact ⟨by simp [h1], h2⟩

theorem primOf_some {l : List FnE} {live : FuncId → Nat → Option (List Nat)} {g : FuncId} {F0 : List XV → Option XV} (h : (primOf l live).fn g = some F0) : ∃ e, e ∈ l ∧ e.id = g ∧ F0 = e.go := by
  unfold primOf at h
  simp only at h
  split at h
  · rename_i e he
    injection h with h
    obtain ⟨h1, h2⟩ := findE_some he
    exact ⟨e, h1, h2, h.symm⟩
  · cases h

theorem primOf_ok {l : List FnE} {live : FuncId → Nat → Option (List Nat)} (h : ∀ e, e ∈ l → Pure P e.id e.F) : PrimOK P (primOf l live) := fun g F0 hg => by
  obtain ⟨e, h1, h2, rfl⟩ := primOf_some hg
  subst h2
  intro args v hv
  unfold FnE.go at hv
  split at hv
  · exact h e h1 args v hv
  · cases hv

theorem primOf_fn {A : Type} {l : List FnE} {live : FuncId → Nat → Option (List Nat)} {lp : Nat → Option (Tmps → XS → (XExit → Tmps → XS → Option A) → Option A)} (hfit : fitB P l = true) {n : Nat} (hn : 1 ≤ n) : FnOK (xcall P (primOf l live) n) (kOf (primOf l live) lp) := by
  intro g F hF
  unfold kOf at hF
  simp only at hF
  split at hF
  case h_2 => cases hF
  rename_i F0 hF0
  injection hF with hF
  subst hF
  obtain ⟨e, h1, h2, rfl⟩ := primOf_some hF0
  subst h2
  obtain ⟨j, rfl⟩ : ∃ j, n = j + 1 := ⟨n - 1, by omega⟩
  have hfe := List.all_eq_true.1 hfit e h1
  split at hfe
  case h_2 => cases hfe
  rename_i fn hfn
  simp only [Bool.and_eq_true, Bool.not_eq_true'] at hfe
  obtain ⟨⟨hb, hname⟩, har⟩ := hfe
  obtain ⟨c, hc⟩ := Option.isSome_iff_exists.1 hb
  have har' : e.ar ≤ fn.ntmps := (bleI _ _).1 har
  refine ⟨e.go, fun args k r h => ?_, fun args base S v hu hv => ?_, fun args aa base S v hu has hv hl => ?_⟩
  · simp only at h
    split at h
    · rename_i v hv; exact ⟨v, hv, h⟩
    · cases h
  · have hlen : args.length = e.ar := by
      unfold FnE.go at hv
      split at hv
      · rename_i q; exact (beqI _ _).1 q
      · cases hv
    unfold xcall
    simp only [hfn, hc, hname, Bool.false_eq_true, if_false]
    rw [if_neg (by omega)]
    simp only [hF0, hu, if_true, hv]
  · have hlen : args.length = e.ar := by
      unfold FnE.go at hv
      split at hv
      · rename_i q; have := (beqI _ _).1 q; rw [(hardAll_get has).1] at this; exact this
      · cases hv
    unfold xcall
    simp only [hfn, hc, hname, Bool.false_eq_true, if_false]
    rw [if_neg (by omega)]
    simp only [hF0, hu, Bool.false_eq_true, if_false, has, hv, hl]

/-- what a function answers at its end, read out -/
noncomputable def kfin (P : Program) (fn : Func) (t : Bool) (e : XExit) (T : Tmps) (S : XS) : Option XV :=
  match e with
  | .exit _ => none
  | _ => match xresults P T S fn.results.toList with
    | some l => if S.log.isEmpty && (oneOr l).under 0 then hard t XS.none 50 (oneOr l) else hard t { S with log := [] } 50 (oneOr l)
    | none => none

theorem xresult_congr {T T' : Tmps} (h : Teq T T') (S : XS) (v : ResultVar) : xresult P T S v = xresult P T' S v := by
  cases v with
  | tmp t => simp only [xresult, h.eval]
  | cell a t => simp only [xresult, h.eval]
theorem xresults_congr {T T' : Tmps} (h : Teq T T') (S : XS) : ∀ rs, xresults P T S rs = xresults P T' S rs
  | [] => rfl
  | v :: rs => by simp only [xresults, xresult_congr h, xresults_congr h S rs]

theorem hard_log (t : Bool) (S : XS) (l : List (Nat × Nat)) : ∀ n v, hard t { S with log := l } n v = hard t S n v
  | 0, v => rfl
  | n + 1, v => by
    have ih := hard_log t S l n
    have hf : hard t { S with log := l } n = hard t S n := funext ih
    have hg : ∀ b, ({ S with log := l } : XS).get b = S.get b := fun b => rfl
    cases v <;> simp only [hard, hf, hg]

/-! ### loops -/
noncomputable def mkT (rows : Nat) (l : List (Nat × XV)) : Tmps := l.foldl (fun T p => tset T p.1 p.2) (deadT rows)

/-- what a round comes to: the next head, or the end -/
noncomputable def kround (lv : Lives) (c : Code) (e : XExit) (T : Tmps) (S : XS) : Option ((Tmps × XS) ⊕ (XExit × Tmps × XS)) :=
  match headPr lv 0 c T S with
  | none => none
  | some (T1, S1) => match e with
    | .normal => some (.inl (T1, S1))
    | .exit id => some (.inr (.exit id, T1, S1))
    | .ret => some (.inr (.ret, T1, S1))

/-- rounds, as many as there are -/
def rounds {X R : Type} (step : X → Option (X ⊕ R)) : Nat → X → Option R
  | 0, _ => none
  | n + 1, x => match step x with
    | some (.inl x') => rounds step n x'
    | some (.inr r) => some r
    | none => none

theorem loop_runs {prim : XPrim} {lv : Lives} {N fuel : Nat} {X : Type} {K : X → KOr ((Tmps × XS) ⊕ (XExit × Tmps × XS))} (hf : ∀ x n, N ≤ n → FnOK (xcall P prim n) (K x)) {c : Code}
    (hlp : ∀ x c', c' ∈ loopsIn c → ∀ g, (K x).lp (headId c') = some g → LpOK P prim lv c' g) {H : X → Tmps × XS} {step : X → Option (X ⊕ (XExit × Tmps × XS))}
    (hs : ∀ x a, step x = some a → kcode P (xcall P prim N) (K x) lv fuel 0 c (H x).1 (H x).2 (kround lv c) = some (match a with | .inl x' => .inl (H x') | .inr r => .inr r)) (hic : ∀ x, ICOK P prim (K x)) :
    ∀ (k : Nat) (x : X) (T : Tmps) (r : XExit × Tmps × XS), Teq T (H x).1 → rounds step k x = some r → ∃ m T1, Teq T1 r.2.1 ∧ ∀ n j, m ≤ n → k ≤ j → loopC (headPr lv 0 c) (xcode P (xcall P prim n) lv n 0 c) j T (H x).2 = some (r.1, T1, r.2.2)
  | 0, x, T, r, hT, h => by cases h
  | k + 1, x, T, r, hT, h => by
    simp only [rounds] at h
    cases hst : step x with
    | none => rw [hst] at h; cases h
    | some a =>
      rw [hst] at h
      obtain ⟨m, e, T1, T1', S1, h1, h2, h3⟩ := kcode_sound (hf x) (hic x) c T (H x).1 (H x).2 _ _ (hlp x) hT (hs x a hst)
      have body : ∀ {n : Nat}, m ≤ n → xcode P (xcall P prim n) lv n 0 c T (H x).2 = some (e, T1, S1) := fun hn => h1 _ hn
      unfold kround at h3
      split at h3
      case h_1 => cases h3
      rename_i T2' S2 hp
      obtain ⟨T2, hp2, hT2⟩ := head_congr h2 hp
      have split_ : ∀ (j n : Nat), m ≤ n → loopC (headPr lv 0 c) (xcode P (xcall P prim n) lv n 0 c) (j + 1) T (H x).2 = (match e with | .normal => loopC (headPr lv 0 c) (xcode P (xcall P prim n) lv n 0 c) j T2 S2 | e => some (e, T2, S2)) := fun j n hn => by
        simp only [loopC, body hn]
        cases e <;> simp [hp2]
      cases a with
      | inr r' =>
        simp only [Option.some.injEq] at h
        subst h
        cases e with
        | normal => simp at h3
        | exit id =>
          simp only [Option.some.injEq, Sum.inr.injEq] at h3
          subst h3
          refine ⟨m, T2, hT2, fun n j hn hj => ?_⟩
          obtain ⟨j', rfl⟩ : ∃ j', j = j' + 1 := ⟨j - 1, by omega⟩
          exact split_ j' n hn
        | ret =>
          simp only [Option.some.injEq, Sum.inr.injEq] at h3
          subst h3
          refine ⟨m, T2, hT2, fun n j hn hj => ?_⟩
          obtain ⟨j', rfl⟩ : ∃ j', j = j' + 1 := ⟨j - 1, by omega⟩
          exact split_ j' n hn
      | inl x' =>
        simp only at h
        cases e with
        | exit id => simp at h3
        | ret => simp at h3
        | normal =>
          simp only [Option.some.injEq, Sum.inl.injEq] at h3
          have e1 : T2' = (H x').1 := by rw [← h3]
          have e2 : S2 = (H x').2 := by rw [← h3]
          subst e1 e2
          obtain ⟨m2, T3, q3, q4⟩ := loop_runs hf hlp hs hic k x' T2 r hT2 h
          refine ⟨max m m2, T3, q3, fun n j hn hj => ?_⟩
          obtain ⟨j', rfl⟩ : ∃ j', j = j' + 1 := ⟨j - 1, by omega⟩
          rw [split_ j' n (by omega)]
          exact q4 n j' (by omega) (by omega)

/-- is a state the one that is awaited? -/
noncomputable def at_ {A : Type} (T : Tmps) (S : XS) (T' : Tmps) (S' : XS) (x : Option A) : Option A := open Classical in if T = T' ∧ S = S' then x else none
theorem at_self {A : Type} (T : Tmps) (S : XS) (x : Option A) : at_ T S T S x = x := by unfold at_; rw [if_pos ⟨rfl, rfl⟩]

/-- a loop that is known from where it begins -/
theorem lp_at {A : Type} {prim : XPrim} {lv : Lives} {N fuel : Nat} {X : Type} {K : X → KOr ((Tmps × XS) ⊕ (XExit × Tmps × XS))} (hf : ∀ x n, N ≤ n → FnOK (xcall P prim n) (K x)) {c : Code}
    (hlp : ∀ x c', c' ∈ loopsIn c → ∀ g, (K x).lp (headId c') = some g → LpOK P prim lv c' g) {H : X → Tmps × XS} {step : X → Option (X ⊕ (XExit × Tmps × XS))}
    (hs : ∀ x a, step x = some a → kcode P (xcall P prim N) (K x) lv fuel 0 c (H x).1 (H x).2 (kround lv c) = some (match a with | .inl x' => .inl (H x') | .inr r => .inr r))
    {x : X} {n : Nat} {res : XExit × Tmps × XS} (hr : rounds step n x = some res) {G : (XExit → Tmps → XS → Option A) → Option A} (hG : ∀ k (r : A), G k = some r → k res.1 res.2.1 res.2.2 = some r) (hic : ∀ x, ICOK P prim (K x) := by intro _; exact icNone rfl) :
    LpOK P prim lv c (fun T S k => at_ T S (H x).1 (H x).2 (G k)) := by
  intro T0 T0' S0 k r hT h
  unfold at_ at h
  simp only at h
  split at h
  case isFalse => cases h
  rename_i he
  obtain ⟨rfl, rfl⟩ := he
  obtain ⟨m, T1, q1, q2⟩ := loop_runs hf hlp hs hic n x T0 res hT hr
  exact ⟨max m n, res.1, T1, res.2.1, res.2.2, fun j hj => q2 j j (by omega) (by omega), q1, hG k r h⟩

/-! ### a loop that counts, and looks for what is amiss -/
def firstBad (bad : Nat → Bool) (n k : Nat) : Option Nat := (List.range' k (n - k)).find? bad

theorem scan {R : Type} {n : Nat} {bad : Nat → Bool} {step : Int → Option (Int ⊕ R)} {rb : Nat → R} {re : R} (h1 : ∀ k : Nat, k < n → step k = some (bif bad k then .inr (rb k) else .inl ((k : Int) + 1))) (h2 : step n = some (.inr re)) :
    ∀ (d k : Nat), k + d = n → rounds step (d + 1) k = some (match firstBad bad n k with | some j => rb j | none => re)
  | 0, k, hk => by
    have : k = n := by omega
    subst this
    simp [rounds, h2, firstBad]
  | d + 1, k, hk => by
    rw [rounds, h1 k (by omega)]
    have hr : firstBad bad n k = if bad k then some k else firstBad bad n (k + 1) := by
      unfold firstBad
      rw [show n - k = (n - (k + 1)) + 1 by omega, List.range'_succ, List.find?_cons]
      cases bad k <;> rfl
    cases hb : bad k with
    | true => simp [hr, hb]
    | false =>
      have := scan h1 h2 d (k + 1) (by omega)
      simp only [hr, hb, cond_false, Bool.false_eq_true, if_false]
      exact this

theorem firstBad_none {bad : Nat → Bool} {n : Nat} : firstBad bad n 0 = none ↔ ∀ k, k < n → bad k = false := by
  unfold firstBad
  rw [List.find?_eq_none]
  simp only [List.mem_range', Nat.sub_zero]
  constructor
  · intro h k hk
    have := h k ⟨k, hk, by omega⟩
    simpa using this
  · rintro h x ⟨i, hi, rfl⟩
    have := h (0 + 1 * i) (by omega)
    rw [this]; decide

/-- what a loop that looks for what is amiss comes to -/
def scanned {R : Type} (bad : Nat → Bool) (n : Nat) (rb : Nat → R) (re : R) : R := match firstBad bad n 0 with
  | some j => rb j
  | none => re

theorem scan_loop {prim : XPrim} {lv : Lives} {N fuel : Nat} {K : KOr ((Tmps × XS) ⊕ (XExit × Tmps × XS))} (hf : ∀ n, N ≤ n → FnOK (xcall P prim n) K) {c : Code} (hlp : loopsIn c = []) {n : Nat} {bad : Nat → Bool} {H : Int → Tmps × XS}
    {rb : Nat → XExit × Tmps × XS} {re : XExit × Tmps × XS}
    (h1 : ∀ k : Nat, k < n → kcode P (xcall P prim N) K lv fuel 0 c (H k).1 (H k).2 (kround lv c) = some (bif bad k then .inr (rb k) else .inl (H ((k : Int) + 1))))
    (h2 : kcode P (xcall P prim N) K lv fuel 0 c (H n).1 (H n).2 (kround lv c) = some (.inr re)) {A : Type} {G : (XExit → Tmps → XS → Option A) → Option A}
    (hG : ∀ k (r : A), G k = some r → k (scanned bad n rb re).1 (scanned bad n rb re).2.1 (scanned bad n rb re).2.2 = some r) (hic : ICOK P prim K := by exact icNone rfl) : LpOK P prim lv c (fun T S k => at_ T S (H 0).1 (H 0).2 (G k)) := by
  let step : Int → Option (Int ⊕ (XExit × Tmps × XS)) := fun x => match x with
    | .ofNat k => if k < n then some (bif bad k then .inr (rb k) else .inl ((k : Int) + 1)) else if k = n then some (.inr re) else none
    | _ => none
  have hs : ∀ (k : Nat), step k = if k < n then some (bif bad k then .inr (rb k) else .inl ((k : Int) + 1)) else if k = n then some (.inr re) else none := fun k => rfl
  refine lp_at (fuel := fuel) (K := fun _ => K) (fun _ => hf) (fun _ c' hc => by rw [hlp] at hc; cases hc) (step := step) (fun x a hx => ?_) (x := 0) (n := n + 1) (res := scanned bad n rb re) ?_ hG (fun _ => hic)
  · cases x with
    | negSucc k => cases hx
    | ofNat k =>
      have hx' : step k = some a := hx
      rw [hs] at hx'
      split at hx'
      · rename_i hk
        injection hx' with hx'
        subst hx'
        have := h1 k hk
        refine this.trans ?_
        cases bad k <;> rfl
      · split at hx'
        · rename_i hk
          injection hx' with hx'
          subst hx'
          subst hk
          exact h2
        · cases hx'
  · have := scan (n := n) (bad := bad) (step := step) (rb := rb) (re := re) (fun k hk => by rw [hs, if_pos hk]) (by rw [hs, if_neg (Nat.lt_irrefl _), if_pos rfl]) n 0 (by omega)
    exact this

theorem scanned_eq {R : Type} {bad : Nat → Bool} {n : Nat} {rb : Nat → R} {re : R} : (scanned bad n rb re = re ∧ firstBad bad n 0 = none) ∨ ∃ j, scanned bad n rb re = rb j ∧ firstBad bad n 0 = some j := by
  unfold scanned
  cases firstBad bad n 0 with
  | none => exact .inl ⟨rfl, rfl⟩
  | some j => exact .inr ⟨j, rfl, rfl⟩

/-! ### reading rows of one kind -/
theorem rdB_map {A : Type} (l : List Bool) (o : Nat) (k : Bool → Option A) : rdB (l.map .bool) o k = match l[o]? with | some v => k v | none => none := by
  unfold rdB
  rw [List.getElem?_map]
  cases l[o]? <;> rfl
theorem rdI_map {A : Type} (kd : IntKind) (l : List Int) (o : Nat) (k : Int → Option A) : rdI kd (l.map (.int kd)) o k = match l[o]? with | some v => k v | none => none := by
  unfold rdI
  rw [List.getElem?_map]
  cases l[o]? with
  | none => rfl
  | some v => simp
theorem rdS_map {A : Type} (l : List (List UInt8)) (o : Nat) (k : List UInt8 → Option A) : rdS (l.map .str) o k = match l[o]? with | some v => k v | none => none := by
  unfold rdS
  rw [List.getElem?_map]
  cases l[o]? <;> rfl
theorem within_nat {k n : Nat} (h : k < n) : within (k : Int) n = true := within_iff.2 ⟨by omega, by omega⟩
theorem gd_true {A : Type} (k : Option A) : gd true k = k := rfl

end
end Go.XM

namespace Go.XM
set_option linter.unusedVariables false
set_option linter.unusedSimpArgs false
set_option linter.unusedVariables false

/-! ### functions that are known by a law in plain Lean: of what an encoding gives, the answer -/
section
variable {X Y : Type}

noncomputable def okC (enc : X → List XV) (good : X → Prop) (args : List XV) : Bool := open Classical in decide (∃ x, enc x = args ∧ good x)
noncomputable def valC (enc : X → List XV) (good : X → Prop) (ans : X → Y) (y0 : Y) (args : List XV) : Y := open Classical in if h : ∃ x, enc x = args ∧ good x then ans (Classical.choose h) else y0

structure Known where
  id : Nat
  ar : Nat
  ok : List XV → Bool
  val : List XV → XV

noncomputable def known (id ar : Nat) (enc : X → List XV) (good : X → Prop) (ans : X → Y) (y0 : Y) (shape : Y → XV) : Known := ⟨id, ar, okC enc good, fun args => shape (valC enc good ans y0 args)⟩
def Known.F (e : Known) (args : List XV) : Option XV := cond (e.ok args) (some (e.val args)) none
def Known.e (e : Known) : FnE := ⟨e.id, e.ar, e.F⟩

theorem okC_of {enc : X → List XV} {good : X → Prop} {x : X} (h : good x) : okC enc good (enc x) = true := by
  unfold okC
  exact @decide_eq_true _ (Classical.propDecidable _) ⟨x, rfl, h⟩
theorem valC_of {enc : X → List XV} (hinj : ∀ x y, enc x = enc y → x = y) {good : X → Prop} {ans : X → Y} {y0 : Y} {x : X} (h : good x) : valC enc good ans y0 (enc x) = ans x := by
  unfold valC
  have hex : ∃ x', enc x' = enc x ∧ good x' := ⟨x, rfl, h⟩
  rw [dif_pos hex]
  rw [hinj _ _ (Classical.choose_spec hex).1]
theorem known_inv {id ar : Nat} {enc : X → List XV} {good : X → Prop} {ans : X → Y} {y0 : Y} {shape : Y → XV} (hinj : ∀ x y, enc x = enc y → x = y) {args : List XV} {v : XV} (h : (known id ar enc good ans y0 shape).F args = some v) :
    ∃ x, args = enc x ∧ good x ∧ v = shape (ans x) := by
  unfold Known.F known at h
  simp only at h
  cases hok : okC enc good args with
  | false => rw [hok] at h; cases h
  | true =>
    rw [hok] at h
    simp only [cond_true, Option.some.injEq] at h
    have hex : ∃ x, enc x = args ∧ good x := by
      unfold okC at hok
      exact @of_decide_eq_true _ (Classical.propDecidable _) hok
    obtain ⟨x, rfl, hg⟩ := hex
    refine ⟨x, rfl, hg, ?_⟩
    rw [valC_of hinj hg] at h
    exact h.symm
end

def findK (g : Nat) : List Known → Option Known
  | [] => none
  | e :: r => if Nat.beq e.id g then some e else findK g r

noncomputable def kOfK {A : Type} (l : List Known) (lp : Nat → Option (Tmps → XS → (XExit → Tmps → XS → Option A) → Option A)) : KOr A := ⟨fun g => match findK g l with
  | some e => some fun args k => gd (Nat.beq args.length e.ar && e.ok args) (k (e.val args))
  | none => none, lp, fun _ => none⟩

theorem findK_E (g : Nat) : ∀ l : List Known, findE g (l.map Known.e) = (findK g l).map Known.e
  | [] => rfl
  | e :: r => by
    simp only [List.map_cons, findE, findK]
    have : e.e.id = e.id := rfl
    rw [this]
    split
    · rfl
    · exact findK_E g r

def primK (l : List Known) (live : FuncId → Nat → Option (List Nat)) : XPrim := primOf (l.map Known.e) live

section
variable {P : Program}

/-- the known functions as the machine has them, told from their end -/
theorem primK_fn {A : Type} {l : List Known} {live : FuncId → Nat → Option (List Nat)} {lp : Nat → Option (Tmps → XS → (XExit → Tmps → XS → Option A) → Option A)} (hfit : fitB P (l.map Known.e) = true) {n : Nat} (hn : 1 ≤ n) : FnOK (xcall P (primK l live) n) (kOfK l lp) := by
  intro g F hF
  unfold kOfK at hF
  simp only at hF
  split at hF
  case h_2 => cases hF
  rename_i e he
  injection hF with hF
  subst hF
  have hfe : findE g (l.map Known.e) = some e.e := by rw [findK_E, he]; rfl
  have := primOf_fn (A := A) (P := P) (l := l.map Known.e) (live := live) (lp := lp) hfit hn g (fun args k => match e.e.go args with | some v => k v | none => none) (by
    unfold kOf primOf
    simp only [hfe]
    try rfl)
  obtain ⟨F0, h1, h2, h3⟩ := this
  refine ⟨F0, fun args k r h => h1 args k r ?_, h2, h3⟩
  replace h : cond (Nat.beq args.length e.ar && e.ok args) (k (e.val args)) none = some r := h
  cases hc : (Nat.beq args.length e.ar && e.ok args) with
  | false => rw [hc] at h; cases h
  | true =>
    rw [hc] at h
    simp only [cond_true] at h
    simp only [Bool.and_eq_true] at hc
    have : e.e.go args = some (e.val args) := by
      unfold FnE.go
      rw [if_pos (by exact hc.1)]
      show e.F args = _
      unfold Known.F
      rw [hc.2]; rfl
    simp only [this]
    exact h

theorem fn_run {l : List FnE} {live : FuncId → Nat → Option (List Nat)} {f : FuncId} {fn : Func} {c : Code} (hf : P.funcs[f]? = some fn) (hc : fn.body = some c)
    (hname : (fn.name == "runtime.NumGoroutine") = false) (hcool : coolB (live f) = false) (hnot : findE f l = none) {t : Bool} {N fuel : Nat} {args : List XV} {v : XV} (hlen : args.length ≤ fn.ntmps) {K : KOr XV}
    (hK : ∀ n, N ≤ n → FnOK (xcall P (primOf l live) n) K) (hlp : ∀ c', c' ∈ loopsIn c → ∀ g, K.lp (headId c') = some g → LpOK P (primOf l live) (livesOf fn (live f)) c' g)
    (hk : kcode P (xcall P (primOf l live) N) K (livesOf fn (live f)) fuel 0 c (argsT 0 args []) XS.none (kfin P fn t) = some v) (hic : ICOK P (primOf l live) K := by exact icNone rfl) : ∃ n t, prun P (primOf l live) n f t args = some v := by
  obtain ⟨m, e, T1, T1', S1, h1, h2, h3⟩ := kcode_sound hK hic c (argsT 0 args []) (argsT 0 args []) XS.none _ v hlp (Teq.refl _) hk
  refine ⟨m + 1, t, ?_⟩
  have hpn : (primOf l live).fn f = none := by unfold primOf; simp only [hnot]
  unfold kfin at h3
  have hS : ({ XS.none with log := [] } : XS) = XS.none := rfl
  have hsz : XS.none.size = 0 := rfl
  have run : ∀ (he : e = .normal ∨ e = .ret) l', xresults P T1 S1 fn.results.toList = some l' → (if S1.log.isEmpty && (oneOr l').under 0 then hard t XS.none 50 (oneOr l') else hard t { S1 with log := [] } 50 (oneOr l')) = some v → prun P (primOf l live) (m + 1) f t args = some v := fun he l' hl hr => by
    have h1' : xcode P (xcall P (primOf l live) m) (livesOf fn ((primOf l live).live f)) m XS.none.size c (argsT 0 args []) { XS.none with log := [] } = some (e, T1, S1) := h1 m (Nat.le_refl _)
    unfold prun xcall
    simp only [hf, hc, hname, Bool.false_eq_true, if_false]
    rw [if_neg (by omega)]
    simp only [hpn, h1']
    rw [if_pos he]
    have hcool' : coolB ((primOf l live).live f) = false := hcool
    simp only [hl, hsz, hcool', Bool.false_eq_true, if_false]
    split at hr
    · rename_i hc'
      rw [if_pos hc']
      exact hr
    · rename_i hc'
      rw [if_neg hc']
      simp only
      rw [hard_log] at hr ⊢
      exact hr
  cases e with
  | exit id => cases h3
  | normal =>
    simp only at h3
    rw [← xresults_congr h2] at h3
    split at h3
    · rename_i l' hl; exact run (.inl rfl) l' hl h3
    · cases h3
  | ret =>
    simp only at h3
    rw [← xresults_congr h2] at h3
    split at h3
    · rename_i l' hl; exact run (.inr rfl) l' hl h3
    · cases h3

/-- a function of the program is as a law in plain Lean tells -/
theorem known_pure {X Y : Type} (hm : P.follows .mixedOrders = true) (hg : goodAll P = true) {l : List Known} {live : FuncId → Nat → Option (List Nat)} (hp : ∀ e, e ∈ l → Pure P e.id e.F) (hfit : fitB P (l.map Known.e) = true) {f : FuncId} {fn : Func} {c : Code} (hf : P.funcs[f]? = some fn) (hc : fn.body = some c)
    (hname : (fn.name == "runtime.NumGoroutine") = false) (hnot : findK f l = none) {t : Bool} {N fuel ar : Nat} (hN : 1 ≤ N) (har : ar ≤ fn.ntmps) {enc : X → List XV} {good : X → Prop} {ans : X → Y} {y0 : Y} {shape : Y → XV}
    (hinj : ∀ x y, enc x = enc y → x = y) (hlen : ∀ x, (enc x).length = ar) (h : ∀ x, good x → ∃ lp : Nat → Option (Tmps → XS → (XExit → Tmps → XS → Option XV) → Option XV), (∀ c', c' ∈ loopsIn c → ∀ g, lp (headId c') = some g → LpOK P (primK l live) (livesOf fn (live f)) c' g) ∧
      kcode P (xcall P (primK l live) N) (kOfK l lp) (livesOf fn (live f)) fuel 0 c (argsT 0 (enc x) []) XS.none (kfin P fn t) = some (shape (ans x))) (hcool : coolB (live f) = false := by rfl) : Pure P f (known f ar enc good ans y0 shape).F := by
  refine pure_of hm hg (prim := primK l live) (primOf_ok (fun e he => ?_)) fun args v hv => ?_
  · obtain ⟨e', h1, rfl⟩ := List.mem_map.1 he
    exact hp e' h1
  · obtain ⟨x, rfl, hx, rfl⟩ := known_inv hinj hv
    obtain ⟨lp, hlp, hk⟩ := h x hx
    exact fn_run (l := l.map Known.e) (live := live) (K := kOfK l lp) hf hc hname hcool (by rw [findK_E, hnot]; rfl) (by rw [hlen]; exact har) (fun n hn => primK_fn hfit (Nat.le_trans hN hn)) hlp hk
end

/-! ### a loop that looks for what is amiss, with its two ends -/
noncomputable def ends {A : Type} (H : Int → Tmps × XS) (eb ee : XExit) (bad : Bool) (j : Int) (n : Nat) (k : XExit → Tmps → XS → Option A) : Option A := cond bad (k eb (H j).1 (H j).2) (k ee (H n).1 (H n).2)

/-- is something amiss, and where -/
def amiss (bad : Nat → Bool) (n : Nat) : Bool := (firstBad bad n 0).isSome
def amissAt (bad : Nat → Bool) (n : Nat) : Int := ((firstBad bad n 0).getD 0 : Nat)

theorem amiss_false {bad : Nat → Bool} {n : Nat} : amiss bad n = false ↔ ∀ k, k < n → bad k = false := by
  unfold amiss
  rw [← firstBad_none]
  cases firstBad bad n 0 <;> simp

section
variable {P : Program}
theorem scan_ends {prim : XPrim} {lv : Lives} {N fuel : Nat} {K : KOr ((Tmps × XS) ⊕ (XExit × Tmps × XS))} (hf : ∀ n, N ≤ n → FnOK (xcall P prim n) K) {c : Code} (hlp : loopsIn c = []) {n : Nat} {bad : Nat → Bool} {H : Int → Tmps × XS} {eb ee : XExit}
    (h1 : ∀ k : Nat, k < n → kcode P (xcall P prim N) K lv fuel 0 c (H k).1 (H k).2 (kround lv c) = bif bad k then some (.inr (eb, H k)) else some (.inl (H (IntKind.i64.wrap ((k : Int) + 1)))))
    (h2 : kcode P (xcall P prim N) K lv fuel 0 c (H n).1 (H n).2 (kround lv c) = some (.inr (ee, H n))) (hn : n ≤ maxLen) {A : Type} (hic : ICOK P prim K := by exact icNone rfl) :
    LpOK (A := A) P prim lv c (fun T S k => at_ T S (H 0).1 (H 0).2 (ends H eb ee (amiss bad n) (amissAt bad n) n k)) := by
  refine scan_loop (fuel := fuel) hf hlp (n := n) (bad := bad) (H := H) (rb := fun j => (eb, H j)) (re := (ee, H n)) (fun k hk => ?_) h2 (fun k r h => ?_) hic
  · rw [h1 k hk]
    have hw : IntKind.i64.wrap ((k : Int) + 1) = (k : Int) + 1 := by
      have : maxLen = 9223372036854775807 := by decide
      exact IntWalk.i64_in _ ⟨by omega, by omega⟩
    rw [hw]
    cases bad k <;> rfl
  · unfold ends amiss amissAt at h
    unfold scanned
    cases hb : firstBad bad n 0 with
    | none => rw [hb] at h; exact h
    | some j => rw [hb] at h; exact h
end
end Go.XM

namespace Go.XM
set_option linter.unusedVariables false
set_option linter.unusedSimpArgs false
open Go.RowKit Go.ChangeShapes
set_option linter.unusedVariables false

/-! ### the step to the row -/
section
variable {P : Program}

theorem laid_none (h : P.globalNamed "unicode/utf8.first" = none) (w : World) : Laid P w := fun g3 g4 h3 _ => by rw [h] at h3; cases h3

/-- a law that is known to answer true -/
theorem law_pure {f : FuncId} {F : List XV → Option XV} (hp : Pure P f F) {args : List XV} (hF : F args = some (.bool true)) {args' : List Value} (w : World) (hlaid : Laid P w) (hv : DRs (snap w) args args') :
    Calls P f args'.toArray w fun e w' => e = .returned (.bool true) ∧ Below w.heap.size w w' := by
  refine (hp args _ hF (snap w) w args' (fun _ _ _ q => q) (fun _ _ _ _ q => q) hlaid hv).mono ?_
  rintro e w' ⟨u, z', rfl, _, _, _, _, hd, hb⟩
  cases hd
  exact ⟨rfl, hb⟩

theorem true_pure (hm : P.follows .mixedOrders = true) (hg : goodAll P = true) {n : Nat} {f0 : FuncId} (hx : yes (xcall P noPrim n f0 [] 0 XS.none) = true) {Y : Type} {good : Unit → Prop} : Pure P f0 (known f0 0 (fun _ : Unit => []) good (fun _ => true) true .bool).F := by
  refine pure_of hm hg primOK_none fun args v hv => ?_
  obtain ⟨x, rfl, _, rfl⟩ := known_inv (fun _ _ _ => rfl) hv
  obtain ⟨S', h⟩ := yes_spec hx
  exact ⟨n, false, by unfold prun; rw [h]; exact hard_bool _ _ _⟩

section
variable {H : Type} {enc : TypeId × Value → H}
/-- behind a call that turned nothing that was, the arguments read as they did -/
theorem trodAll_again {w w' : World} {sp : Nat → Bool} {T : TypeId → Prop} (K : Kids P T) (hz : ∀ t e, T t → P.underlying t = some (.slice e) → 0 < P.cellsOf e) {ts : List TypeId} {vs : List Value} {ds : List (DataW H)} {ps : List MemPlace} (hT : ∀ t ∈ ts, T t)
    (h : DataW.TrodAll enc P w 0 (fun _ => true) true ts vs ds ps) (hb : Below w.heap.size w w') (hlt : ∀ p ∈ ps, p.block < w.heap.size) (hsp : ∀ p ∈ ps, sp p.block = true) : DataW.TrodAll enc P w' 0 sp true ts vs ds ps := by
  have h1 := h.respare K hz hT hsp
  clear h hsp
  induction ts generalizing vs ds ps with
  | nil =>
    match vs, ds, h1 with
    | [], [], h1 => exact h1
    | _ :: _, _, h1 => exact h1.elim
    | [], _ :: _, h1 => exact h1.elim
  | cons t ts ih =>
    match vs, ds, h1 with
    | [], _, h1 => exact h1.elim
    | _ :: _, [], h1 => exact h1.elim
    | v :: vs, d :: ds, ⟨p, q, ⟨n, k1⟩, k2, e⟩ =>
      subst e
      exact ⟨p, q, ⟨n, DataW.trod_carry n _ _ _ k1 fun x hx => hb.same (hlt x (List.mem_append_left _ hx))⟩, ih (fun t ht => hT t (by simp [ht])) (fun x hx => hlt x (List.mem_append_right _ hx)) k2, rfl⟩

/-- a struct of more cells than one is a row of cells -/
theorem agg_of {w : World} {b : Nat} {sp : Nat → Bool} {hd : Bool} {fuel : Nat} {t : TypeId} {fs : Array Field} {v : Value} {x : DataW H × List MemPlace} (ht : P.underlying t = some (.struct fs)) (hn : P.cellsOf t ≠ 1) (h : DataW.trod enc P w b sp hd fuel t v.cells.toList = some x) : ∃ cs : List Value, v = .agg cs.toArray ∧ v.cells.toList = cs := by
  obtain ⟨xs, n, _, _, hl, _, _⟩ := DataW.trod_struct ht h
  cases v with
  | agg cs => exact ⟨cs.toList, rfl, rfl⟩
  | _ => simp only [Value.cells] at hl; exact absurd hl.symm hn
end

/-! ### rows of one kind -/
theorem els_map {α : Type} {f : α → XV} {p : α → Prop} : ∀ els : List (List XV), (∀ el, el ∈ els → ∃ a, el = [f a] ∧ p a) → ∃ l : List α, els.flatten = l.map f ∧ els.length = l.length ∧ ∀ a, a ∈ l → p a
  | [], _ => ⟨[], rfl, rfl, fun a h => by cases h⟩
  | el :: els, h => by
    obtain ⟨a, rfl, ha⟩ := h el (by simp)
    obtain ⟨l, h1, h2, h3⟩ := els_map els fun e he => h e (by simp [he])
    refine ⟨a :: l, by simp [h1], by simp [h2], fun b hb => ?_⟩
    rcases List.mem_cons.1 hb with rfl | hb
    · exact ha
    · exact h3 b hb

theorem shaped_ints {n : Nat} {t e : TypeId} {k : IntKind} {xs : List XV} (ht : P.underlying t = some (.slice e)) (he : P.underlying e = some (.int k)) (h : Shaped P (n + 2) t xs) :
    ∃ l : List Int, xs = [.row false false (l.map (.int k)) l.length] ∧ l.length ≤ maxLen ∧ ∀ i, i ∈ l → (Lit.int k i).wf = true := by
  unfold Shaped at h
  simp only [ht] at h
  obtain ⟨els, rfl, hl, hels⟩ := h
  obtain ⟨l, h1, h2, h3⟩ := els_map (f := .int k) (p := fun i => (Lit.int k i).wf = true) els fun el hel => by
    have := (hels el hel).1
    unfold Shaped at this
    simp only [he] at this
    exact this
  exact ⟨l, by rw [h1, h2], by omega, h3⟩
theorem shaped_bools {n : Nat} {t e : TypeId} {xs : List XV} (ht : P.underlying t = some (.slice e)) (he : P.underlying e = some .bool) (h : Shaped P (n + 2) t xs) :
    ∃ l : List Bool, xs = [.row false false (l.map .bool) l.length] ∧ l.length ≤ maxLen := by
  unfold Shaped at h
  simp only [ht] at h
  obtain ⟨els, rfl, hl, hels⟩ := h
  obtain ⟨l, h1, h2, h3⟩ := els_map (f := .bool) (p := fun _ => True) els fun el hel => by
    have := (hels el hel).1
    unfold Shaped at this
    simp only [he] at this
    obtain ⟨b, hb⟩ := this
    exact ⟨b, hb, trivial⟩
  exact ⟨l, by rw [h1, h2], by omega⟩

/-! ### reading at a number that is in -/
theorem rdB_at {A : Type} (l : List Bool) (k : Nat) (h : k < l.length) (f : Bool → Option A) : rdB (l.map .bool) ((k : Int).toNat * 1) f = f (l.getD k false) := by
  rw [rdB_map]
  simp [h]
theorem rdI_at {A : Type} (kd : IntKind) (l : List Int) (k : Nat) (h : k < l.length) (f : Int → Option A) : rdI kd (l.map (.int kd)) ((k : Int).toNat * 1) f = f (l.getD k 0) := by
  rw [rdI_map]
  simp [h]
theorem ilt_nat {k n : Nat} : ilt (k : Int) (n : Int) = decide (k < n) := by
  rw [ilt_eq]
  simp
end
end Go.XM

namespace Go.XM
set_option linter.unusedVariables false
set_option linter.unusedSimpArgs false
set_option linter.unusedVariables false
set_option linter.unusedSimpArgs false

/-! ### calls that are run in their callers' stead -/
section
variable {A : Type}

/-- what a call has written of its caller's elder cells; a caller that has none need not look -/
def klog (base : Nat) (l0 l : List (Nat × Nat)) : List (Nat × Nat) := match base with
  | 0 => l0
  | b + 1 => (l.filter fun p => p.1 < b + 1) ++ l0
theorem klog_eq (base : Nat) (l0 l : List (Nat × Nat)) : klog base l0 l = (l.filter fun p => p.1 < base) ++ l0 := by
  cases base with
  | zero =>
    have : (l.filter fun p => decide (p.1 < 0)) = [] := List.filter_eq_nil_iff.2 (fun p _ => by simp)
    simp only [klog, this, List.nil_append]
  | succ b => rfl

noncomputable def kback (P : Program) (fn : Func) (base : Nat) (S : XS) (k : XV → XS → Option A) (e : XExit) (T : Tmps) (S1 : XS) : Option A :=
  match e with
  | .exit _ => none
  | _ => match xresults P T S1 fn.results.toList with
    | some l => cond ((oneOr l).under S.size && S1.log.isEmpty) (k (oneOr l) S) (k (oneOr l) { S1 with log := klog base S.log S1.log })
    | none => none

noncomputable def kinl (P : Program) (call : XCallFn) (fn : Func) (c : Code) (lv : Lives) (fuel : Nat) (K : KOr A) (args : List XV) (base : Nat) (S : XS) (k : XV → XS → Option A) : Option A :=
  gd (Nat.ble args.length fn.ntmps) (kcode P call K lv fuel S.size c (argsT 0 args []) { S with log := [] } (kback P fn base S k))

variable {P : Program}
theorem kinl_sound {prim : XPrim} {N fuel : Nat} {g : FuncId} {fn : Func} {c : Code} (hf : P.funcs[g]? = some fn) (hc : fn.body = some c) (hname : (fn.name == "runtime.NumGoroutine") = false) (hcool : coolB (prim.live g) = false) (hprim : prim.fn g = none)
    {K : KOr A} (hK : ∀ n, N ≤ n → FnOK (xcall P prim n) K) (hic : ICOK P prim K) {args : List XV} {base : Nat} {S : XS} {k : XV → XS → Option A} {r : A}
    (hlp : ∀ c', c' ∈ loopsIn c → ∀ g', K.lp (headId c') = some g' → LpOKb S.size P prim (livesOf fn (prim.live g)) c' g')
    (h : kinl P (xcall P prim N) fn c (livesOf fn (prim.live g)) fuel K args base S k = some r) : ∃ m v S', xcall P prim m g args base S = some (v, S') ∧ k v S' = some r := by
  unfold kinl at h
  obtain ⟨hlen, h⟩ := gd_some h
  have hlen := (bleI _ _).1 hlen
  obtain ⟨m, e, T1, T1', S1, h1, h2, h3⟩ := kcode_sound hK hic c (argsT 0 args []) (argsT 0 args []) { S with log := [] } _ r hlp (Teq.refl _) h
  refine ⟨m + 1, ?_⟩
  have h1' := h1 m (Nat.le_refl _)
  have run : ∀ (he : e = .normal ∨ e = .ret) l', xresults P T1 S1 fn.results.toList = some l' → cond (S1.log.isEmpty && (oneOr l').under S.size) (k (oneOr l') S) (k (oneOr l') { S1 with log := (S1.log.filter fun p => p.1 < base) ++ S.log }) = some r →
      ∃ v S', xcall P prim (m + 1) g args base S = some (v, S') ∧ k v S' = some r := fun he l' hl hr => by
    unfold xcall
    simp only [hf, hc, hname, Bool.false_eq_true, if_false]
    rw [if_neg (by omega)]
    simp only [hprim, h1']
    rw [if_pos he]
    simp only [hl, hcool, Bool.false_eq_true, if_false]
    cases hq : (S1.log.isEmpty && (oneOr l').under S.size) with
    | true => rw [hq] at hr; exact ⟨_, _, by rw [if_pos rfl], hr⟩
    | false => rw [hq] at hr; exact ⟨_, _, by rw [if_neg (by decide)], hr⟩
  unfold kback at h3
  simp only [klog_eq, Bool.and_comm ((oneOr _).under S.size)] at h3
  cases e with
  | exit id => cases h3
  | normal =>
    simp only at h3
    rw [← xresults_congr h2] at h3
    split at h3
    · rename_i l' hl; exact run (.inl rfl) l' hl h3
    · cases h3
  | ret =>
    simp only at h3
    rw [← xresults_congr h2] at h3
    split at h3
    · rename_i l' hl; exact run (.inr rfl) l' hl h3
    · cases h3

abbrev Loops (A : Type) := Nat → Option (Tmps → XS → (XExit → Tmps → XS → Option A) → Option A)

/-! ### a loop whose rounds are known in number: round for round -/
noncomputable def kunroll (P : Program) (call : XCallFn) (K : KOr A) (lv : Lives) (fuel base : Nat) (c : Code) : Nat → Tmps → XS → (XExit → Tmps → XS → Option A) → Option A
  | 0, _, _, _ => none
  | d + 1, T, S, k => kcode P call K lv fuel base c T S fun e T1 S1 => match headPr lv base c T1 S1 with
    | none => none
    | some (T2, S2) => match e with
      | .normal => kunroll P call K lv fuel base c d T2 S2 k
      | .exit id => k (.exit id) T2 S2
      | .ret => k .ret T2 S2

theorem kunroll_sound {prim : XPrim} {N fuel base : Nat} {lv : Lives} {c : Code} {K : KOr A} (hK : ∀ n, N ≤ n → FnOK (xcall P prim n) K) (hic : ICOK P prim K) (hlp : ∀ c', c' ∈ loopsIn c → ∀ g', K.lp (headId c') = some g' → LpOKb base P prim lv c' g') :
    ∀ (d : Nat) (T0 T0' : Tmps) (S0 : XS) (k : XExit → Tmps → XS → Option A) (r : A), Teq T0 T0' → kunroll P (xcall P prim N) K lv fuel base c d T0' S0 k = some r →
    ∃ m e T1 T1' S1, (∀ n j, m ≤ n → d ≤ j → loopC (headPr lv base c) (xcode P (xcall P prim n) lv n base c) j T0 S0 = some (e, T1, S1)) ∧ Teq T1 T1' ∧ k e T1' S1 = some r
  | 0, T0, T0', S0, k, r, hT, h => by cases h
  | d + 1, T0, T0', S0, k, r, hT, h => by
    simp only [kunroll] at h
    obtain ⟨m, e, T1, T1', S1, h1, h2, h3⟩ := kcode_sound hK hic c T0 T0' S0 _ r hlp hT h
    have body : ∀ {n : Nat}, m ≤ n → xcode P (xcall P prim n) lv n base c T0 S0 = some (e, T1, S1) := fun hn => h1 _ hn
    split at h3
    case h_1 => cases h3
    rename_i T2' S2 hp
    obtain ⟨T2, hp2, hT2⟩ := head_congr h2 hp
    cases e with
    | normal =>
      simp only at h3
      obtain ⟨m2, e2, T3, T3', S3, q1, q2, q3⟩ := kunroll_sound hK hic hlp d T2 T2' S2 k r hT2 h3
      refine ⟨max m m2, e2, T3, T3', S3, fun n j hn hj => ?_, q2, q3⟩
      obtain ⟨j', rfl⟩ : ∃ j', j = j' + 1 := ⟨j - 1, by omega⟩
      simp only [loopC, body (show m ≤ n by omega), hp2]
      exact q1 n j' (by omega) (by omega)
    | exit id =>
      simp only at h3
      refine ⟨m, .exit id, T2, T2', S2, fun n j hn hj => ?_, hT2, h3⟩
      obtain ⟨j', rfl⟩ : ∃ j', j = j' + 1 := ⟨j - 1, by omega⟩
      simp only [loopC, body hn, hp2]
    | ret =>
      simp only at h3
      refine ⟨m, .ret, T2, T2', S2, fun n j hn hj => ?_, hT2, h3⟩
      obtain ⟨j', rfl⟩ : ∃ j', j = j' + 1 := ⟨j - 1, by omega⟩
      simp only [loopC, body hn, hp2]

theorem kunroll_ok {prim : XPrim} {N fuel base : Nat} {lv : Lives} {c : Code} {K : KOr A} (hK : ∀ n, N ≤ n → FnOK (xcall P prim n) K) (hic : ICOK P prim K) (hlp : ∀ c', c' ∈ loopsIn c → ∀ g', K.lp (headId c') = some g' → LpOKb base P prim lv c' g') (d : Nat) :
    LpOKb base P prim lv c (kunroll P (xcall P prim N) K lv fuel base c d) := fun T0 T0' S0 k r hT h => by
  obtain ⟨m, e, T1, T1', S1, h1, h2, h3⟩ := kunroll_sound hK hic hlp d T0 T0' S0 k r hT h
  exact ⟨max m d, e, T1, T1', S1, fun n hn => h1 n n (by omega) (by omega), h2, h3⟩

/-- the loops of a piece of code, each by its head; of two that share a head, none -/
noncomputable def unrollLp (P : Program) (call : XCallFn) (K : KOr A) (lv : Lives) (fuel base d : Nat) (c : Code) : Loops A := fun id => match (loopsIn c).filter fun c' => Nat.beq (headId c') id with
  | [c'] => some (kunroll P call K lv fuel base c' d)
  | _ => none

theorem unrollLp_ok {prim : XPrim} {N fuel base d : Nat} {lv : Lives} {c : Code} {K : KOr A} (hK : ∀ n, N ≤ n → FnOK (xcall P prim n) K) (hic : ICOK P prim K) (hlp : K.lp = fun _ => none) :
    ∀ c', c' ∈ loopsIn c → ∀ g', unrollLp P (xcall P prim N) K lv fuel base d c (headId c') = some g' → LpOKb base P prim lv c' g' := fun c' hc g' hg => by
  unfold unrollLp at hg
  split at hg
  · rename_i c'' hq
    injection hg with hg
    subst hg
    have : c' ∈ (loopsIn c).filter fun x => Nat.beq (headId x) (headId c') := List.mem_filter.2 ⟨hc, Nat.beq_refl _⟩
    rw [hq] at this
    have := List.mem_singleton.1 this
    subst this
    exact kunroll_ok hK hic (fun _ _ g' hg' => by rw [hlp] at hg'; cases hg') d
  · cases hg

/-- the functions of 'I' are run in their callers' stead, so deep; their loops round for round -/
noncomputable def kOfI (P : Program) (l : List Known) (live : FuncId → Nat → Option (List Nat)) (I : List Nat) (N fuel : Nat) : Nat → Loops A → KOr A
  | 0, lp => kOfK l lp
  | d + 1, lp => ⟨(kOfK l lp).fn, lp, fun g => match I.any (Nat.beq g) && !coolB (live g), findK g l, P.funcs[g]? with
    | true, none, some fn => match fn.body with
      | some c => (match fn.name == "runtime.NumGoroutine" with
        | true => none
        | false => some (fun args base S k => kinl P (xcall P (primK l live) N) fn c (livesOf fn (live g)) fuel
            ⟨(kOfI P l live I N fuel d fun _ => none).fn, unrollLp P (xcall P (primK l live) N) (kOfI P l live I N fuel d fun _ => none) (livesOf fn (live g)) fuel S.size 20 c, (kOfI P l live I N fuel d fun _ => none).ic⟩ args base S k))
      | none => none
    | _, _, _ => none⟩

theorem kOfI_lp {l : List Known} {live : FuncId → Nat → Option (List Nat)} {I : List Nat} {N fuel : Nat} : ∀ d (lp : Loops A), (kOfI P l live I N fuel d lp).lp = lp
  | 0, lp => rfl
  | d + 1, lp => rfl
theorem kOfI_fn {l : List Known} {live : FuncId → Nat → Option (List Nat)} {I : List Nat} {N fuel : Nat} (hfit : fitB P (l.map Known.e) = true) {n : Nat} (hn : 1 ≤ n) : ∀ d (lp : Loops A), FnOK (xcall P (primK l live) n) (kOfI P l live I N fuel d lp)
  | 0, lp => primK_fn hfit hn
  | d + 1, lp => fun g F hF => primK_fn (lp := lp) hfit hn g F hF
theorem kOfI_ic {l : List Known} {live : FuncId → Nat → Option (List Nat)} {I : List Nat} {N fuel : Nat} (hfit : fitB P (l.map Known.e) = true) (hN : 1 ≤ N) : ∀ d (lp : Loops A), ICOK P (primK l live) (kOfI P l live I N fuel d lp)
  | 0, lp => icNone rfl
  | d + 1, lp => fun g F hF args base S k r h => by
    unfold kOfI at hF
    simp only at hF
    split at hF
    case h_2 => cases hF
    rename_i fn h1 h2 h3
    split at hF
    case h_2 => cases hF
    rename_i c hc
    split at hF
    case h_1 => cases hF
    rename_i hname
    injection hF with hF
    subst hF
    have hprim : (primK l live).fn g = none := by
      unfold primK primOf
      simp only [findK_E, h2]
      rfl
    have hfn : ∀ n, N ≤ n → FnOK (xcall P (primK l live) n) (kOfI P l live I N fuel d fun _ => none : KOr A) := fun n hn => kOfI_fn hfit (Nat.le_trans hN hn) d _
    have hicd : ICOK P (primK l live) (kOfI P l live I N fuel d fun _ => none : KOr A) := kOfI_ic hfit hN d _
    exact kinl_sound (K := ⟨(kOfI P l live I N fuel d fun _ => none).fn, unrollLp P (xcall P (primK l live) N) (kOfI P l live I N fuel d fun _ => none) (livesOf fn (live g)) fuel S.size 20 c, (kOfI P l live I N fuel d fun _ => none).ic⟩)
      h3 hc hname (by have := h1; simp only [Bool.and_eq_true, Bool.not_eq_true'] at this; exact this.2) hprim (fun n hn g F hF => hfn n hn g F hF) (fun g F hF => hicd g F hF) (unrollLp_ok hfn hicd (kOfI_lp d _)) h

/-- a function of the program is as a law in plain Lean tells; the functions of 'I' are run in their callers' stead -/
theorem known_pureI {X Y : Type} (hm : P.follows .mixedOrders = true) (hg : goodAll P = true) {l : List Known} {live : FuncId → Nat → Option (List Nat)} {I : List Nat} {d : Nat} (hp : ∀ e, e ∈ l → Pure P e.id e.F) (hfit : fitB P (l.map Known.e) = true) {f : FuncId} {fn : Func} {c : Code} (hf : P.funcs[f]? = some fn) (hc : fn.body = some c)
    (hname : (fn.name == "runtime.NumGoroutine") = false) (hnot : findK f l = none) {t : Bool} {N fuel ar : Nat} (hN : 1 ≤ N) (har : ar ≤ fn.ntmps) {enc : X → List XV} {good : X → Prop} {ans : X → Y} {y0 : Y} {shape : Y → XV}
    (hinj : ∀ x y, enc x = enc y → x = y) (hlen : ∀ x, (enc x).length = ar) (h : ∀ x, good x → ∃ lp : Loops XV, (∀ c', c' ∈ loopsIn c → ∀ g, lp (headId c') = some g → LpOK P (primK l live) (livesOf fn (live f)) c' g) ∧
      kcode P (xcall P (primK l live) N) (kOfI P l live I N fuel d lp) (livesOf fn (live f)) fuel 0 c (argsT 0 (enc x) []) XS.none (kfin P fn t) = some (shape (ans x))) (hcool : coolB (live f) = false := by rfl) : Pure P f (known f ar enc good ans y0 shape).F := by
  refine pure_of hm hg (prim := primK l live) (primOf_ok (fun e he => ?_)) fun args v hv => ?_
  · obtain ⟨e', h1, rfl⟩ := List.mem_map.1 he
    exact hp e' h1
  · obtain ⟨x, rfl, hx, rfl⟩ := known_inv hinj hv
    obtain ⟨lp, hlp, hk⟩ := h x hx
    exact fn_run (l := l.map Known.e) (live := live) (K := kOfI P l live I N fuel d lp) hf hc hname hcool (by rw [findK_E, hnot]; rfl) (by rw [hlen]; exact har) (fun n hn => kOfI_fn hfit (Nat.le_trans hN hn) d lp)
      (fun c' hc' g hg' => hlp c' hc' g (by rw [kOfI_lp] at hg'; exact hg')) hk (kOfI_ic hfit hN d lp)
end
end Go.XM

namespace Go.XM
set_option linter.unusedVariables false
set_option linter.unusedSimpArgs false
set_option linter.unusedVariables false
set_option linter.unusedSimpArgs false

/-! ### a loop that counts, carries a state, and may break off -/
section
variable {Q R : Type}

def iterD (step : Nat → Q → Q ⊕ R) : (d k : Nat) → Q → Q ⊕ R
  | 0, _, s => .inl s
  | d + 1, k, s => match step k s with
    | .inl s' => iterD step d (k + 1) s'
    | .inr r => .inr r

/-- where a loop goes on: behind it, or out of it -/
def iends {A : Type} (H : Int → Q → Tmps × XS) (rb : R → XExit × Tmps × XS) (ee : XExit) (n : Nat) (res : Q ⊕ R) (k : XExit → Tmps → XS → Option A) : Option A := match res with
  | .inl s => k ee (H n s).1 (H n s).2
  | .inr r => k (rb r).1 (rb r).2.1 (rb r).2.2

variable {P : Program}
theorem iter_loop {prim : XPrim} {lv : Lives} {N fuel : Nat} {n : Nat} {K : Nat → Q → KOr ((Tmps × XS) ⊕ (XExit × Tmps × XS))} (inv : Nat → Q → Prop) (hf : ∀ k s n, N ≤ n → FnOK (xcall P prim n) (K k s)) {c : Code} (hlp : ∀ k s, k ≤ n → inv k s → ∀ c', c' ∈ loopsIn c → ∀ g, (K k s).lp (headId c') = some g → LpOK P prim lv c' g)
    {H : Int → Q → Tmps × XS} {s0 : Q} {step : Nat → Q → Q ⊕ R} {rb : R → XExit × Tmps × XS} {ee : XExit} (h0 : inv 0 s0) (hinv : ∀ k s s', k < n → inv k s → step k s = .inl s' → inv (k + 1) s')
    (h1 : ∀ (k : Nat) s, k < n → inv k s → kcode P (xcall P prim N) (K k s) lv fuel 0 c (H k s).1 (H k s).2 (kround lv c) = some (match step k s with | .inl s' => .inl (H ((k + 1 : Nat) : Int) s') | .inr r => .inr (rb r)))
    (h2 : ∀ s, inv n s → kcode P (xcall P prim N) (K n s) lv fuel 0 c (H n s).1 (H n s).2 (kround lv c) = some (.inr (ee, H n s))) {A : Type} (hic : ∀ k s, ICOK P prim (K k s) := by intro _ _; exact icNone rfl) :
    LpOK (A := A) P prim lv c (fun T S k => at_ T S (H 0 s0).1 (H 0 s0).2 (iends H rb ee n (iterD step n 0 s0) k)) := by
  let X := { p : Nat × Q // p.1 ≤ n ∧ inv p.1 p.2 }
  let f : X → Option (X ⊕ (XExit × Tmps × XS)) := fun x =>
    if h : x.1.1 < n then match hs : step x.1.1 x.1.2 with
      | .inl s' => some (.inl ⟨(x.1.1 + 1, s'), h, hinv _ _ _ h x.2.2 hs⟩)
      | .inr r => some (.inr (rb r))
    else some (.inr (ee, H n x.1.2))
  have hrun : ∀ (d k : Nat) (s : Q) (hx : k ≤ n ∧ inv k s), k + d = n → rounds f (d + 1) ⟨(k, s), hx⟩ = some (match iterD step d k s with | .inl s => (ee, H n s) | .inr r => rb r) := by
    intro d
    induction d with
    | zero =>
      intro k s hx hk
      have : ¬ k < n := by omega
      simp only [rounds, f]
      rw [dif_neg this]
      rfl
    | succ d ih =>
      intro k s hx hk
      have hlt : k < n := by omega
      rw [rounds]
      simp only [f]
      rw [dif_pos hlt]
      simp only [iterD]
      split
      · rename_i x' hq
        split at hq
        · rename_i s' hs
          simp only [Option.some.injEq, Sum.inl.injEq] at hq
          subst hq
          simp only [hs]
          exact ih (k + 1) s' _ (by omega)
        · cases hq
      · rename_i r' hq
        split at hq
        · cases hq
        · rename_i r hs
          simp only [Option.some.injEq, Sum.inr.injEq] at hq
          subst hq
          simp only [hs]
      · rename_i hq
        split at hq <;> cases hq
  have := lp_at (A := A) (fuel := fuel) (K := fun x : X => K x.1.1 x.1.2) (fun _ => hf _ _) (fun x => hlp _ _ x.2.1 x.2.2) (H := fun x => H x.1.1 x.1.2) (step := f) (fun x a hx => ?_) (x := ⟨(0, s0), Nat.zero_le _, h0⟩) (n := n + 1) (hrun n 0 s0 _ (by omega)) (G := iends H rb ee n (iterD step n 0 s0)) (fun k r h => ?_) (fun _ => hic _ _)
  · exact this
  · obtain ⟨⟨k, s⟩, hk, hi⟩ := x
    simp only [f] at hx
    split at hx
    · rename_i hlt
      rw [h1 k s hlt hi]
      split at hx
      · rename_i s' hs
        injection hx with hx
        subst hx
        simp only [hs]
      · rename_i r hs
        injection hx with hx
        subst hx
        simp only [hs]
    · rename_i hlt
      injection hx with hx
      subst hx
      simp only at hlt hk hi ⊢
      have hkn : k = n := by omega
      subst hkn
      exact h2 s hi
  · unfold iends at h
    cases hr : iterD step n 0 s0 with
    | inl s => rw [hr] at h; exact h
    | inr r => rw [hr] at h; exact h

def cntD (step : Nat → Q → Q) : (d k : Nat) → Q → Q
  | 0, _, s => s
  | d + 1, k, s => cntD step d (k + 1) (step k s)
theorem iterD_cnt (step : Nat → Q → Q) : ∀ d k s, iterD (R := R) (fun k s => .inl (step k s)) d k s = .inl (cntD step d k s)
  | 0, _, _ => rfl
  | d + 1, k, s => iterD_cnt step d (k + 1) (step k s)

/-- a loop that counts and carries a state, and never breaks off -/
theorem count_loop {prim : XPrim} {lv : Lives} {N fuel : Nat} {n : Nat} {K : Nat → Q → KOr ((Tmps × XS) ⊕ (XExit × Tmps × XS))} (inv : Nat → Q → Prop) (hf : ∀ k s n, N ≤ n → FnOK (xcall P prim n) (K k s)) {c : Code} (hlp : ∀ k s, k ≤ n → inv k s → ∀ c', c' ∈ loopsIn c → ∀ g, (K k s).lp (headId c') = some g → LpOK P prim lv c' g)
    {H : Int → Q → Tmps × XS} {s0 : Q} {step : Nat → Q → Q} {ee : XExit} (h0 : inv 0 s0) (hinv : ∀ k s, k < n → inv k s → inv (k + 1) (step k s))
    (h1 : ∀ (k : Nat) s, k < n → inv k s → kcode P (xcall P prim N) (K k s) lv fuel 0 c (H k s).1 (H k s).2 (kround lv c) = some (.inl (H ((k + 1 : Nat) : Int) (step k s))))
    (h2 : ∀ s, inv n s → kcode P (xcall P prim N) (K n s) lv fuel 0 c (H n s).1 (H n s).2 (kround lv c) = some (.inr (ee, H n s))) {A : Type} (hic : ∀ k s, ICOK P prim (K k s) := by intro _ _; exact icNone rfl) :
    LpOK (A := A) P prim lv c (fun T S k => at_ T S (H 0 s0).1 (H 0 s0).2 (k ee (H n (cntD step n 0 s0)).1 (H n (cntD step n 0 s0)).2)) := by
  have := iter_loop (A := A) (R := Empty) (rb := fun r => r.elim) (step := fun k s => .inl (step k s)) inv hf hlp (H := H) (s0 := s0) (ee := ee) h0 (fun k s s' hk hi hs => by injection hs with hs; subst hs; exact hinv k s hk hi) h1 h2 hic
  rw [iterD_cnt] at this
  exact this

theorem inc_nat {k : Nat} (h : k < maxLen) : IntKind.i64.wrap ((k : Int) + 1) = ((k + 1 : Nat) : Int) := by
  have : maxLen = 9223372036854775807 := by decide
  rw [IntWalk.i64_in _ ⟨by omega, by omega⟩]
  omega
theorem ilt_of {k : Int} {n : Int} (h : k < n) : ilt k n = true := by rw [ilt_eq, decide_eq_true h]
theorem ilt_not {k : Int} {n : Int} (h : ¬ k < n) : ilt k n = false := by rw [ilt_eq, decide_eq_false h]
theorem ile_of {k : Int} {n : Int} (h : k ≤ n) : ile k n = true := by rw [ile_eq, decide_eq_true h]
theorem ile_not {k : Int} {n : Int} (h : ¬ k ≤ n) : ile k n = false := by rw [ile_eq, decide_eq_false h]
theorem upto_of {i : Int} {n : Nat} (h : 0 ≤ i ∧ i ≤ n) : upto i n = true := upto_iff.2 h
theorem within_of {i : Int} {n : Nat} (h : 0 ≤ i ∧ i < n) : within i n = true := within_iff.2 h
theorem okC_at {X : Type} {enc : X → List XV} {good : X → Prop} {args : List XV} (x : X) (h : enc x = args) (hg : good x) : okC enc good args = true := h ▸ okC_of hg
theorem valC_at {X Y : Type} {enc : X → List XV} (hinj : ∀ x y, enc x = enc y → x = y) {good : X → Prop} {ans : X → Y} {y0 : Y} {args : List XV} (x : X) (h : enc x = args) (hg : good x) : valC enc good ans y0 args = ans x := h ▸ valC_of hinj hg
end
end Go.XM
