/- A plain machine beside the model, and that what it tells the model does: part Xc. Conditions: those of each theorem below. -/
import Derived.Test.YtlaamopkgopleaaXb
namespace Go.XM
set_option linter.unusedVariables false
set_option linter.unusedSimpArgs false
noncomputable section

inductive XExit where
  | normal | exit (id : Nat) | ret
  deriving DecidableEq

abbrev XCallFn := FuncId → List XV → Nat → XS → Option (XV × XS)

/-- one operation, calls too -/
def xstep (P : Program) (call : XCallFn) (base : Nat) (o : Oper) (T : Tmps) (S : XS) : Option (XV × XS) :=
  match o.op with
  | .call c => match c.callee with
    | .value f => match evalX T f, evalAll T c.args.toList with
      | some (.func g caps), some xs => call g (xs ++ caps) base S
      | _, _ => none
    | _ => xop P base o T S
  | _ => xop P base o T S

/-- is an operation wanted? none: its guard's temporary was given up -/
def wantedX (ops : List Oper) (T : Tmps) (o : Oper) : Option Bool :=
  match o.guard with
  | none => some true
  | some (j, want) => match (ops[j]?).bind (·.dst) with
    | some d => match tget T d with
      | .bool b => some (b == want)
      | .dead => none
      | _ => some false
    | none => some false

def putX (T : Tmps) (dst : Option Tmp) (v : XV) : Tmps :=
  match dst with
  | some d => tset T d v
  | none => T

/-- a region in the order of its text -/
def xops (P : Program) (call : XCallFn) (base : Nat) (ops : List Oper) : List Oper → Tmps → XS → Option (Tmps × XS)
  | [], T, S => some (T, S)
  | o :: rest, T, S =>
    match wantedX ops T o with
    | some true => (match xstep P call base o T S with
      | some (v, S') => xops P call base ops rest (putX T o.dst v) S'
      | none => none)
    | some false => xops P call base ops rest (putX T o.dst (.tuple [])) S
    | none => none

/-- the operations that surely come ahead of each one -/
def directs (o : Oper) : List Nat := (o.after.toList.filter (Region.binds .any)).map (·.on)
def predsFrom (acc : List (List Nat)) : List Oper → List (List Nat)
  | [] => acc
  | o :: r => predsFrom (acc ++ [((directs o).flatMap fun j => j :: acc.getD j [])]) r
def predsOf (ops : List Oper) : List (List Nat) := predsFrom [] ops

def ordered (pr : List (List Nat)) (i j : Nat) : Bool := (pr.getD i []).contains j || (pr.getD j []).contains i

/-- what operations of open order against i have written -/
def openW (pr : List (List Nat)) (Wd : List (List (Nat × Nat))) (i : Nat) : List (Nat × Nat) :=
  ((List.range Wd.length).filter fun j => j != i && !ordered pr i j).flatMap fun j => Wd.getD j []

def XS.poison1 (S : XS) (p : Nat × Nat) : XS :=
  match S.get p.1 with
  | .cells cs k => S.put p.1 (.cells (cs.set p.2 .dead) k)
  | .iter _ _ => S.put p.1 (.cells [] .own)
  | .gone => S
def XS.poison (S : XS) (ps : List (Nat × Nat)) : XS := ps.foldl XS.poison1 S

def XS.restore1 (S0 : XS) (S : XS) (p : Nat × Nat) : XS :=
  match S0.get p.1 with
  | .cells cs _ => match S.get p.1 with
    | .cells cs' k => S.put p.1 (.cells (cs'.set p.2 (cs.getD p.2 .dead)) k)
    | _ => S
  | .iter s n => match S.get p.1 with
    | .gone => S
    | _ => S.put p.1 (.iter s n)
  | .gone => S
def XS.restore (S0 S : XS) (ps : List (Nat × Nat)) : XS := ps.foldl (XS.restore1 S0) S

/-- a region of open order: each operation is carried out where all that may be written ahead of it, or behind it, is dead -/
def xopsW (P : Program) (call : XCallFn) (ops : List Oper) (pr : List (List Nat)) (Wd : List (List (Nat × Nat))) :
    Nat → List Oper → Tmps → XS → Option (Tmps × XS × List (List (Nat × Nat)))
  | _, [], T, S => some (T, S, [])
  | i, o :: rest, T, S =>
    match wantedX ops T o with
    | some true =>
      let ps := openW pr Wd i
      (match xstep P call S.size o T { S.poison ps with log := [] } with
      | some (v, S') =>
        (if S'.log.all (fun p => (Wd.getD i []).contains p && !ps.contains p) then
          (match xopsW P call ops pr Wd (i + 1) rest (putX T o.dst v) { XS.restore S S' ps with log := S.log } with
          | some (T2, S2, ws) => some (T2, S2, S'.log :: ws)
          | none => none)
        else none)
      | none => none)
    | some false =>
      (match xopsW P call ops pr Wd (i + 1) rest (putX T o.dst (.tuple [])) S with
      | some (T2, S2, ws) => some (T2, S2, [] :: ws)
      | none => none)
    | none => none

/-- a first look: who writes what, in the order of the text -/
def xlook (P : Program) (call : XCallFn) (ops : List Oper) : List Oper → Tmps → XS → Option (Tmps × XS × List (List (Nat × Nat)))
  | [], T, S => some (T, S, [])
  | o :: rest, T, S =>
    match wantedX ops T o with
    | some true => (match xstep P call S.size o T { S with log := [] } with
      | some (v, S') => match xlook P call ops rest (putX T o.dst v) S' with
        | some (T2, S2, ws) => some (T2, S2, S'.log :: ws)
        | none => none
      | none => none)
    | some false => (match xlook P call ops rest (putX T o.dst (.tuple [])) S with
      | some (T2, S2, ws) => some (T2, S2, [] :: ws)
      | none => none)
    | none => none

/-- where nothing that was is written, the first look is all; else once more, with an eye on who meets whom -/
def xdraw (P : Program) (call : XCallFn) (base : Nat) (ops : List Oper) (T : Tmps) (S : XS) : Option (Tmps × XS) :=
  match xlook P call ops ops T S with
  | none => none
  | some (T1, S1, Wd) =>
    if Wd.all List.isEmpty then some (T1, { S1 with log := S.log })
    else match xopsW P call ops (predsOf ops) Wd 0 ops T S with
    | some (T', S', ws) => some (T', { S' with log := (ws.flatten.filter fun p => p.1 < base) ++ S.log })
    | none => none

theorem openW_nil (pr : List (List Nat)) (Wd : List (List (Nat × Nat))) (h : Wd.all List.isEmpty = true) (i : Nat) : openW pr Wd i = [] := by
  have hd : ∀ j, Wd.getD j [] = [] := fun j => by
    rw [List.getD_eq_getElem?_getD]
    cases hq : Wd[j]? with
    | none => rfl
    | some W =>
      have := List.all_eq_true.1 h W (List.mem_of_getElem? hq)
      simpa using this
  unfold openW
  rw [List.flatMap_eq_nil_iff]
  intro j _
  exact hd j

theorem look_quiet {P : Program} {call : XCallFn} {ops : List Oper} {pr : List (List Nat)} {Wd : List (List (Nat × Nat))} (hW : Wd.all List.isEmpty = true) :
    ∀ (l : List Oper) (i : Nat) (T : Tmps) (S Sx : XS) (T2 : Tmps) (S2 : XS) (ws : List (List (Nat × Nat))), S.heap = Sx.heap → S.size = Sx.size → xlook P call ops l T S = some (T2, S2, ws) → ws.all List.isEmpty = true →
      xopsW P call ops pr Wd i l T Sx = some (T2, { S2 with log := Sx.log }, ws)
  | [], i, T, S, Sx, T2, S2, ws, h1, h2, hx, ha => by
    simp only [xlook, Option.some.injEq, Prod.mk.injEq] at hx
    obtain ⟨rfl, rfl, rfl⟩ := hx
    simp only [xopsW]
    cases S; cases Sx; simp_all
  | o :: l, i, T, S, Sx, T2, S2, ws, h1, h2, hx, ha => by
    simp only [xlook] at hx
    simp only [xopsW]
    rw [openW_nil pr Wd hW i]
    have hp : ({ Sx.poison [] with log := [] } : XS) = { S with log := [] } := by
      show ({ Sx with log := [] } : XS) = _
      rw [h1, h2]
    split at hx
    · rename_i hw
      rw [hp, ← h2]
      split at hx
      case h_2 => cases hx
      case h_1 v S' hs =>
      split at hx
      case h_2 => cases hx
      case h_1 T3 S3 ws' hr =>
      simp only [Option.some.injEq, Prod.mk.injEq] at hx
      obtain ⟨rfl, rfl, rfl⟩ := hx
      simp only [List.all_cons, Bool.and_eq_true] at ha
      have hl : S'.log = [] := by simpa using ha.1
      simp only [hl, List.all_nil, if_true]
      have := look_quiet (pr := pr) hW l (i + 1) _ S' { S' with log := Sx.log } _ _ _ rfl rfl hr ha.2
      have he : ({ XS.restore Sx S' [] with log := Sx.log } : XS) = { S' with log := Sx.log } := rfl
      rw [he, this]
    · rename_i hw
      split at hx
      case h_2 => cases hx
      case h_1 T3 S3 ws' hr =>
      simp only [Option.some.injEq, Prod.mk.injEq] at hx
      obtain ⟨rfl, rfl, rfl⟩ := hx
      simp only [List.all_cons, Bool.and_eq_true] at ha
      rw [look_quiet (pr := pr) hW l (i + 1) _ S Sx _ _ _ h1 h2 hr ha.2]
    · cases hx

theorem xdraw_eq {P : Program} {call : XCallFn} {base : Nat} {ops : List Oper} {T : Tmps} {S : XS} {T' : Tmps} {S' : XS} (h : xdraw P call base ops T S = some (T', S')) :
    ∃ Wd S1 ws, xopsW P call ops (predsOf ops) Wd 0 ops T S = some (T', S1, ws) ∧ S' = { S1 with log := (ws.flatten.filter fun p => p.1 < base) ++ S.log } := by
  unfold xdraw at h
  split at h
  · cases h
  rename_i T1 S1 Wd hl
  split at h
  · rename_i hq
    simp only [Option.some.injEq, Prod.mk.injEq] at h
    obtain ⟨rfl, rfl⟩ := h
    refine ⟨Wd, _, Wd, look_quiet hq ops 0 T S S _ _ _ rfl rfl hl hq, ?_⟩
    have : Wd.flatten = [] := by
      rw [List.flatten_eq_nil_iff]
      intro W hm
      simpa using List.all_eq_true.1 hq W hm
    rw [this]
    rfl
  · split at h
    case h_2 => cases h
    case h_1 T2 S2 ws hw =>
    simp only [Option.some.injEq, Prod.mk.injEq] at h
    obtain ⟨rfl, rfl⟩ := h
    exact ⟨Wd, _, ws, hw, rfl⟩

/-! ### a loop's head: what is not looked at any more is dropped -/
mutual
def XV.addrs : XV → List Nat
  | .ptr b _ => [b]
  | .slice b _ _ _ => [b]
  | .sl b => [b]
  | .part b _ _ => [b]
  | .func _ cs => addrsAll cs
  | .iface _ v => v.addrs
  | .agg cs => addrsAll cs
  | .tuple cs => addrsAll cs
  | _ => []
def addrsAll : List XV → List Nat
  | [] => []
  | v :: r => v.addrs ++ addrsAll r
end

def idxOf (b : Nat) : List Nat → Option Nat
  | [] => none
  | x :: r => if x == b then some 0 else match idxOf b r with
    | some i => some (i + 1)
    | none => none

def ren (keep : List Nat) : Nat → XV → Option XV
  | 0, _ => none
  | n + 1, v =>
    match v with
    | .ptr b o => match idxOf b keep with | some i => some (.ptr i o) | none => none
    | .slice b o len cap => match idxOf b keep with | some i => some (.slice i o len cap) | none => none
    | .sl b => match idxOf b keep with | some i => some (.sl i) | none => none
    | .part b o len => match idxOf b keep with | some i => some (.part i o len) | none => none
    | .func f cs => match hardAll (ren keep n) cs with | some l => some (.func f l) | none => none
    | .iface t x => match ren keep n x with | some y => some (.iface t y) | none => none
    | .agg cs => match hardAll (ren keep n) cs with | some l => some (.agg l) | none => none
    | .tuple cs => match hardAll (ren keep n) cs with | some l => some (.tuple l) | none => none
    | v => if v.under 0 then some v else none

def blkAddrs : XBlk → List Nat
  | .cells cs k => if k.flat then [] else addrsAll cs
  | _ => []

def growKeep (S : XS) : Nat → List Nat → List Nat → List Nat
  | 0, _, keep => keep
  | _ + 1, [], keep => keep
  | n + 1, b :: todo, keep => if keep.contains b then growKeep S n todo keep else growKeep S n (blkAddrs (S.get b) ++ todo) (keep ++ [b])

def nodupN : List Nat → Bool
  | [] => true
  | x :: r => !r.contains x && nodupN r

def renBlk (keep : List Nat) : XBlk → Option XBlk
  | .cells cs k => if k.flat then some (.cells cs k) else match hardAll (ren keep 20) cs with
    | some l => some (.cells l k)
    | none => none
  | .iter s p => some (.iter s p)
  | .gone => none

def pruneB (keep : List Nat) (S : XS) : List Nat → Option (List XBlk)
  | [] => some []
  | b :: r => match renBlk keep (S.get b), pruneB keep S r with
    | some x, some l => some (x :: l)
    | _, _ => none

def pruneT (keep : List Nat) (T : Tmps) : List Nat → Tmps → Option Tmps
  | [], A => some A
  | t :: ts, A => if (tget T t).live then match ren keep 20 (tget T t) with
      | some v => pruneT keep T ts (tset A t v)
      | none => none
    else pruneT keep T ts A

def deadT (rows : Nat) : Tmps := List.replicate rows (List.replicate 8 .dead)

def prune (rows : Nat) (ts : List Nat) (T : Tmps) (S : XS) : Option (Tmps × XS) :=
  let keep := growKeep S 200 (ts.flatMap fun t => (tget T t).addrs) []
  if nodupN keep then
    match pruneT keep T ts (deadT rows), pruneB keep S keep with
    | some T', some l => some (T', { heap := l.reverse, size := keep.length, log := S.log })
    | _, _ => none
  else none

def headId : Code → Nat
  | .region id _ _ => id
  | .seq a _ => headId a
  | .block _ c => headId c
  | .loop c => headId c
  | _ => 0

/-- which temporaries stay at a loop's head and at its end (rows of eight, temporaries); none: all -/
abbrev Lives := Nat → Option (Nat × List Nat)
def headPr (lv : Lives) (base : Nat) (c : Code) (T : Tmps) (S : XS) : Option (Tmps × XS) :=
  match lv (headId c) with
  | some (rows, ts) => if base = 0 then prune rows ts T S else some (T, S)
  | none => some (T, S)

def xloop (pr : Tmps → XS → Option (Tmps × XS)) (body : Tmps → XS → Option (XExit × Tmps × XS)) : Nat → Tmps → XS → Option (XExit × Tmps × XS)
  | 0, _, _ => none
  | n + 1, T, S => match pr T S with
    | none => none
    | some (T0, S0) => match body T0 S0 with
      | none => none
      | some (.normal, T', S') => xloop pr body n T' S'
      | some (e, T', S') => match pr T' S' with
        | some (T2, S2) => some (e, T2, S2)
        | none => none

def xcode (P : Program) (call : XCallFn) (lv : Lives) (fuel base : Nat) : Code → Tmps → XS → Option (XExit × Tmps × XS)
  | .skip, T, S => some (.normal, T, S)
  | .region _ ops draw, T, S =>
    match (if draw then xdraw P call base ops.toList T S else xops P call base ops.toList ops.toList T S) with
    | some (T', S') => some (.normal, T', S')
    | none => none
  | .seq a b, T, S => match xcode P call lv fuel base a T S with
    | some (.normal, T', S') => xcode P call lv fuel base b T' S'
    | r => r
  | .cond c a b, T, S => match evalX T c with
    | some (.bool true) => xcode P call lv fuel base a T S
    | some (.bool false) => xcode P call lv fuel base b T S
    | _ => none
  | .block id c, T, S => match xcode P call lv fuel base c T S with
    | some (.exit id', T', S') => if id' = id then some (.normal, T', S') else some (.exit id', T', S')
    | r => r
  | .loop c, T, S => xloop (headPr lv base c) (xcode P call lv fuel base c) fuel T S
  | .exit id, T, S => some (.exit id, T, S)
  | .ret, T, S => some (.ret, T, S)
  | _, _, _ => none

def xresult (P : Program) (T : Tmps) (S : XS) : ResultVar → Option XV
  | .tmp t => evalX T (.tmp t)
  | .cell a t => match evalX T (.tmp a) with
    | some p => xload P S t p
    | none => none
def xresults (P : Program) (T : Tmps) (S : XS) : List ResultVar → Option (List XV)
  | [] => some []
  | r :: rs => match xresult P T S r, xresults P T S rs with
    | some v, some l => some (v :: l)
    | _, _ => none
def oneOr : List XV → XV
  | [v] => v
  | l => .tuple l

/-- functions that are answered by a contract; what stays at the heads of a function's loops -/
structure XPrim where
  fn : FuncId → Option (List XV → Option XV)
  live : FuncId → Nat → Option (List Nat)
instance : CoeFun XPrim (fun _ => FuncId → Option (List XV → Option XV)) := ⟨XPrim.fn⟩

def livesOf (fn : Func) (l : Nat → Option (List Nat)) : Lives := fun id => match l id with
  | some ts => some (fn.ntmps / 8 + 1, ts)
  | none => none

/-- a call: what it leaves behind that nobody can reach is dropped -/
def xcall (P : Program) (prim : XPrim) : Nat → XCallFn
  | 0, _, _, _, _ => none
  | n + 1, f, args, base, S =>
    match P.funcs[f]? with
    | none => none
    | some fn => match fn.body with
      | none => none
      | some c =>
        if fn.name == "runtime.NumGoroutine" then none else
        if fn.ntmps < args.length then none else
        match prim f with
        | some g =>
          (if underAll 0 args then match g args with
            | some v => some (v, S)
            | none => none
          else match hardAll (hard true S 50) args with
            | some as => (match g as with
              | some v => if v.lent then none else some (v, S)
              | none => none)
            | none => none)
        | none =>
        match xcode P (xcall P prim n) (livesOf fn (prim.live f)) n S.size c (argsT 0 args []) { S with log := [] } with
        | some (e, T, S1) =>
          if e = .normal ∨ e = .ret then
            (match xresults P T S1 fn.results.toList with
            | some l =>
              if S1.log.isEmpty && (oneOr l).under S.size then some (oneOr l, S)
              else some (oneOr l, { S1 with log := (S1.log.filter fun p => p.1 < base) ++ S.log })
            | none => none)
          else none
        | none => none

def XS.none : XS := { heap := [], size := 0, log := [] }
def noPrim : XPrim := ⟨fun _ => .none, fun _ _ => .none⟩

end
end Go.XM
