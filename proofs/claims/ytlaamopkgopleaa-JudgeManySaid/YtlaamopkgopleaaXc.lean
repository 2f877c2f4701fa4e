/- A plain machine beside the model, and that what it tells the model does: part Xc. Conditions: those of each theorem below. -/
import Derived.Test.YtlaamopkgopleaaXb
namespace Go.XM
noncomputable section

inductive XExit where
  | normal | exit (id : Nat) | ret
  deriving DecidableEq

mutual
/-- no address at or beyond n -/
def XV.under (n : Nat) : XV → Bool
  | .ptr b _ => b < n
  | .slice b _ _ _ => b < n
  | .func _ cs => underAll n cs
  | .iface _ v => v.under n
  | .agg cs => underAll n cs
  | .tuple cs => underAll n cs
  | _ => true
def underAll (n : Nat) : List XV → Bool
  | [] => true
  | v :: r => v.under n && underAll n r
end

abbrev XCallFn := FuncId → List XV → Nat → XS → Option (XV × XS)

/-- one operation, calls too -/
def xstep (P : Program) (call : XCallFn) (base : Nat) (o : Oper) (T : Tmps) (S : XS) : Option (XV × XS) :=
  match o.op with
  | .call c => match c.callee with
    | .value f => match evalX T f, evalAll T c.args.toList with
      | some (.func g caps), some xs => call g (xs ++ caps) base S
      | _, _ => none
    | _ => xop P base o T S
  | _ => xop P base o T S

def yieldedX (ops : List Oper) (T : Tmps) (j : Nat) : Option Bool :=
  match (ops[j]?).bind (·.dst) with
  | some d => match tget T d with
    | .bool b => some b
    | _ => none
  | none => none

def wantedX (ops : List Oper) (T : Tmps) (o : Oper) : Bool :=
  match o.guard with
  | none => true
  | some (j, want) => yieldedX ops T j == some want

def putX (T : Tmps) (dst : Option Tmp) (v : XV) : Tmps :=
  match dst with
  | some d => tset T d v
  | none => T

/-- a region in the order of its text -/
def xops (P : Program) (call : XCallFn) (base : Nat) (ops : List Oper) : List Oper → Tmps → XS → Option (Tmps × XS)
  | [], T, S => some (T, S)
  | o :: rest, T, S =>
    if wantedX ops T o then
      (match xstep P call base o T S with
      | some (v, S') => xops P call base ops rest (putX T o.dst v) S'
      | none => none)
    else xops P call base ops rest (putX T o.dst (.tuple [])) S

/-- the operations that surely come ahead of each one -/
def directs (o : Oper) : List Nat := (o.after.toList.filter (Region.binds .any)).map (·.on)
def predsFrom (acc : List (List Nat)) : List Oper → List (List Nat)
  | [] => acc
  | o :: r => predsFrom (acc ++ [((directs o).flatMap fun j => j :: acc.getD j [])]) r
def predsOf (ops : List Oper) : List (List Nat) := predsFrom [] ops

def ordered (pr : List (List Nat)) (i j : Nat) : Bool := (pr.getD i []).contains j || (pr.getD j []).contains i

/-- what operations of open order against i have written -/
def openW (pr : List (List Nat)) (Wd : List (List (Nat × Nat))) (i : Nat) : List (Nat × Nat) :=
  ((List.range Wd.length).filter fun j => j != i && !ordered pr i j).flatMap fun j => Wd.getD j []

def XS.poison1 (S : XS) (p : Nat × Nat) : XS :=
  match S.get p.1 with
  | .cells cs k => S.put p.1 (.cells (cs.set p.2 .dead) k)
  | .iter _ _ => S.put p.1 (.cells [] .own)
  | .gone => S
def XS.poison (S : XS) (ps : List (Nat × Nat)) : XS := ps.foldl XS.poison1 S

def XS.restore1 (S0 : XS) (S : XS) (p : Nat × Nat) : XS :=
  match S0.get p.1 with
  | .cells cs _ => match S.get p.1 with
    | .cells cs' k => S.put p.1 (.cells (cs'.set p.2 (cs.getD p.2 .dead)) k)
    | _ => S
  | .iter s n => match S.get p.1 with
    | .gone => S
    | _ => S.put p.1 (.iter s n)
  | .gone => S
def XS.restore (S0 S : XS) (ps : List (Nat × Nat)) : XS := ps.foldl (XS.restore1 S0) S

/-- a region of open order: each operation is carried out where all that may be written ahead of it, or behind it, is dead -/
def xopsW (P : Program) (call : XCallFn) (ops : List Oper) (pr : List (List Nat)) (Wd : List (List (Nat × Nat))) :
    Nat → List Oper → Tmps → XS → Option (Tmps × XS × List (List (Nat × Nat)))
  | _, [], T, S => some (T, S, [])
  | i, o :: rest, T, S =>
    if wantedX ops T o then
      let ps := openW pr Wd i
      (match xstep P call S.size o T { S.poison ps with log := [] } with
      | some (v, S') =>
        (if S'.log.all (fun p => (Wd.getD i []).contains p && !ps.contains p) then
          (match xopsW P call ops pr Wd (i + 1) rest (putX T o.dst v) { XS.restore S S' ps with log := S.log } with
          | some (T2, S2, ws) => some (T2, S2, S'.log :: ws)
          | none => none)
        else none)
      | none => none)
    else
      (match xopsW P call ops pr Wd (i + 1) rest (putX T o.dst (.tuple [])) S with
      | some (T2, S2, ws) => some (T2, S2, [] :: ws)
      | none => none)

/-- a first look: who writes what, in the order of the text -/
def xlook (P : Program) (call : XCallFn) (ops : List Oper) : List Oper → Tmps → XS → Option (Tmps × XS × List (List (Nat × Nat)))
  | [], T, S => some (T, S, [])
  | o :: rest, T, S =>
    if wantedX ops T o then
      (match xstep P call S.size o T { S with log := [] } with
      | some (v, S') => match xlook P call ops rest (putX T o.dst v) S' with
        | some (T2, S2, ws) => some (T2, S2, S'.log :: ws)
        | none => none
      | none => none)
    else match xlook P call ops rest (putX T o.dst (.tuple [])) S with
      | some (T2, S2, ws) => some (T2, S2, [] :: ws)
      | none => none

/-- where nothing that was is written, the first look is all; else once more, with an eye on who meets whom -/
def xdraw (P : Program) (call : XCallFn) (base : Nat) (ops : List Oper) (T : Tmps) (S : XS) : Option (Tmps × XS) :=
  match xlook P call ops ops T S with
  | none => none
  | some (T1, S1, Wd) =>
    if Wd.all List.isEmpty then some (T1, { S1 with log := S.log })
    else match xopsW P call ops (predsOf ops) Wd 0 ops T S with
    | some (T', S', ws) => some (T', { S' with log := (ws.flatten.filter fun p => p.1 < base) ++ S.log })
    | none => none

theorem openW_nil (pr : List (List Nat)) (Wd : List (List (Nat × Nat))) (h : Wd.all List.isEmpty = true) (i : Nat) : openW pr Wd i = [] := by
  have hd : ∀ j, Wd.getD j [] = [] := fun j => by
    rw [List.getD_eq_getElem?_getD]
    cases hq : Wd[j]? with
    | none => rfl
    | some W =>
      have := List.all_eq_true.1 h W (List.mem_of_getElem? hq)
      simpa using this
  unfold openW
  rw [List.flatMap_eq_nil_iff]
  intro j _
  exact hd j

theorem look_quiet {P : Program} {call : XCallFn} {ops : List Oper} {pr : List (List Nat)} {Wd : List (List (Nat × Nat))} (hW : Wd.all List.isEmpty = true) :
    ∀ (l : List Oper) (i : Nat) (T : Tmps) (S Sx : XS) (T2 : Tmps) (S2 : XS) (ws : List (List (Nat × Nat))), S.heap = Sx.heap → S.size = Sx.size → xlook P call ops l T S = some (T2, S2, ws) → ws.all List.isEmpty = true →
      xopsW P call ops pr Wd i l T Sx = some (T2, { S2 with log := Sx.log }, ws)
  | [], i, T, S, Sx, T2, S2, ws, h1, h2, hx, ha => by
    simp only [xlook, Option.some.injEq, Prod.mk.injEq] at hx
    obtain ⟨rfl, rfl, rfl⟩ := hx
    simp only [xopsW]
    cases S; cases Sx; simp_all
  | o :: l, i, T, S, Sx, T2, S2, ws, h1, h2, hx, ha => by
    simp only [xlook] at hx
    simp only [xopsW]
    rw [openW_nil pr Wd hW i]
    have hp : ({ Sx.poison [] with log := [] } : XS) = { S with log := [] } := by
      show ({ Sx with log := [] } : XS) = _
      rw [h1, h2]
    split at hx
    · rename_i hw
      rw [if_pos hw, hp, ← h2]
      split at hx
      case h_2 => cases hx
      case h_1 v S' hs =>
      split at hx
      case h_2 => cases hx
      case h_1 T3 S3 ws' hr =>
      simp only [Option.some.injEq, Prod.mk.injEq] at hx
      obtain ⟨rfl, rfl, rfl⟩ := hx
      simp only [List.all_cons, Bool.and_eq_true] at ha
      have hl : S'.log = [] := by simpa using ha.1
      simp only [hl, List.all_nil, if_true]
      have := look_quiet (pr := pr) hW l (i + 1) _ S' { S' with log := Sx.log } _ _ _ rfl rfl hr ha.2
      have he : ({ XS.restore Sx S' [] with log := Sx.log } : XS) = { S' with log := Sx.log } := rfl
      rw [he, this]
    · rename_i hw
      rw [if_neg hw]
      split at hx
      case h_2 => cases hx
      case h_1 T3 S3 ws' hr =>
      simp only [Option.some.injEq, Prod.mk.injEq] at hx
      obtain ⟨rfl, rfl, rfl⟩ := hx
      simp only [List.all_cons, Bool.and_eq_true] at ha
      rw [look_quiet (pr := pr) hW l (i + 1) _ S Sx _ _ _ h1 h2 hr ha.2]

theorem xdraw_eq {P : Program} {call : XCallFn} {base : Nat} {ops : List Oper} {T : Tmps} {S : XS} {T' : Tmps} {S' : XS} (h : xdraw P call base ops T S = some (T', S')) :
    ∃ Wd S1 ws, xopsW P call ops (predsOf ops) Wd 0 ops T S = some (T', S1, ws) ∧ S' = { S1 with log := (ws.flatten.filter fun p => p.1 < base) ++ S.log } := by
  unfold xdraw at h
  split at h
  · cases h
  rename_i T1 S1 Wd hl
  split at h
  · rename_i hq
    simp only [Option.some.injEq, Prod.mk.injEq] at h
    obtain ⟨rfl, rfl⟩ := h
    refine ⟨Wd, _, Wd, look_quiet hq ops 0 T S S _ _ _ rfl rfl hl hq, ?_⟩
    have : Wd.flatten = [] := by
      rw [List.flatten_eq_nil_iff]
      intro W hm
      simpa using List.all_eq_true.1 hq W hm
    rw [this]
    rfl
  · split at h
    case h_2 => cases h
    case h_1 T2 S2 ws hw =>
    simp only [Option.some.injEq, Prod.mk.injEq] at h
    obtain ⟨rfl, rfl⟩ := h
    exact ⟨Wd, _, ws, hw, rfl⟩

def xloop (body : Tmps → XS → Option (XExit × Tmps × XS)) : Nat → Tmps → XS → Option (XExit × Tmps × XS)
  | 0, _, _ => none
  | n + 1, T, S => match body T S with
    | some (.normal, T', S') => xloop body n T' S'
    | r => r

def xcode (P : Program) (call : XCallFn) (fuel base : Nat) : Code → Tmps → XS → Option (XExit × Tmps × XS)
  | .skip, T, S => some (.normal, T, S)
  | .region _ ops draw, T, S =>
    match (if draw then xdraw P call base ops.toList T S else xops P call base ops.toList ops.toList T S) with
    | some (T', S') => some (.normal, T', S')
    | none => none
  | .seq a b, T, S => match xcode P call fuel base a T S with
    | some (.normal, T', S') => xcode P call fuel base b T' S'
    | r => r
  | .cond c a b, T, S => match evalX T c with
    | some (.bool true) => xcode P call fuel base a T S
    | some (.bool false) => xcode P call fuel base b T S
    | _ => none
  | .block id c, T, S => match xcode P call fuel base c T S with
    | some (.exit id', T', S') => if id' = id then some (.normal, T', S') else some (.exit id', T', S')
    | r => r
  | .loop c, T, S => xloop (xcode P call fuel base c) fuel T S
  | .exit id, T, S => some (.exit id, T, S)
  | .ret, T, S => some (.ret, T, S)
  | _, _, _ => none

def xresult (P : Program) (T : Tmps) (S : XS) : ResultVar → Option XV
  | .tmp t => some (tget T t)
  | .cell a t => xload P S t (tget T a)
def xresults (P : Program) (T : Tmps) (S : XS) : List ResultVar → Option (List XV)
  | [] => some []
  | r :: rs => match xresult P T S r, xresults P T S rs with
    | some v, some l => some (v :: l)
    | _, _ => none
def oneOr : List XV → XV
  | [v] => v
  | l => .tuple l

abbrev XPrim := FuncId → Option (List XV → XS → Option XV)

/-- a call: what it leaves behind that nobody can reach is dropped -/
def xcall (P : Program) (prim : XPrim) : Nat → XCallFn
  | 0, _, _, _, _ => none
  | n + 1, f, args, base, S =>
    match P.funcs[f]? with
    | none => none
    | some fn => match fn.body with
      | none => none
      | some c =>
        if fn.name == "runtime.NumGoroutine" then none else
        if fn.ntmps < args.length then none else
        match prim f with
        | some g => match g args S with
          | some v => some (v, S)
          | none => none
        | none =>
        match xcode P (xcall P prim n) n S.size c (argsT 0 args []) { S with log := [] } with
        | some (e, T, S1) =>
          if e = .normal ∨ e = .ret then
            (match xresults P T S1 fn.results.toList with
            | some l =>
              if S1.log.isEmpty && (oneOr l).under S.size then some (oneOr l, S)
              else some (oneOr l, { S1 with log := (S1.log.filter fun p => p.1 < base) ++ S.log })
            | none => none)
          else none
        | none => none

def XS.none : XS := { heap := [], size := 0, log := [] }
def noPrim : XPrim := fun _ => .none

end
end Go.XM
