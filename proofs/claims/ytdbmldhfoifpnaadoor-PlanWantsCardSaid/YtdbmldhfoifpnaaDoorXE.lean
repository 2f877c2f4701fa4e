/- A plain machine beside the model, and that what it tells the model does: part XE. Conditions: those of each theorem below. -/
import Derived.Test.YtdbmldhfoifpnaaDoorXD
import Derived.ChangeOld
import Derived.ChangeSame
import Derived.Eval
import Derived.ChangeArms
import Derived.DataReads
namespace Go.XM
set_option linter.unusedVariables false
set_option linter.unusedSimpArgs false
open Go.RowKit
set_option linter.unusedVariables false

/-! ### a region of open order, as the plain machine runs it -/
structure Can (ops : List Oper) (Ts : Nat → Tmps) (Ss : Nat → XS) (vs : Nat → XV) (Ws : Nat → List (Nat × Nat)) : Prop where
  size : ∀ k, k < ops.length → (Ss k).size ≤ (Ss (k + 1)).size
  fr : ∀ k, k < ops.length → ∀ b, b < (Ss k).size → BlkFrame (Ws k) b ((Ss k).get b) ((Ss (k + 1)).get b)
  put : ∀ k o, ops[k]? = some o → Ts (k + 1) = putX (Ts k) o.dst (vs k)
  wb : ∀ k, k < ops.length → ∀ p, p ∈ Ws k → p.1 < (Ss k).size
  apart : ∀ i k, i < ops.length → k < ops.length → i ≠ k → ordered (predsOf ops) i k = false → ∀ p, p ∈ Ws i → p ∉ Ws k

def restr (ρ : Emb) (n : Nat) : Emb := ⟨fun b => if b < n then ρ b else none, ρ.z⟩
theorem restr_some {ρ : Emb} {n b : Nat} {e : Ent} : restr ρ n b = some e ↔ b < n ∧ ρ b = some e := by
  unfold restr
  simp only
  split
  · rename_i h; exact ⟨fun q => ⟨h, q⟩, fun q => q.2⟩
  · rename_i h; exact ⟨fun q => (by cases q), fun q => absurd q.1 h⟩
theorem restr_le (ρ : Emb) (n : Nat) : (restr ρ n).le ρ := ⟨fun b e h => (restr_some.1 h).2, ZMap.le_refl _⟩
theorem restr_mono {ρ ρ' : Emb} (h : ρ.le ρ') {n m : Nat} (hn : n ≤ m) : (restr ρ n).le (restr ρ' m) := ⟨fun b e q => by
  obtain ⟨q1, q2⟩ := restr_some.1 q
  exact restr_some.2 ⟨by omega, h.m b e q2⟩, h.z⟩

/-- plain cells alone, but for those that are nobody's -/
def FlatD (dead : Nat → Prop) (cs : List XV) : Prop := ∀ o v, cs[o]? = some v → v.live = true → ¬ dead o → v.oneCell = true ∧ v.under 0 = true
theorem Flat.flatD {cs : List XV} (h : Flat cs) (dead : Nat → Prop) : FlatD dead cs := fun o v ho hl _ => h v (List.mem_of_getElem? ho) hl

/-- what the world tells of a block, some cells being nobody's -/
def BlkP (ρ : Emb) (B : Nat) (w : World) (e : Ent) (dead : Nat → Prop) : XBlk → Prop
  | .cells cs k =>
    (match k with
      | .ro => e.blk < B ∧ e.loose = none
      | .own => B ≤ e.blk ∧ e.loose = none
      | .arr esz => (B ≤ e.blk ∧ e.loose = none) ∧ 0 < esz ∧ FlatD dead cs ∧ ∀ j, j < cs.length → (w.cell? (e.at j)).isSome = true ∧ w.frozen? (e.at j) = false
      | .loose esz n => B ≤ e.blk ∧ 0 < esz ∧ cs.length = n * esz ∧ FlatD dead cs ∧ ∃ rsz, e.loose = some (esz, n, rsz) ∧ e.sh + n * esz ≤ rsz ∧ ∀ j, j < rsz → (w.cell? ⟨e.blk, j, none⟩).isSome = true ∧ w.frozen? ⟨e.blk, j, none⟩ = false) ∧
    ∀ o v, cs[o]? = some v → v.live = true → ¬ dead o → ∃ u, w.cell? (e.at o) = some u ∧ VR ρ v u ∧ (k ≠ .ro → w.frozen? (e.at o) = false)
  | .iter s pos => (B ≤ e.blk ∧ e.sh = 0 ∧ e.loose = none) ∧ (¬ dead 0 → w.heap[e.blk]? = some (.stringIter ⟨s.toArray⟩ pos))
  | .gone => True

/-- behind an operation, and behind its undoing of the poison -/
def Agree (W : List (Nat × Nat)) (b : Nat) : XBlk → XBlk → Prop
  | .cells cs k, .cells cs' k' => k = k' ∧ cs.length = cs'.length ∧ ∀ o : Nat, (b, o) ∈ W → cs[o]? = cs'[o]?
  | .iter s n, .iter s' n' => s = s' ∧ ((b, 0) ∈ W → n = n')
  | .gone, .gone => True
  | .cells _ _, .iter _ _ => (b, 0) ∉ W
  | _, _ => False

theorem agree_of {ps W : List (Nat × Nat)} {b : Nat} {x y y' z : XBlk} (h1 : PoisR ps b x y) (h2 : BlkFrame W b y y') (h3 : RestR ps b x y' z) (hW : ∀ o, (b, o) ∈ W → (b, o) ∉ ps) (hl : ∀ o, (b, o) ∈ W → WOk y o) : Agree W b y' z := by
  cases x with
  | cells cs k =>
    cases y with
    | cells cp kp =>
      cases y' with
      | cells cq kq =>
        obtain ⟨cz, rfl, l3, c1, c2⟩ := h3
        exact ⟨rfl, l3.symm, fun o ho => (c1 o (hW o ho)).symm⟩
      | iter s n => exact h2.elim
      | gone => cases h3; trivial
    | iter s n => exact h1.elim
    | gone => exact h1.elim
  | iter s n =>
    cases y with
    | cells cp kp =>
      obtain ⟨rfl, rfl, o, ho⟩ := h1
      cases y' with
      | cells cq kq =>
        rcases h3 with ⟨_, _, rfl⟩ | ⟨hc, rfl⟩
        · exact fun hm => absurd (hl 0 hm).1 (by simp [XKind.room])
        · rcases hc with hc | hc
          · exact absurd ho (hc o)
          · cases hc
      | iter s n => exact h2.elim
      | gone => exact absurd h2.1 (by simp [XKind.room])
    | iter s' n' =>
      obtain ⟨rfl, rfl, hno⟩ := h1
      rcases h3 with ⟨⟨o, ho⟩, _, _⟩ | ⟨_, rfl⟩
      · exact absurd ho (hno o)
      · cases z with
        | cells cq kq => exact h2.elim
        | iter s n => exact ⟨rfl, fun _ => rfl⟩
        | gone => exact h2.elim
    | gone => exact h1.elim
  | gone =>
    cases y with
    | cells cp kp => exact h1.elim
    | iter s' n' => exact h1.elim
    | gone =>
      have hz : z = y' := h3
      subst hz
      cases z with
      | gone => trivial
      | cells cq kq => exact h2.elim
      | iter s n => exact h2.elim

theorem WOk.pois {ps : List (Nat × Nat)} {b : Nat} {x y : XBlk} (h : PoisR ps b x y) {o : Nat} (k : WOk y o) : WOk x o := by
  cases x with
  | cells cs kk =>
    cases y with
    | cells cp kp => obtain ⟨rfl, l1, _⟩ := h; exact ⟨by rw [← room_len l1]; exact k.1, k.2⟩
    | iter s n => exact h.elim
    | gone => exact h.elim
  | iter s n =>
    cases y with
    | cells cp kp => obtain ⟨rfl, rfl, _⟩ := h; exact absurd k.1 (by simp [XKind.room])
    | iter s' n' => exact k
    | gone => exact h.elim
  | gone =>
    cases y with
    | cells cp kp => exact h.elim
    | iter s' n' => exact h.elim
    | gone => exact k

theorem WOk.notGone {x : XBlk} {o : Nat} (h : WOk x o) : x.isGone = false := by cases x <;> first | rfl | exact h.elim
theorem WOk.notRo {x : XBlk} {o : Nat} (h : WOk x o) : x.isRo = false := by
  cases x with
  | cells cs k => cases k <;> first | rfl | exact absurd rfl h.2
  | iter s n => rfl
  | gone => rfl

section
variable {ops : List Oper} {Ts : Nat → Tmps} {Ss : Nat → XS} {vs : Nat → XV} {Ws : Nat → List (Nat × Nat)}

theorem Can.sizes (C : Can ops Ts Ss vs Ws) {i : Nat} : ∀ {j : Nat}, i ≤ j → j ≤ ops.length → (Ss i).size ≤ (Ss j).size := by
  intro j
  induction j with
  | zero => intro h _; have : i = 0 := by omega
            subst this; exact Nat.le_refl _
  | succ j ih =>
    intro h hj
    rcases Nat.lt_or_ge j i with q | q
    · have : i = j + 1 := by omega
      subst this; exact Nat.le_refl _
    · exact Nat.le_trans (ih q (by omega)) (C.size j (by omega))

theorem Can.chain (C : Can ops Ts Ss vs Ws) {i b : Nat} (hb : b < (Ss i).size) : ∀ {j : Nat}, i ≤ j → j ≤ ops.length → ∃ W, (∀ p, p ∈ W → ∃ k, i ≤ k ∧ k < j ∧ p ∈ Ws k) ∧ BlkFrame W b ((Ss i).get b) ((Ss j).get b) := by
  intro j
  induction j with
  | zero => intro h _; have : i = 0 := by omega
            subst this; exact ⟨[], (fun p hp => by cases hp), BlkFrame.refl _ _ _⟩
  | succ j ih =>
    intro h hj
    rcases Nat.lt_or_ge j i with q | q
    · have : i = j + 1 := by omega
      subst this; exact ⟨[], (fun p hp => by cases hp), BlkFrame.refl _ _ _⟩
    · obtain ⟨W, hW, hf⟩ := ih q (by omega)
      have hs := C.sizes q (by omega)
      refine ⟨Ws j ++ W, fun p hp => ?_, hf.trans (C.fr j (by omega) b (by omega))⟩
      rcases List.mem_append.1 hp with hp | hp
      · exact ⟨j, q, by omega, hp⟩
      · obtain ⟨k, h1, h2, h3⟩ := hW p hp; exact ⟨k, h1, by omega, h3⟩

theorem Can.gone (C : Can ops Ts Ss vs Ws) {i j b : Nat} (hb : b < (Ss i).size) (h : i ≤ j) (hj : j ≤ ops.length) (hg : ((Ss i).get b).isGone = true) : ((Ss j).get b).isGone = true := by
  obtain ⟨W, _, hf⟩ := C.chain hb h hj
  exact hf.gone hg

theorem Can.back (C : Can ops Ts Ss vs Ws) {i j b o : Nat} (hb : b < (Ss i).size) (h : i ≤ j) (hj : j ≤ ops.length) (hg : WOk ((Ss j).get b) o) : WOk ((Ss i).get b) o := by
  obtain ⟨W, _, hf⟩ := C.chain hb h hj
  exact hg.back hf

/-- a block that cannot be written at one time cannot be written at any -/
def Ro (ops : List Oper) (Ss : Nat → XS) (b : Nat) : Prop := ∃ j, j ≤ ops.length ∧ b < (Ss j).size ∧ ((Ss j).get b).isRo = true

theorem Can.ro (C : Can ops Ts Ss vs Ws) {b j : Nat} (h : Ro ops Ss b) (hj : j ≤ ops.length) (hb : b < (Ss j).size) : ((Ss j).get b).isRo = true ∨ ((Ss j).get b).isGone = true := by
  obtain ⟨i, hi, hbi, hr⟩ := h
  rcases Nat.le_total i j with q | q
  · obtain ⟨W, _, hf⟩ := C.chain hbi q hj
    revert hr hf
    cases (Ss i).get b <;> cases (Ss j).get b <;> simp [XBlk.isRo, XBlk.isGone, BlkFrame]
    rename_i cs k cs' k'
    intro hk h1 h2 h3 h4
    subst h1
    cases k' <;> simp_all
  · obtain ⟨W, _, hf⟩ := C.chain hb q hi
    revert hr hf
    cases (Ss i).get b <;> cases (Ss j).get b <;> simp [XBlk.isRo, XBlk.isGone, BlkFrame]
    rename_i cs k cs' k'
    intro hk h1 h2 h3 h4
    subst h1
    cases k <;> simp_all

def Dead (ops : List Oper) (Ws : Nat → List (Nat × Nat)) (D : Nat → Prop) (j b o : Nat) : Prop :=
  ∃ k, k < ops.length ∧ k ≠ j ∧ (b, o) ∈ Ws k ∧ ((j < ops.length ∧ ordered (predsOf ops) j k = false) ∨ (k < j ∧ ¬ D k))

/-- given up by what is done; c came with it -/
def Kd (ops : List Oper) (Ss : Nat → XS) (D : Nat → Prop) (b c : Nat) : Prop :=
  (b < (Ss 0).size ∧ ((Ss 0).get b).isGone = true) ∨
  ∃ k, D k ∧ k < ops.length ∧ b < (Ss (k + 1)).size ∧ ((Ss (k + 1)).get b).isGone = true ∧ (b < (Ss k).size → ((Ss k).get b).isGone = false) ∧ (Ss k).size ≤ c

/-- what an operation looks at, and the end -/
def Looks (ops : Array Oper) (j t : Nat) : Prop := j = ops.toList.length ∨ ∃ o, ops.toList[j]? = some o ∧ t ∈ o.looksAt ops
def Writes (ops : List Oper) (k t : Nat) : Prop := ∃ o, ops[k]? = some o ∧ o.dst = some t

end

structure Inv (B : Nat) (w0 : World) (n : Nat) (ops : Array Oper) (Ts : Nat → Tmps) (Ss : Nat → XS) (Ws : Nat → List (Nat × Nat)) (ρs : Emb) (ws : World) (D : Nat → Prop) (ρ : Emb) (a : Act) (w : World) : Prop where
  cl : ∀ k, D k → k < ops.toList.length ∧ ∀ o, ops.toList[k]? = some o → ∀ d, d ∈ directs o → D d
  below : Below B w0 w
  Bw : B ≤ w0.heap.size
  dom : ∀ b e, ρ b = some e → b < (Ss 0).size ∨ ∃ k, D k ∧ (Ss k).size ≤ b ∧ b < (Ss (k + 1)).size
  lt : ∀ b e, ρ b = some e → e.blk < w.heap.size
  inj : ∀ b b' e e', ρ b = some e → ρ b' = some e' → e.blk = e'.blk → b ≠ b' → (Ro ops.toList Ss b ∧ Ro ops.toList Ss b') ∨ Kd ops.toList Ss D b b' ∨ Kd ops.toList Ss D b' b
  wd : ∀ k, D k → ∀ p, p ∈ Ws k → ∃ e, ρ p.1 = some e
  wl : ∀ k, D k → ∀ p, p ∈ Ws k → p.1 < (Ss 0).size → WOk ((Ss 0).get p.1) p.2
  blk : ∀ j, j ≤ ops.toList.length → ¬ D j → ∀ b e, ρ b = some e → b < (Ss j).size → BlkP (restr ρ (Ss j).size) B w e (Dead ops.toList Ws D j b) ((Ss j).get b)
  tmp : ∀ j, j ≤ ops.toList.length → ¬ D j → ∀ t, Looks ops j t → (∀ k, k < j → Writes ops.toList k t → D k) → (tget (Ts j) t).live = true → VR (restr ρ (Ss j).size) (tget (Ts j) t) (a.tmps.getD t undef)
  tsz : a.tmps.size = n
  dfr : a.defers = []
  ext : ρs.le ρ
  old : ∀ b e, ρ b = some e → b < (Ss 0).size → ρs b = some e
  wsize : ws.heap.size ≤ w.heap.size
  new : ∀ b e, ρ b = some e → (Ss 0).size ≤ b → ws.heap.size ≤ e.blk ∨ ∃ k, D k ∧ ∃ p, p ∈ Ws k ∧ p.1 < (Ss 0).size ∧ ∃ e0, ρs p.1 = some e0 ∧ e0.blk = e.blk ∧ ((Ss (k + 1)).get p.1).isGone = true
  frame : ∀ r o, r < ws.heap.size → SameAt ws w r o ∨ ∃ k, D k ∧ ∃ p, p ∈ Ws k ∧ p.1 < (Ss 0).size ∧ ∃ e, ρs p.1 = some e ∧ e.blk = r ∧ (o = p.2 + e.sh ∨ ((Ss (k + 1)).get p.1).isGone = true)
  frameI : ∀ r, r < ws.heap.size → w.heap[r]? = ws.heap[r]? ∨ ∃ k, D k ∧ ∃ p, p ∈ Ws k ∧ p.1 < (Ss 0).size ∧ ∃ e, ρs p.1 = some e ∧ e.blk = r
  keep : ∀ r o, (ws.cell? ⟨r, o, none⟩).isSome = true → ws.frozen? ⟨r, o, none⟩ = false → (w.cell? ⟨r, o, none⟩).isSome = true ∧ w.frozen? ⟨r, o, none⟩ = false
  fz : Froz B ρ w
  zold : ∀ t r o v, ρ.z t r o = some v → r < ws.heap.size → ρs.z t r o = some v

/-- an operation was carried out -/
structure Did (B : Nat) (w0 : World) (Ss : Nat → XS) (vs : Nat → XV) (Ws : Nat → List (Nat × Nat)) (i : Nat) (ρr : Emb) (Sp : XS) (w : World) (ρ' : Emb) (S' : XS) (w' : World) (u : Value) : Prop where
  rel : Rel B w0 ρ' S' w'
  ev : Ev (Ss i).size ρr Sp w ρ' S' w' (Ws i)
  val : VR ρ' (vs i) u
  spsz : Sp.size = (Ss i).size
  size : S'.size = (Ss (i + 1)).size
  sp : ∀ b o, WOk (Sp.get b) o → WOk ((Ss i).get b) o
  newb : ∀ b, (Ss i).size ≤ b → S'.get b = (Ss (i + 1)).get b
  agree : ∀ b, b < (Ss i).size → Agree (Ws i) b (S'.get b) ((Ss (i + 1)).get b)

end Go.XM

namespace Go.XM
set_option linter.unusedVariables false
set_option linter.unusedSimpArgs false
open Go.RowKit
set_option linter.unusedVariables false

section
variable {B : Nat} {w0 : World} {n : Nat} {ops : Array Oper} {Ts : Nat → Tmps} {Ss : Nat → XS} {vs : Nat → XV} {Ws : Nat → List (Nat × Nat)} {ρs : Emb} {ws : World} {D : Nat → Prop} {ρ : Emb} {a : Act} {w : World}

theorem Inv.ord1 (St : Static n ops) (I : Inv B w0 n ops Ts Ss Ws ρs ws D ρ a w) {j k : Nat} (hk : D k) (hj : ¬ D j) (h : j < k) : ordered (predsOf ops.toList) j k = false := by
  cases hq : ordered (predsOf ops.toList) j k with
  | false => rfl
  | true =>
    exfalso
    rcases (ordered_iff _ _ _).1 hq with q | q
    · have := pr_lt St.dir _ _ q; omega
    · exact hj (pr_closed St.dir (fun m hm => (I.cl m hm).2) k (fun o ho d hd => (I.cl k hk).2 o ho d hd) j q)

theorem Inv.ord2 (St : Static n ops) (I : Inv B w0 n ops Ts Ss Ws ρs ws D ρ a w) {i j : Nat} (hi : ∀ o, ops.toList[i]? = some o → ∀ d, d ∈ directs o → D d) (hj : ¬ D j) (h : ordered (predsOf ops.toList) j i = true) : i < j := by
  rcases (ordered_iff _ _ _).1 h with q | q
  · exact pr_lt St.dir _ _ q
  · exact absurd (pr_closed St.dir (fun m hm => (I.cl m hm).2) i hi j q) hj

variable {i : Nat} {Sp S' : XS} {ρ' : Emb} {w' : World} {u : Value}

def addD (D : Nat → Prop) (i : Nat) : Nat → Prop := fun k => D k ∨ k = i

def Emb.or (ρ ρ' : Emb) : Emb := ⟨fun b => (ρ b).or (ρ' b), ρ'.z⟩
theorem Emb.or_le {ρ ρ' : Emb} (hz : ρ.z.le ρ'.z) : ρ.le (ρ.or ρ') := ⟨fun b e h => by unfold Emb.or; simp only; rw [h]; rfl, hz⟩

/-- a block is given up: what an operation still to be done knows of it -/
theorem kd_dead (St : Static n ops) (C : Can ops.toList Ts Ss vs Ws) (I : Inv B w0 n ops Ts Ss Ws ρs ws D ρ a w) {b c j : Nat} (h : Kd ops.toList Ss D b c) (hj : j ≤ ops.toList.length) (hjD : ¬ D j) (hb : b < (Ss j).size) :
    ((Ss j).get b).isGone = true ∨ ∃ cs k, (Ss j).get b = .cells cs k ∧ ∀ o, o < cs.length → Dead ops.toList Ws D j b o := by
  rcases h with ⟨hb0, hg⟩ | ⟨k, hk, hkl, hbk, hg, hng, _⟩
  · exact .inl (C.gone hb0 (Nat.zero_le _) hj hg)
  · rcases Nat.lt_trichotomy k j with q | q | q
    · exact .inl (C.gone hbk q hj hg)
    · subst q; exact absurd hk hjD
    · right
      have hs := C.sizes (i := j) (j := k) (by omega) (by omega)
      obtain ⟨W, _, hf⟩ := C.chain hb (j := k) (by omega) (by omega)
      have hng' := hng (by omega)
      have hf2 := C.fr k hkl b (by omega)
      cases hx : (Ss j).get b with
      | cells cs kk =>
        refine ⟨cs, kk, rfl, fun o ho => ⟨k, hkl, by omega, ?_, .inl ⟨by omega, I.ord1 St hk hjD q⟩⟩⟩
        rw [hx] at hf
        cases hy : (Ss k).get b with
        | cells cs' kk' =>
          rw [hy] at hf hf2
          cases hz : (Ss (k + 1)).get b with
          | cells _ _ => rw [hz] at hg; cases hg
          | iter _ _ => rw [hz] at hg; cases hg
          | gone => rw [hz] at hf2; exact hf2.2 o (Nat.lt_of_lt_of_le (by rw [hf.2.1]; exact ho) (room_le _ _))
        | iter _ _ => rw [hy] at hf; exact hf.elim
        | gone => rw [hy] at hng'; cases hng'
      | iter s pos =>
        exfalso
        rw [hx] at hf
        cases hy : (Ss k).get b with
        | cells cs' kk' => rw [hy] at hf; exact hf.elim
        | iter _ _ =>
          rw [hy] at hf2
          cases hz : (Ss (k + 1)).get b with
          | cells _ _ => rw [hz] at hg; cases hg
          | iter _ _ => rw [hz] at hg; cases hg
          | gone => rw [hz] at hf2; exact hf2.elim
        | gone => rw [hy] at hng'; cases hng'
      | gone =>
        exfalso
        rw [hx] at hf
        have := hf.gone rfl
        rw [hng'] at this; cases this

/-- what an operation writes, another has not given up -/
theorem not_kd (St : Static n ops) (C : Can ops.toList Ts Ss vs Ws) (I : Inv B w0 n ops Ts Ss Ws ρs ws D ρ a w) (hi : i < ops.toList.length) (hiD : ¬ D i)
    (R : Did B w0 Ss vs Ws i (restr ρ (Ss i).size) Sp w ρ' S' w' u) {p : Nat × Nat} (hp : p ∈ Ws i) {c : Nat} : ¬ Kd ops.toList Ss D p.1 c := by
  intro h
  have hpl : p.1 < (Ss i).size := R.ev.wb p hp
  have hw := R.sp _ _ (R.ev.wl p hp)
  rcases h with ⟨hb0, hg⟩ | ⟨k, hk, hkl, hbk, hg, hng, _⟩
  · have := C.gone hb0 (Nat.zero_le i) (by omega) hg
    rw [hw.notGone] at this; cases this
  · rcases Nat.lt_trichotomy k i with q | q | q
    · have := C.gone hbk q (by omega) hg
      rw [hw.notGone] at this; cases this
    · subst q; exact hiD hk
    · have hs := C.sizes (i := i) (j := k) (by omega) (by omega)
      have hng' := hng (by omega)
      have hf2 := C.fr k hkl p.1 (by omega)
      obtain ⟨W, _, hf⟩ := C.chain hpl (j := k) (by omega) (by omega)
      refine C.apart i k hi hkl (by omega) (I.ord1 St hk hiD q) p hp ?_
      cases hx : (Ss i).get p.1 with
      | cells cs kk =>
        rw [hx] at hf hw
        cases hy : (Ss k).get p.1 with
        | cells cs' kk' =>
          rw [hy] at hf hf2
          cases hz : (Ss (k + 1)).get p.1 with
          | cells _ _ => rw [hz] at hg; cases hg
          | iter _ _ => rw [hz] at hg; cases hg
          | gone => rw [hz] at hf2; exact hf2.2 p.2 (by rw [hf.1, room_len hf.2.1]; exact hw.1)
        | iter _ _ => rw [hy] at hf; exact hf.elim
        | gone => rw [hy] at hng'; cases hng'
      | iter s pos =>
        exfalso
        rw [hx] at hf
        cases hy : (Ss k).get p.1 with
        | cells cs' kk' => rw [hy] at hf; exact hf.elim
        | iter _ _ =>
          rw [hy] at hf2
          cases hz : (Ss (k + 1)).get p.1 with
          | cells _ _ => rw [hz] at hg; cases hg
          | iter _ _ => rw [hz] at hg; cases hg
          | gone => rw [hz] at hf2; exact hf2.elim
        | gone => rw [hy] at hng'; cases hng'
      | gone => rw [hx] at hw; exact hw.elim

theorem not_ro (C : Can ops.toList Ts Ss vs Ws) (hi : i < ops.toList.length) (R : Did B w0 Ss vs Ws i (restr ρ (Ss i).size) Sp w ρ' S' w' u) {p : Nat × Nat} (hp : p ∈ Ws i) : ¬ Ro ops.toList Ss p.1 := by
  intro h
  have hw := R.sp _ _ (R.ev.wl p hp)
  rcases C.ro h (Nat.le_of_lt hi) (R.ev.wb p hp) with q | q
  · rw [hw.notRo] at q; cases q
  · rw [hw.notGone] at q; cases q

theorem hit_kd (St : Static n ops) (C : Can ops.toList Ts Ss vs Ws) (I : Inv B w0 n ops Ts Ss Ws ρs ws D ρ a w) (hi : i < ops.toList.length) (hiD : ¬ D i)
    (R : Did B w0 Ss vs Ws i (restr ρ (Ss i).size) Sp w ρ' S' w' u) {p : Nat × Nat} (hp : p ∈ Ws i) {e1 : Ent} (h1 : ρ p.1 = some e1) {b : Nat} {e : Ent} (hb : ρ b = some e) (hbl : e1.blk = e.blk) (hne : p.1 ≠ b) : Kd ops.toList Ss D b p.1 := by
  rcases I.inj p.1 b e1 e h1 hb hbl hne with q | q | q
  · exact absurd q.1 (not_ro C hi R hp)
  · exact absurd q (not_kd St C I hi hiD R hp)
  · exact q

def Has : XBlk → Nat → Prop
  | .cells cs _, o => o < cs.length
  | .iter _ _, o => o = 0
  | .gone, _ => False

/-- which real blocks an operation leaves alone -/
theorem no_hit (St : Static n ops) (C : Can ops.toList Ts Ss vs Ws) (I : Inv B w0 n ops Ts Ss Ws ρs ws D ρ a w) (hi : i < ops.toList.length) (hiD : ¬ D i)
    (R : Did B w0 Ss vs Ws i (restr ρ (Ss i).size) Sp w ρ' S' w' u) {p : Nat × Nat} (hp : p ∈ Ws i) {e1 : Ent} (h1 : ρ p.1 = some e1) {b : Nat} {e : Ent} (hb : ρ b = some e) (hbl : e1.blk = e.blk)
    {j : Nat} (hj : j ≤ ops.toList.length) (hjD : ¬ D j) (hbj : b < (Ss j).size) {o : Nat} (hlive : Has ((Ss j).get b) o) (hnd : ¬ Dead ops.toList Ws D j b o) : p.1 = b := by
  by_cases hne : p.1 = b
  · exact hne
  exfalso
  rcases kd_dead St C I (hit_kd St C I hi hiD R hp h1 hb hbl hne) hj hjD hbj with q | ⟨cs, k, hcs, q⟩
  · revert q hlive; cases (Ss j).get b <;> simp [XBlk.isGone, Has]
  · rw [hcs] at hlive; exact hnd (q o hlive)

/-- a cell that the operation does not write stays as it is in the real world -/
theorem same_cell (St : Static n ops) (C : Can ops.toList Ts Ss vs Ws) (I : Inv B w0 n ops Ts Ss Ws ρs ws D ρ a w) (hi : i < ops.toList.length) (hiD : ¬ D i)
    (R : Did B w0 Ss vs Ws i (restr ρ (Ss i).size) Sp w ρ' S' w' u) {b : Nat} {e : Ent} (hb : ρ b = some e)
    {j : Nat} (hj : j ≤ ops.toList.length) (hjD : ¬ D j) (hbj : b < (Ss j).size) {o : Nat} {cs : List XV} {k : XKind} (hcs : (Ss j).get b = .cells cs k) (ho : o < cs.length) (hnd : ¬ Dead ops.toList Ws D j b o) (hnw : (b, o) ∉ Ws i) : SameAt w w' e.blk (o + e.sh) := by
  rcases R.ev.frame e.blk (o + e.sh) (I.lt b e hb) with q | ⟨p, hp, e1, q1, q2, q3⟩ | ⟨b0, e0, q1, q2, _⟩
  · exact q
  · exfalso
    obtain ⟨hpl, hpe⟩ := restr_some.1 q1
    have hpb := no_hit St C I hi hiD R hp hpe hb q2 hj hjD hbj (o := o) (by rw [hcs]; exact ho) hnd
    obtain ⟨p1, p2⟩ := p
    simp only at hpb q1 q2 q3 hpl hpe
    subst hpb
    rw [hb] at hpe
    injection hpe with hpe
    subst hpe
    rcases q3 with q3 | q3
    · have : p2 = o := by omega
      subst this
      exact hnw hp
    · have hw := R.sp _ _ (R.ev.wl _ hp)
      simp only at hw
      have hag := R.agree p1 hpl
      have hfr := C.fr i hi p1 hpl
      -- given up by i
      have hg : ((Ss (i + 1)).get p1).isGone = true := by
        revert hag q3
        cases S'.get p1 <;> cases (Ss (i + 1)).get p1 <;> simp [Agree, XBlk.isGone]
      cases hx : (Ss i).get p1 with
      | cells ci ki =>
        rw [hx] at hfr
        cases hy : (Ss (i + 1)).get p1 with
        | cells _ _ => rw [hy] at hg; cases hg
        | iter _ _ => rw [hy] at hg; cases hg
        | gone =>
          rw [hy] at hfr
          refine hnw (hfr.2 o (Nat.lt_of_lt_of_le ?_ (room_le _ _)))
          rcases Nat.le_total i j with q | q
          · obtain ⟨W, _, hf⟩ := C.chain hpl q hj
            rw [hx, hcs] at hf
            have := hf.2.1
            omega
          · obtain ⟨W, _, hf⟩ := C.chain hbj q (Nat.le_of_lt hi)
            rw [hx, hcs] at hf
            have := hf.2.1
            omega
      | iter _ _ =>
        rw [hx] at hfr
        cases hy : (Ss (i + 1)).get p1 with
        | cells _ _ => rw [hy] at hg; cases hg
        | iter _ _ => rw [hy] at hg; cases hg
        | gone => rw [hy] at hfr; exact hfr.elim
      | gone => rw [hx] at hw; exact hw.elim
  · have := (restr_some.1 q2).1; omega

theorem same_iter (St : Static n ops) (C : Can ops.toList Ts Ss vs Ws) (I : Inv B w0 n ops Ts Ss Ws ρs ws D ρ a w) (hi : i < ops.toList.length) (hiD : ¬ D i)
    (R : Did B w0 Ss vs Ws i (restr ρ (Ss i).size) Sp w ρ' S' w' u) {b : Nat} {e : Ent} (hb : ρ b = some e)
    {j : Nat} (hj : j ≤ ops.toList.length) (hjD : ¬ D j) (hbj : b < (Ss j).size) {s : List UInt8} {pos : Nat} (hcs : (Ss j).get b = .iter s pos) (hnd : ¬ Dead ops.toList Ws D j b 0) (hnw : (b, 0) ∉ Ws i) : w'.heap[e.blk]? = w.heap[e.blk]? := by
  rcases R.ev.frameI e.blk (I.lt b e hb) with q | ⟨p, hp, e1, q1, q2⟩ | ⟨b0, e0, q1, q2, _⟩
  · exact q
  · exfalso
    obtain ⟨hpl, hpe⟩ := restr_some.1 q1
    have hpb := no_hit St C I hi hiD R hp hpe hb q2 hj hjD hbj (o := 0) (by rw [hcs]; rfl) hnd
    obtain ⟨p1, p2⟩ := p
    simp only at hpb q1 q2 hpl hpe
    subst hpb
    have hw := R.sp _ _ (R.ev.wl _ hp)
    simp only at hw
    have hit : ∃ pi, (Ss i).get p1 = .iter s pi := by
      rcases Nat.le_total i j with q | q
      · obtain ⟨W, _, hf⟩ := C.chain hpl q hj
        rw [hcs] at hf
        revert hf hw
        cases (Ss i).get p1 with
        | cells _ _ => intro _ hf; exact hf.elim
        | iter s' p' => intro _ hf; exact ⟨p', by rw [hf.1]⟩
        | gone => intro hw; exact hw.elim
      · obtain ⟨W, _, hf⟩ := C.chain hbj q (Nat.le_of_lt hi)
        rw [hcs] at hf
        revert hf hw
        cases (Ss i).get p1 with
        | cells _ _ => intro _ hf; exact hf.elim
        | iter s' p' => intro _ hf; exact ⟨p', by rw [hf.1]⟩
        | gone => intro hw; exact hw.elim
    obtain ⟨pi, hpi⟩ := hit
    rw [hpi] at hw
    have : p2 = 0 := hw
    subst this
    exact hnw hp
  · have := (restr_some.1 q2).1; omega

end
end Go.XM

namespace Go.XM
set_option linter.unusedVariables false
set_option linter.unusedSimpArgs false
open Go.RowKit
set_option linter.unusedVariables false

section
variable {B : Nat} {w0 : World} {n : Nat} {ops : Array Oper} {Ts : Nat → Tmps} {Ss : Nat → XS} {vs : Nat → XV} {Ws : Nat → List (Nat × Nat)} {ρs : Emb} {ws : World} {D : Nat → Prop} {ρ : Emb} {a : Act} {w : World}
variable {i : Nat} {Sp S' : XS} {ρ' : Emb} {w' : World} {u : Value}

theorem Inv.fresh (C : Can ops.toList Ts Ss vs Ws) (I : Inv B w0 n ops Ts Ss Ws ρs ws D ρ a w) (hi : i < ops.toList.length) (hiD : ¬ D i) {b : Nat} (h1 : (Ss i).size ≤ b) (h2 : b < (Ss (i + 1)).size) : ρ b = none := by
  cases hq : ρ b with
  | none => rfl
  | some e =>
    exfalso
    rcases I.dom b e hq with q | ⟨k, hk, q1, q2⟩
    · have := C.sizes (Nat.zero_le i) (Nat.le_of_lt hi); omega
    · have hkl := (I.cl k hk).1
      rcases Nat.lt_trichotomy k i with q | q | q
      · have := C.sizes (i := k + 1) (j := i) q (by omega); omega
      · subst q; exact hiD hk
      · have := C.sizes (i := i + 1) (j := k) q (by omega); omega

/-- what lasts goes on to last -/
theorem Did.zle (R : Did B w0 Ss vs Ws i (restr ρ (Ss i).size) Sp w ρ' S' w' u) : ρ.z.le ρ'.z := R.ev.ext.z

theorem or_cases (C : Can ops.toList Ts Ss vs Ws) (I : Inv B w0 n ops Ts Ss Ws ρs ws D ρ a w) (hi : i < ops.toList.length) (hiD : ¬ D i) (R : Did B w0 Ss vs Ws i (restr ρ (Ss i).size) Sp w ρ' S' w' u)
    {b : Nat} {e : Ent} (h : ρ.or ρ' b = some e) : ρ b = some e ∨ (ρ b = none ∧ ρ' b = some e ∧ (Ss i).size ≤ b ∧ b < (Ss (i + 1)).size) := by
  unfold Emb.or at h
  simp only at h
  cases hq : ρ b with
  | some e' => rw [hq] at h; exact .inl h
  | none =>
    rw [hq] at h
    have h' : ρ' b = some e := by simpa using h
    have hlt := R.rel.dom b e h'
    rw [R.size] at hlt
    rcases Nat.lt_or_ge b (Ss i).size with q | q
    · have := R.ev.old b e h' (by rw [R.spsz]; exact q)
      rw [(restr_some.1 this).2] at hq; cases hq
    · exact .inr ⟨rfl, h', q, hlt⟩

theorem or_le' (C : Can ops.toList Ts Ss vs Ws) (I : Inv B w0 n ops Ts Ss Ws ρs ws D ρ a w) (hi : i < ops.toList.length) (hiD : ¬ D i) (R : Did B w0 Ss vs Ws i (restr ρ (Ss i).size) Sp w ρ' S' w' u) : ρ'.le (ρ.or ρ') := by
  refine ⟨?_, ZMap.le_refl _⟩
  intro b e h
  unfold Emb.or
  simp only
  rcases Nat.lt_or_ge b (Ss i).size with q | q
  · have := R.ev.old b e h (by rw [R.spsz]; exact q)
    rw [(restr_some.1 this).2]; rfl
  · have hlt := R.rel.dom b e h
    rw [R.size] at hlt
    rw [I.fresh C hi hiD q hlt]
    simpa using h

theorem or_le_restr (C : Can ops.toList Ts Ss vs Ws) (I : Inv B w0 n ops Ts Ss Ws ρs ws D ρ a w) (hi : i < ops.toList.length) (hiD : ¬ D i) (R : Did B w0 Ss vs Ws i (restr ρ (Ss i).size) Sp w ρ' S' w' u)
    {j : Nat} (hij : i < j) (hj : j ≤ ops.toList.length) : ρ'.le (restr (ρ.or ρ') (Ss j).size) := ⟨fun b e h => by
  have hlt := R.rel.dom b e h
  rw [R.size] at hlt
  have := C.sizes (i := i + 1) (j := j) hij hj
  exact restr_some.2 ⟨by omega, (or_le' C I hi hiD R).m b e h⟩, ZMap.le_refl _⟩

theorem blk_step (St : Static n ops) (C : Can ops.toList Ts Ss vs Ws) (I : Inv B w0 n ops Ts Ss Ws ρs ws D ρ a w) (hi : i < ops.toList.length) (hiD : ¬ D i) (hrd : ∀ o, ops.toList[i]? = some o → ∀ d, d ∈ directs o → D d)
    (R : Did B w0 Ss vs Ws i (restr ρ (Ss i).size) Sp w ρ' S' w' u) {j : Nat} (hj : j ≤ ops.toList.length) (hjD : ¬ addD D i j) {b : Nat} {e : Ent} (hb : ρ.or ρ' b = some e) (hbj : b < (Ss j).size) :
    BlkP (restr (ρ.or ρ') (Ss j).size) B w' e (Dead ops.toList Ws (addD D i) j b) ((Ss j).get b) := by
  have hjD' : ¬ D j := fun h => hjD (.inl h)
  have hji : j ≠ i := fun h => hjD (.inr h)
  -- a cell that is nobody's now was nobody's before, or the operation wrote it
  have hdead : ∀ o, ¬ Dead ops.toList Ws (addD D i) j b o → (b, o) ∉ Ws i → ¬ Dead ops.toList Ws D j b o := by
    rintro o hn hw ⟨k, hk, hkj, hm, q⟩
    refine hn ⟨k, hk, hkj, hm, q.imp id fun q => ⟨q.1, fun h => ?_⟩⟩
    rcases h with h | h
    · exact q.2 h
    · subst h; exact hw hm
  -- the cells that the operation wrote come ahead of what is to come
  have hahead : ∀ o, ¬ Dead ops.toList Ws (addD D i) j b o → (b, o) ∈ Ws i → i < j := by
    intro o hn hw
    rcases Nat.lt_or_ge j ops.toList.length with q | q
    · cases hq : ordered (predsOf ops.toList) j i with
      | true => exact I.ord2 St hrd hjD' hq
      | false => exact absurd ⟨i, hi, hji.symm, hw, .inl ⟨q, hq⟩⟩ hn
    · omega
  rcases or_cases C I hi hiD R hb with hρ | ⟨hnone, hρ', hge, hlt⟩
  · have hold := I.blk j hj hjD' b e hρ hbj
    -- between i and j nobody else writes the cell
    have hquiet : ∀ o, ¬ Dead ops.toList Ws (addD D i) j b o → (b, o) ∈ Ws i → ∀ k, i + 1 ≤ k → k < j → (b, o) ∉ Ws k := by
      intro o hn hw k hk1 hk2 hm
      by_cases hDk : D k
      · exact C.apart i k hi (by omega) (by omega) (I.ord1 St hDk hiD (by omega)) _ hw hm
      · refine hn ⟨k, by omega, by omega, hm, .inr ⟨hk2, fun h => ?_⟩⟩
        rcases h with h | h
        · exact hDk h
        · omega
    cases hx : (Ss j).get b with
    | gone => trivial
    | cells cs k =>
      rw [hx] at hold
      obtain ⟨h1, h2⟩ := hold
      have wr : ∀ o v, cs[o]? = some v → ¬ Dead ops.toList Ws (addD D i) j b o → (b, o) ∈ Ws i → i < j ∧ ∃ c2, S'.get b = .cells c2 k ∧ c2[o]? = some v ∧ BlkR ρ' B w' e (.cells c2 k) := fun o v ho hnd hw => by
        have hij := hahead o hnd hw
        have hbi : b < (Ss i).size := R.ev.wb _ hw
        have hbi1 : b < (Ss (i + 1)).size := by have := C.size i hi; omega
        obtain ⟨W, hW, hf⟩ := C.chain hbi1 (j := j) hij hj
        rw [hx] at hf
        have hag := R.agree b hbi
        cases hy : (Ss (i + 1)).get b with
        | cells c1 k1 =>
          rw [hy] at hf hag
          obtain ⟨rfl, l1, f1, _⟩ := hf
          have hc1 : c1[o]? = some v := by
            rw [← f1 o fun hm => ?_]
            · exact ho
            · obtain ⟨m, m1, m2, m3⟩ := hW _ hm
              exact hquiet o hnd hw m m1 m2 m3
          have hbl := R.rel.blk b e (R.ev.ext.m b e (restr_some.2 ⟨hbi, hρ⟩))
          cases hz : S'.get b with
          | cells c2 k2 =>
            rw [hz] at hag hbl
            obtain ⟨rfl, l2, f2⟩ := hag
            exact ⟨hij, c2, rfl, by rw [f2 o hw]; exact hc1, hbl⟩
          | iter _ _ => rw [hz] at hag; exact hag.elim
          | gone => rw [hz] at hag; exact hag.elim
        | iter _ _ => rw [hy] at hf; exact hf.elim
        | gone => rw [hy] at hf; exact hf.elim
      have hfl : k.flat = true → FlatD (Dead ops.toList Ws D j b) cs → FlatD (Dead ops.toList Ws (addD D i) j b) cs := fun hk hf o v ho hv hnd => by
        by_cases hw : (b, o) ∈ Ws i
        · obtain ⟨_, c2, _, hc2, hbl⟩ := wr o v ho hnd hw
          have hm := List.mem_of_getElem? hc2
          cases k with
          | ro => cases hk
          | own => cases hk
          | arr esz => exact hbl.1.2.2.1 v hm hv
          | loose esz n => exact hbl.1.2.2.2.1 v hm hv
        · exact hf o v ho hv (hdead o hnd hw)
      refine ⟨?_, fun o v ho hv hnd => ?_⟩
      · cases k with
        | ro => exact h1
        | own => exact h1
        | arr esz => exact ⟨h1.1, h1.2.1, hfl rfl h1.2.2.1, fun m hm => R.ev.keep _ _ (h1.2.2.2 m hm).1 (h1.2.2.2 m hm).2⟩
        | loose esz n =>
          obtain ⟨a1, a2, al, af, rsz, a3, am, a4⟩ := h1
          exact ⟨a1, a2, al, hfl rfl af, rsz, a3, am, fun m hm => R.ev.keep _ _ (a4 m hm).1 (a4 m hm).2⟩
      · have hol : o < cs.length := by
          rcases Nat.lt_or_ge o cs.length with q | q
          · exact q
          · rw [List.getElem?_eq_none q] at ho; cases ho
        by_cases hw : (b, o) ∈ Ws i
        · obtain ⟨hij, c2, hz, hc2, hbl⟩ := wr o v ho hnd hw
          obtain ⟨u', q1, q2, q3⟩ := hbl.2 o v hc2 hv
          exact ⟨u', q1, q2.mono (or_le_restr C I hi hiD R hij hj), q3⟩
        · obtain ⟨u', q1, q2, q3⟩ := h2 o v ho hv (hdead o hnd hw)
          obtain ⟨s1, s2⟩ := same_cell St C I hi hiD R hρ hj hjD' hbj hx hol (hdead o hnd hw) hw
          exact ⟨u', s1.trans q1, q2.mono (restr_mono (Emb.or_le R.zle) (Nat.le_refl _)), fun hk => s2.trans (q3 hk)⟩
    | iter s pos =>
      rw [hx] at hold
      refine ⟨hold.1, fun hnd => ?_⟩
      by_cases hw : (b, 0) ∈ Ws i
      · have hij := hahead 0 hnd hw
        have hbi : b < (Ss i).size := R.ev.wb _ hw
        have hbi1 : b < (Ss (i + 1)).size := by have := C.size i hi; omega
        obtain ⟨W, hW, hf⟩ := C.chain hbi1 (j := j) hij hj
        rw [hx] at hf
        have hag := R.agree b hbi
        cases hy : (Ss (i + 1)).get b with
        | cells c1 k1 => rw [hy] at hf; exact hf.elim
        | iter s1 p1 =>
          rw [hy] at hf hag
          obtain ⟨rfl, f1⟩ := hf
          have hp1 := f1 fun hm => (by
            obtain ⟨m, m1, m2, m3⟩ := hW _ hm
            exact hquiet 0 hnd hw m m1 m2 m3)
          subst hp1
          have hbl := R.rel.blk b e (R.ev.ext.m b e (restr_some.2 ⟨hbi, hρ⟩))
          cases hz : S'.get b with
          | cells c2 k2 => rw [hz] at hag; exact absurd hw hag
          | iter s2 p2 =>
            rw [hz] at hag hbl
            obtain ⟨rfl, f2⟩ := hag
            have := f2 hw
            subst this
            exact hbl.2
          | gone => rw [hz] at hag; exact hag.elim
        | gone => rw [hy] at hf; exact hf.elim
      · rw [same_iter St C I hi hiD R hρ hj hjD' hbj hx (hdead 0 hnd hw) hw]
        exact hold.2 (hdead 0 hnd hw)
  · -- a block that the operation made
    have hij : i < j := by
      rcases Nat.lt_or_ge i j with q | q
      · exact q
      · have := C.sizes (i := j) (j := i) q (by omega); omega
    obtain ⟨W, hW, hf⟩ := C.chain hlt (j := j) hij hj
    have hbl := R.rel.blk b e hρ'
    rw [R.newb b hge] at hbl
    have hquiet : ∀ o, ¬ Dead ops.toList Ws (addD D i) j b o → (b, o) ∉ W := by
      intro o hn hm
      obtain ⟨k, k1, k2, k3⟩ := hW _ hm
      by_cases hDk : D k
      · obtain ⟨e', he'⟩ := I.wd k hDk _ k3
        rw [hnone] at he'; cases he'
      · refine hn ⟨k, by omega, by omega, k3, .inr ⟨k2, fun h => ?_⟩⟩
        rcases h with h | h
        · exact hDk h
        · omega
    cases hx : (Ss j).get b with
    | gone => trivial
    | cells cs k =>
      rw [hx] at hf
      cases hy : (Ss (i + 1)).get b with
      | cells c1 k1 =>
        rw [hy] at hf hbl
        obtain ⟨rfl, l1, f1, _⟩ := hf
        obtain ⟨h1, h2⟩ := hbl
        have hfl : Flat c1 → FlatD (Dead ops.toList Ws (addD D i) j b) cs := fun hf o v ho hv hnd => by
          rw [f1 o (hquiet o hnd)] at ho
          exact hf v (List.mem_of_getElem? ho) hv
        refine ⟨?_, fun o v ho hv hnd => ?_⟩
        · cases k with
          | ro => exact h1
          | own => exact h1
          | arr esz => exact ⟨h1.1, h1.2.1, hfl h1.2.2.1, fun m hm => h1.2.2.2 m (by omega)⟩
          | loose esz n =>
            obtain ⟨a1, a2, al, af, rsz, a3, am, a4⟩ := h1
            exact ⟨a1, a2, by omega, hfl af, rsz, a3, am, a4⟩
        · rw [f1 o (hquiet o hnd)] at ho
          obtain ⟨u', q1, q2, q3⟩ := h2 o v ho hv
          exact ⟨u', q1, q2.mono (or_le_restr C I hi hiD R hij hj), q3⟩
      | iter _ _ => rw [hy] at hf; exact hf.elim
      | gone => rw [hy] at hf; exact hf.elim
    | iter s pos =>
      rw [hx] at hf
      cases hy : (Ss (i + 1)).get b with
      | cells c1 k1 => rw [hy] at hf; exact hf.elim
      | iter s1 p1 =>
        rw [hy] at hf hbl
        obtain ⟨rfl, f1⟩ := hf
        refine ⟨hbl.1, fun hnd => ?_⟩
        rw [f1 (hquiet 0 hnd)]
        exact hbl.2
      | gone => rw [hy] at hf; exact hf.elim

end
end Go.XM

namespace Go.XM
set_option linter.unusedVariables false
set_option linter.unusedSimpArgs false
open Go.RowKit
set_option linter.unusedVariables false

section
variable {B : Nat} {w0 : World} {n : Nat} {ops : Array Oper} {Ts : Nat → Tmps} {Ss : Nat → XS} {vs : Nat → XV} {Ws : Nat → List (Nat × Nat)} {ρs : Emb} {ws : World} {D : Nat → Prop} {ρ : Emb} {a : Act} {w : World}
variable {i : Nat} {Sp S' : XS} {ρ' : Emb} {w' : World} {u : Value}

theorem Kd.mono {D D' : Nat → Prop} (h : ∀ k, D k → D' k) {b c : Nat} (q : Kd ops.toList Ss D b c) : Kd ops.toList Ss D' b c :=
  q.imp id fun ⟨k, hk, r⟩ => ⟨k, h k hk, r⟩

theorem gone_next (R : Did B w0 Ss vs Ws i (restr ρ (Ss i).size) Sp w ρ' S' w' u) {b : Nat} (hb : b < (Ss i).size) (hg : (S'.get b).isGone = true) : ((Ss (i + 1)).get b).isGone = true := by
  have hag := R.agree b hb
  revert hag hg
  cases S'.get b <;> cases (Ss (i + 1)).get b <;> simp [Agree, XBlk.isGone]

theorem inj_new (St : Static n ops) (C : Can ops.toList Ts Ss vs Ws) (I : Inv B w0 n ops Ts Ss Ws ρs ws D ρ a w) (hi : i < ops.toList.length) (hiD : ¬ D i)
    (R : Did B w0 Ss vs Ws i (restr ρ (Ss i).size) Sp w ρ' S' w' u) {b b' : Nat} {e e' : Ent} (hb : ρ b = some e) (hb' : ρ' b' = some e') (hge : (Ss i).size ≤ b') (hq : e.blk = e'.blk) : Kd ops.toList Ss (addD D i) b b' := by
  have hlt := I.lt b e hb
  rcases R.ev.new b' e' hb' hge with q | ⟨b0, e0, q1, q2, _⟩ | ⟨p, hp, e0, q1, q2, q3⟩
  · omega
  · have := (restr_some.1 q2).1; omega
  · obtain ⟨hpl, hpe⟩ := restr_some.1 q1
    have hg := gone_next R hpl q3
    have hw := R.sp _ _ (R.ev.wl p hp)
    have hs := C.size i hi
    by_cases hpb : p.1 = b
    · rw [hpb] at hg hw hpl
      exact .inr ⟨i, .inr rfl, hi, by omega, hg, fun _ => hw.notGone, hge⟩
    · rcases hit_kd St C I hi hiD R hp hpe hb (q2.trans hq.symm) hpb with k | ⟨k, k1, k2, k3, k4, k5, k6⟩
      · exact .inl k
      · exact .inr ⟨k, .inl k1, k2, k3, k4, k5, by omega⟩

theorem inj_step (St : Static n ops) (C : Can ops.toList Ts Ss vs Ws) (I : Inv B w0 n ops Ts Ss Ws ρs ws D ρ a w) (hi : i < ops.toList.length) (hiD : ¬ D i)
    (R : Did B w0 Ss vs Ws i (restr ρ (Ss i).size) Sp w ρ' S' w' u) {b b' : Nat} {e e' : Ent} (hb : ρ.or ρ' b = some e) (hb' : ρ.or ρ' b' = some e') (hq : e.blk = e'.blk) (hne : b ≠ b') :
    (Ro ops.toList Ss b ∧ Ro ops.toList Ss b') ∨ Kd ops.toList Ss (addD D i) b b' ∨ Kd ops.toList Ss (addD D i) b' b := by
  rcases or_cases C I hi hiD R hb with h1 | ⟨_, h1, h2, h3⟩
  · rcases or_cases C I hi hiD R hb' with k1 | ⟨_, k1, k2, k3⟩
    · exact (I.inj b b' e e' h1 k1 hq hne).imp id fun q => q.imp (Kd.mono fun k => .inl) (Kd.mono fun k => .inl)
    · exact .inr (.inl (inj_new St C I hi hiD R h1 k1 k2 hq))
  · rcases or_cases C I hi hiD R hb' with k1 | ⟨_, k1, k2, k3⟩
    · exact .inr (.inr (inj_new St C I hi hiD R k1 h1 h2 hq.symm))
    · have hN := C.sizes (i := i + 1) (j := i + 1) (Nat.le_refl _) hi
      rcases R.rel.inj b b' e e' h1 k1 hq hne with q | q | q
      · rw [R.newb b h2, R.newb b' k2] at q
        exact .inl ⟨⟨i + 1, hi, h3, q.1⟩, ⟨i + 1, hi, k3, q.2⟩⟩
      · rw [R.newb b h2] at q
        exact .inr (.inl (.inr ⟨i, .inr rfl, hi, h3, q, fun q => by omega, k2⟩))
      · rw [R.newb b' k2] at q
        exact .inr (.inr (.inr ⟨i, .inr rfl, hi, k3, q, fun q => by omega, h2⟩))

theorem tput {o : Oper} (T : Tmps) (v : XV) (t : Nat) : tget (putX T o.dst v) t = if o.dst = some t then v else tget T t := by
  unfold putX
  cases hd : o.dst with
  | none => simp
  | some d =>
    simp only [tget_tset, Option.some.injEq]
    by_cases q : t = d
    · subst q; simp
    · rw [if_neg q, if_neg (fun h => q h.symm)]

/-- what nobody puts stays -/
theorem Can.tstay (C : Can ops.toList Ts Ss vs Ws) {i t : Nat} : ∀ {j : Nat}, i ≤ j → j ≤ ops.toList.length → (∀ k, i ≤ k → k < j → ¬ Writes ops.toList k t) → tget (Ts j) t = tget (Ts i) t := by
  intro j
  induction j with
  | zero => intro h _ _; have : i = 0 := by omega
            subst this; rfl
  | succ j ih =>
    intro h hj hn
    rcases Nat.lt_or_ge j i with q | q
    · have : i = j + 1 := by omega
      subst this; rfl
    · rw [← ih q (by omega) fun k h1 h2 => hn k h1 (by omega)]
      have ho : ops.toList[j]? = some (ops.toList[j]'(by omega)) := List.getElem?_eq_getElem _
      rw [C.put j _ ho, tput, if_neg]
      intro hd
      exact hn j q (by omega) ⟨_, ho, hd⟩

theorem put_none (a : Act) (u : Value) : a.put none u = a := rfl

theorem tmp_step (St : Static n ops) (C : Can ops.toList Ts Ss vs Ws) (I : Inv B w0 n ops Ts Ss Ws ρs ws D ρ a w) (hi : i < ops.toList.length) (hiD : ¬ D i) (hrd : ∀ o, ops.toList[i]? = some o → ∀ d, d ∈ directs o → D d)
    (R : Did B w0 Ss vs Ws i (restr ρ (Ss i).size) Sp w ρ' S' w' u) {o : Oper} (ho : ops.toList[i]? = some o) {j : Nat} (hj : j ≤ ops.toList.length) (hjD : ¬ addD D i j) {t : Nat} (hl : Looks ops j t)
    (hw : ∀ k, k < j → Writes ops.toList k t → addD D i k) (hlv : (tget (Ts j) t).live = true) : VR (restr (ρ.or ρ') (Ss j).size) (tget (Ts j) t) ((a.put o.dst u).tmps.getD t undef) := by
  have hjD' : ¬ D j := fun h => hjD (.inl h)
  have hji : j ≠ i := fun h => hjD (.inr h)
  by_cases hd : o.dst = some t
  · have hdt : t < a.tmps.size := by
      have := St.dst i o ho
      unfold okDst at this
      rw [hd] at this
      rw [I.tsz]; simpa using this
    rw [hd, put_getD a t u t hdt, if_pos rfl]
    have hij : i < j := by
      rcases hl with hl | ⟨o', ho', hl⟩
      · omega
      · exact I.ord2 St hrd hjD' (St.tmp j i o' o t ho' ho hji hd (.inl hl))
    rw [C.tstay (i := i + 1) hij hj fun k h1 h2 hk => ?_, C.put i o ho, tput, if_pos hd]
    · exact R.val.mono (or_le_restr C I hi hiD R hij hj)
    · have hDk : D k := by
        rcases hw k h2 hk with q | q
        · exact q
        · omega
      obtain ⟨ok, hok, hkd⟩ := hk
      have hord := St.tmp k i ok o t hok ho (by omega) hd (.inr hkd)
      have := I.ord1 St hDk hiD (by omega)
      rw [ordered_symm, this] at hord
      cases hord
  · have he : (a.put o.dst u).tmps.getD t undef = a.tmps.getD t undef := by
      cases hq : o.dst with
      | none => rfl
      | some d =>
        have hdt : d < a.tmps.size := by
          have := St.dst i o ho
          unfold okDst at this
          rw [hq] at this
          rw [I.tsz]; simpa using this
        rw [put_getD a d u t hdt, if_neg]
        rintro rfl
        exact hd hq
    rw [he]
    refine (I.tmp j hj hjD' t hl (fun k h1 h2 => ?_) hlv).mono (restr_mono (Emb.or_le R.zle) (Nat.le_refl _))
    rcases hw k h1 h2 with q | q
    · exact q
    · subst q
      obtain ⟨o', ho', hd'⟩ := h2
      rw [ho] at ho'
      injection ho' with ho'
      subst ho'
      exact absurd hd' hd

theorem inv_step (St : Static n ops) (C : Can ops.toList Ts Ss vs Ws) (I : Inv B w0 n ops Ts Ss Ws ρs ws D ρ a w) (hi : i < ops.toList.length) (hiD : ¬ D i) (hrd : ∀ o, ops.toList[i]? = some o → ∀ d, d ∈ directs o → D d)
    (R : Did B w0 Ss vs Ws i (restr ρ (Ss i).size) Sp w ρ' S' w' u) {o : Oper} (ho : ops.toList[i]? = some o) : Inv B w0 n ops Ts Ss Ws ρs ws (addD D i) (ρ.or ρ') (a.put o.dst u) w' where
  cl := by
    intro k hk
    rcases hk with hk | rfl
    · exact ⟨(I.cl k hk).1, fun o ho d hd => .inl ((I.cl k hk).2 o ho d hd)⟩
    · exact ⟨hi, fun o ho d hd => .inl (hrd o ho d hd)⟩
  below := R.rel.below
  Bw := I.Bw
  dom := by
    intro b e hb
    rcases or_cases C I hi hiD R hb with h | ⟨_, _, h1, h2⟩
    · exact (I.dom b e h).imp id fun ⟨k, hk, q⟩ => ⟨k, .inl hk, q⟩
    · exact .inr ⟨i, .inr rfl, h1, h2⟩
  lt := by
    intro b e hb
    rcases or_cases C I hi hiD R hb with h | ⟨_, h, _, _⟩
    · have := I.lt b e h; have := R.ev.wsize; omega
    · exact R.rel.lt b e h
  inj := fun b b' e e' hb hb' hq hne => inj_step St C I hi hiD R hb hb' hq hne
  wd := by
    intro k hk p hp
    rcases hk with hk | rfl
    · obtain ⟨e, he⟩ := I.wd k hk p hp; exact ⟨e, (Emb.or_le R.zle).m _ _ he⟩
    · obtain ⟨e, he⟩ := R.ev.wd p hp; exact ⟨e, (Emb.or_le R.zle).m _ _ (restr_some.1 he).2⟩
  wl := by
    intro k hk p hp hlt
    rcases hk with hk | rfl
    · exact I.wl k hk p hp hlt
    · exact C.back hlt (Nat.zero_le _) (Nat.le_of_lt hi) (R.sp _ _ (R.ev.wl p hp))
  blk := fun j hj hjD b e hb hbj => blk_step St C I hi hiD hrd R hj hjD hb hbj
  tmp := fun j hj hjD t hl hw hlv => tmp_step St C I hi hiD hrd R ho hj hjD hl hw hlv
  tsz := by rw [put_size]; exact I.tsz
  dfr := by rw [put_defers]; exact I.dfr
  ext := Emb.le_trans I.ext (Emb.or_le R.zle)
  old := by
    intro b e hb hlt
    rcases or_cases C I hi hiD R hb with h | ⟨_, _, h1, _⟩
    · exact I.old b e h hlt
    · have := C.sizes (Nat.zero_le i) (Nat.le_of_lt hi); omega
  wsize := Nat.le_trans I.wsize R.ev.wsize
  new := by
    intro b e hb hge
    rcases or_cases C I hi hiD R hb with h | ⟨_, h, h1, h2⟩
    · exact (I.new b e h hge).imp id fun ⟨k, hk, q⟩ => ⟨k, .inl hk, q⟩
    · rcases R.ev.new b e h h1 with q | ⟨b0, e0, q1, q2, _⟩ | ⟨p, hp, e0, q1, q2, q3⟩
      · exact .inl (Nat.le_trans I.wsize q)
      · have := (restr_some.1 q2).1; omega
      · obtain ⟨hpl, hpe⟩ := restr_some.1 q1
        rcases Nat.lt_or_ge p.1 (Ss 0).size with hp0 | hp0
        · exact .inr ⟨i, .inr rfl, p, hp, hp0, e0, I.old _ _ hpe hp0, q2, gone_next R hpl q3⟩
        · rcases I.new p.1 e0 hpe hp0 with z | ⟨k, hk, p', z1, z2, e', z3, z4, z5⟩
          · exact .inl (by omega)
          · exact .inr ⟨k, .inl hk, p', z1, z2, e', z3, z4.trans q2, z5⟩
  frame := by
    intro r o hr
    rcases R.ev.frame r o (Nat.lt_of_lt_of_le hr I.wsize) with q | ⟨p, hp, e, q1, q2, q3⟩ | ⟨b0, e0, q1, q2, _⟩
    · rcases I.frame r o hr with z | ⟨k, hk, z⟩
      · exact .inl (z.trans q)
      · exact .inr ⟨k, .inl hk, z⟩
    · obtain ⟨hpl, hpe⟩ := restr_some.1 q1
      rcases Nat.lt_or_ge p.1 (Ss 0).size with hp0 | hp0
      · exact .inr ⟨i, .inr rfl, p, hp, hp0, e, I.old _ _ hpe hp0, q2, q3.imp id fun q3 => gone_next R hpl q3⟩
      · rcases I.new p.1 e hpe hp0 with z | ⟨k, hk, p', z1, z2, e', z3, z4, z5⟩
        · omega
        · exact .inr ⟨k, .inl hk, p', z1, z2, e', z3, z4.trans q2, .inr z5⟩
    · have := (restr_some.1 q2).1; omega
  frameI := by
    intro r hr
    rcases R.ev.frameI r (Nat.lt_of_lt_of_le hr I.wsize) with q | ⟨p, hp, e, q1, q2⟩ | ⟨b0, e0, q1, q2, _⟩
    · rcases I.frameI r hr with z | ⟨k, hk, z⟩
      · exact .inl (q.trans z)
      · exact .inr ⟨k, .inl hk, z⟩
    · obtain ⟨hpl, hpe⟩ := restr_some.1 q1
      rcases Nat.lt_or_ge p.1 (Ss 0).size with hp0 | hp0
      · exact .inr ⟨i, .inr rfl, p, hp, hp0, e, I.old _ _ hpe hp0, q2⟩
      · rcases I.new p.1 e hpe hp0 with z | ⟨k, hk, p', z1, z2, e', z3, z4, z5⟩
        · omega
        · exact .inr ⟨k, .inl hk, p', z1, z2, e', z3, z4.trans q2⟩
    · have := (restr_some.1 q2).1; omega
  keep := fun r o h1 h2 => R.ev.keep r o (I.keep r o h1 h2).1 (I.keep r o h1 h2).2
  fz := by
    refine ⟨R.rel.fz.ok, R.rel.fz.zc, fun b e hb hB t o => ?_⟩
    rcases or_cases C I hi hiD R hb with h | ⟨_, h, _, _⟩
    · cases hq : (ρ.or ρ').z t e.blk o with
      | none => rfl
      | some v =>
        have h1 : ρ.z t e.blk o = some v := R.ev.zold t e.blk o v hq (I.lt b e h)
        rw [I.fz.zd b e h hB t o] at h1
        cases h1
    · exact R.rel.fz.zd b e h hB t o
  zold := fun t r o v h hr => I.zold t r o v (R.ev.zold t r o v h (Nat.lt_of_lt_of_le hr I.wsize)) hr

end
end Go.XM

namespace Go.XM
set_option linter.unusedVariables false
set_option linter.unusedSimpArgs false
open Go.RowKit
set_option linter.unusedVariables false

section
variable {P : Program} {B : Nat} {w0 : World} {n : Nat} {ops : Array Oper} {Ts : Nat → Tmps} {Ss : Nat → XS} {vs : Nat → XV} {Ws : Nat → List (Nat × Nat)} {ρs : Emb} {ws : World} {D : Nat → Prop} {ρ : Emb} {a : Act} {w : World}
variable {i : Nat} {call : XCallFn} {Wd : List (List (Nat × Nat))}

theorem pois_gone {ps : List (Nat × Nat)} {b : Nat} {x y : XBlk} (h : PoisR ps b x y) (hg : x.isGone = true) : y.isGone = true := by
  revert h hg; cases x <;> cases y <;> simp [PoisR, XBlk.isGone]
theorem pois_ro {ps : List (Nat × Nat)} {b : Nat} {x y : XBlk} (h : PoisR ps b x y) (hg : x.isRo = true) : y.isRo = true := by
  cases x with
  | cells cs k =>
    cases y with
    | cells cp kp => obtain ⟨rfl, _⟩ := h; revert hg; cases kp <;> simp [XBlk.isRo]
    | iter _ _ => exact h.elim
    | gone => exact h.elim
  | iter _ _ => cases hg
  | gone => cases hg

/-- where an operation finds itself -/
theorem rel_sp (C : Can ops.toList Ts Ss vs Ws) (I : Inv B w0 n ops Ts Ss Ws ρs ws D ρ a w) (hi : i < ops.toList.length) (hiD : ¬ D i) {ps : List (Nat × Nat)} (hps : ∀ b o, Dead ops.toList Ws D i b o → (b, o) ∈ ps) :
    Rel B w0 (restr ρ (Ss i).size) { (Ss i).poison ps with log := [] } w where
  below := I.below
  Bw := I.Bw
  dom := fun b e h => by
    show b < ((Ss i).poison ps).size
    rw [size_poison]; exact (restr_some.1 h).1
  blk := fun b e h => by
    obtain ⟨hb, he⟩ := restr_some.1 h
    have hold := I.blk i (Nat.le_of_lt hi) hiD b e he hb
    have hp := poison_get ps (Ss i) b
    show BlkR _ B w e (((Ss i).poison ps).get b)
    revert hold hp
    cases (Ss i).get b with
    | cells cs k =>
      cases ((Ss i).poison ps).get b with
      | cells cp kp =>
        rintro ⟨h1, h2⟩ ⟨rfl, l1, a1, a2, _⟩
        have hfl : FlatD (Dead ops.toList Ws D i b) cs → Flat cp := fun hf v hv hl => by
          obtain ⟨o, ho⟩ := List.mem_iff_getElem?.1 hv
          by_cases hm : (b, o) ∈ ps
          · rw [a2 o v hm ho] at hl; cases hl
          · rw [a1 o hm] at ho
            exact hf o v ho hl fun hd => hm (hps b o hd)
        refine ⟨?_, fun o v ho hv => ?_⟩
        · cases kp with
          | ro => exact h1
          | own => exact h1
          | arr esz => exact ⟨h1.1, h1.2.1, hfl h1.2.2.1, fun m hm => h1.2.2.2 m (by omega)⟩
          | loose esz n =>
            obtain ⟨a1', a2', al, af, rsz, a3', am, a4'⟩ := h1
            exact ⟨a1', a2', by omega, hfl af, rsz, a3', am, a4'⟩
        · by_cases hm : (b, o) ∈ ps
          · rw [a2 o v hm ho] at hv; cases hv
          · rw [a1 o hm] at ho
            exact h2 o v ho hv fun hd => hm (hps b o hd)
      | iter _ _ => intro _ h; exact h.elim
      | gone => intro _ h; exact h.elim
    | iter s pos =>
      cases ((Ss i).poison ps).get b with
      | cells cp kp =>
        rintro ⟨h1, h2⟩ ⟨rfl, rfl, _⟩
        exact ⟨⟨h1.1, h1.2.2⟩, fun o v ho => by simp at ho⟩
      | iter s' n' =>
        rintro ⟨h1, h2⟩ ⟨rfl, rfl, hno⟩
        exact ⟨h1, h2 fun hd => hno 0 (hps b 0 hd)⟩
      | gone => intro _ h; exact h.elim
    | gone =>
      cases ((Ss i).poison ps).get b with
      | cells cp kp => intro _ h; exact h.elim
      | iter s' n' => intro _ h; exact h.elim
      | gone => intro _ _; trivial
  inj := fun b b' e e' h h' hq hne => by
    obtain ⟨hb, he⟩ := restr_some.1 h
    obtain ⟨hb', he'⟩ := restr_some.1 h'
    have hp := poison_get ps (Ss i) b
    have hp' := poison_get ps (Ss i) b'
    have kd : ∀ c c', c < (Ss i).size → c' < (Ss i).size → Kd ops.toList Ss D c c' → (((Ss i).poison ps).get c).isGone = true := by
      intro c c' hc hc' hk
      refine pois_gone (poison_get ps (Ss i) c) ?_
      rcases hk with ⟨h0, hg⟩ | ⟨k, hk, hkl, hbk, hg, _, hs⟩
      · exact C.gone h0 (Nat.zero_le _) (Nat.le_of_lt hi) hg
      · refine C.gone hbk ?_ (Nat.le_of_lt hi) hg
        rcases Nat.lt_or_ge k i with q | q
        · exact q
        · have := C.sizes (i := i) (j := k) q (by omega); omega
    rcases I.inj b b' e e' he he' hq hne with ⟨r1, r2⟩ | q | q
    · rcases C.ro r1 (Nat.le_of_lt hi) hb with z | z
      · rcases C.ro r2 (Nat.le_of_lt hi) hb' with z' | z'
        · exact .inl ⟨pois_ro hp z, pois_ro hp' z'⟩
        · exact .inr (.inr (pois_gone hp' z'))
      · exact .inr (.inl (pois_gone hp z))
    · exact .inr (.inl (kd b b' hb hb' q))
    · exact .inr (.inr (kd b' b hb' hb q))
  lt := fun b e h => I.lt b e (restr_some.1 h).2
  fz := ⟨I.fz.ok, I.fz.zc, fun b e h => I.fz.zd b e (restr_some.1 h).2⟩

theorem dead_open (St : Static n ops) (I : Inv B w0 n ops Ts Ss Ws ρs ws D ρ a w) (hrd : ∀ o, ops.toList[i]? = some o → ∀ d, d ∈ directs o → D d) (hsub : ∀ k, k < ops.toList.length → ∀ p, p ∈ Ws k → p ∈ Wd.getD k []) :
    ∀ b o, Dead ops.toList Ws D i b o → (b, o) ∈ openW (predsOf ops.toList) Wd i := by
  rintro b o ⟨k, hk, hki, hm, q⟩
  have hord : ordered (predsOf ops.toList) i k = false := by
    rcases q with q | q
    · exact q.2
    · cases hz : ordered (predsOf ops.toList) i k with
      | false => rfl
      | true =>
        exfalso
        rcases (ordered_iff _ _ _).1 hz with z | z
        · exact q.2 (pr_closed St.dir (fun m hm => (I.cl m hm).2) i hrd k z)
        · have := pr_lt St.dir _ _ z; omega
  have hw := hsub k hk _ hm
  have hkl : k < Wd.length := by
    rcases Nat.lt_or_ge k Wd.length with z | z
    · exact z
    · rw [List.getD_eq_getElem?_getD, List.getElem?_eq_none z] at hw; cases hw
  unfold openW
  rw [List.mem_flatMap]
  refine ⟨k, List.mem_filter.2 ⟨List.mem_range.2 hkl, ?_⟩, hw⟩
  simp [hki, hord]

theorem wanted_eq1 {ρ : Emb} {T : Tmps} {a : Act} (ops : Array Oper) (o : Oper) (h : ∀ t, t ∈ o.looksAt ops → (tget T t).live = true → VR ρ (tget T t) (a.tmps.getD t undef)) {b : Bool} (hw : wantedX ops.toList T o = some b) : Region.wanted o (yielded ops a.tmps) = b := by
  refine wanted_of ops o (fun j want d hg hd hl => h d ?_ hl) hw
  unfold Oper.looksAt
  refine List.mem_append_right _ ?_
  rw [hg]
  simp [hd]

/-- one operation of a region of open order, in the real world -/
theorem one_any (hc : CallOK P B w0 call) (St : Static n ops) (C : Can ops.toList Ts Ss vs Ws) (hsub : ∀ k, k < ops.toList.length → ∀ p, p ∈ Ws k → p ∈ Wd.getD k [])
    (I : Inv B w0 n ops Ts Ss Ws ρs ws D ρ a w) (hi : i < ops.toList.length) (hiD : ¬ D i) (hrd : ∀ o, ops.toList[i]? = some o → ∀ d, d ∈ directs o → D d) {o : Oper} (ho : ops.toList[i]? = some o)
    (hst : StepC P call ops.toList (predsOf ops.toList) Wd i o (Ts i) (Ss i) (Ts (i + 1)) (Ss (i + 1)) (vs i) (Ws i)) {K : Act → World → Prop} {Q : Exit → Act → World → Prop}
    (hK : ∀ ρ' a' w', Inv B w0 n ops Ts Ss Ws ρs ws (addD D i) ρ' a' w' → K a' w') : wpOp P ops Q i K a w := by
  have hps := dead_open St I hrd hsub
  have hrel := rel_sp C I hi hiD hps
  have hlook : ∀ t, t ∈ o.looksAt ops → (tget (Ts i) t).live = true → VR (restr ρ (Ss i).size) (tget (Ts i) t) (a.tmps.getD t undef) := fun t ht hlv => by
    refine I.tmp i (Nat.le_of_lt hi) hiD t (.inr ⟨o, ho, ht⟩) (fun k hk ⟨o', ho', hd⟩ => ?_) hlv
    rcases (ordered_iff _ _ _).1 (St.tmp i k o o' t ho ho' (by omega) hd (.inl ht)) with z | z
    · exact pr_closed St.dir (fun m hm => (I.cl m hm).2) i hrd k z
    · have := pr_lt St.dir _ _ z; omega
  have hsz : ({ (Ss i).poison (openW (predsOf ops.toList) Wd i) with log := [] } : XS).size = (Ss i).size := size_poison _ _
  have hspk : ∀ b q, WOk (({ (Ss i).poison (openW (predsOf ops.toList) Wd i) with log := [] } : XS).get b) q → WOk ((Ss i).get b) q := fun b q h => h.pois (poison_get _ (Ss i) b)
  have hgo : ops[i]? = some o := by rw [← ho, Array.getElem?_toList]
  have hnone : ∀ b, (Ss i).size ≤ b → (Ss i).get b = .gone := fun b hb => by
    cases hx : (Ss i).get b with
    | gone => rfl
    | cells _ _ => have := XS.get_lt (S := Ss i) (b := b) (by rw [hx]; rfl); omega
    | iter _ _ => have := XS.get_lt (S := Ss i) (b := b) (by rw [hx]; rfl); omega
  unfold wpOp
  rw [hgo]
  simp only []
  rcases hst.2 with ⟨hw, S', hs, hWs, hW, hS1⟩ | ⟨hw, hv, hWs, hS1⟩
  · rw [if_pos (wanted_eq1 ops o hlook hw)]
    refine .inl ?_
    refine xstep_wp2 hc hrel (by rw [hsz]; exact Nat.le_refl _) (St.sel i o ho) (fun t ht => hlook t ?_) hs fun u w' ρ' W q1 q2 q3 q4 => ?_
    · unfold Oper.looksAt; exact List.mem_append_left _ ht
    · have hWe : Ws i = W := by rw [hWs, q4]; simp
      refine hK _ _ _ (inv_step St C I hi hiD hrd (Sp := { (Ss i).poison (openW (predsOf ops.toList) Wd i) with log := [] }) (S' := S') (ρ' := ρ') (u := u) ⟨q2, by rw [hWe]; exact q3, q1, hsz, ?_, hspk, fun b hb => ?_, fun b hb => ?_⟩ ho)
      · rw [hS1]; exact (size_restore _ _ _).symm
      · have hr := restore_get (Ss i) (openW (predsOf ops.toList) Wd i) S' b
        rw [hnone b hb] at hr
        rw [hS1]
        exact hr.symm
      · rw [hS1]
        rw [hWe]
        exact agree_of (poison_get _ (Ss i) b) (q3.canon b hb) (restore_get (Ss i) _ S' b) (fun q hq => (hW _ (by rw [hWe]; exact hq)).2) (fun q hq => q3.wl _ hq)
  · rw [if_neg (by rw [wanted_eq1 ops o hlook hw]; simp)]
    have hnv : VR (restr ρ (Ss i).size) (vs i) undef := by rw [hv]; exact VR.tuple [] [] .nil
    refine hK _ _ _ (inv_step St C I hi hiD hrd (Sp := { (Ss i).poison (openW (predsOf ops.toList) Wd i) with log := [] }) (S' := { (Ss i).poison (openW (predsOf ops.toList) Wd i) with log := [] }) (ρ' := restr ρ (Ss i).size) (u := undef)
      ⟨hrel, by rw [hWs]; exact Ev.refl, hnv, hsz, by rw [hS1]; exact hsz, hspk, fun b hb => ?_, fun b hb => ?_⟩ ho)
    · have hp := poison_get (openW (predsOf ops.toList) Wd i) (Ss i) b
      rw [hS1, hnone b hb]
      rw [hnone b hb] at hp
      show ((Ss i).poison _).get b = .gone
      revert hp
      cases ((Ss i).poison (openW (predsOf ops.toList) Wd i)).get b <;> simp [PoisR]
    · rw [hS1, hWs]
      have hp := poison_get (openW (predsOf ops.toList) Wd i) (Ss i) b
      show Agree [] b (((Ss i).poison _).get b) _
      revert hp
      cases (Ss i).get b with
      | cells cs k =>
        cases ((Ss i).poison (openW (predsOf ops.toList) Wd i)).get b with
        | cells cp kp => rintro ⟨rfl, l, _⟩; exact ⟨rfl, l, fun o ho => by cases ho⟩
        | iter _ _ => intro h; exact h.elim
        | gone => intro h; exact h.elim
      | iter s p =>
        cases ((Ss i).poison (openW (predsOf ops.toList) Wd i)).get b with
        | cells cp kp => intro _; exact fun h => by cases h
        | iter s' p' => rintro ⟨rfl, rfl, _⟩; exact ⟨rfl, fun _ => rfl⟩
        | gone => intro h; exact h.elim
      | gone =>
        cases ((Ss i).poison (openW (predsOf ops.toList) Wd i)).get b with
        | cells cp kp => intro h; exact h.elim
        | iter s' p' => intro h; exact h.elim
        | gone => intro _; trivial

end
end Go.XM

namespace Go.XM
set_option linter.unusedVariables false
set_option linter.unusedSimpArgs false
open Go.RowKit
set_option linter.unusedVariables false

theorem filter_lt {p q : Nat → Bool} : ∀ (l : List Nat), (∀ x, x ∈ l → q x = true → p x = true) → (∃ x, x ∈ l ∧ p x = true ∧ q x = false) → (l.filter q).length < (l.filter p).length
  | [], _, ⟨x, hx, _⟩ => by cases hx
  | y :: l, h, ⟨x, hx, h1, h2⟩ => by
    have hle : (l.filter q).length ≤ (l.filter p).length := by
      clear h1 h2 hx
      have h' : ∀ x, x ∈ l → q x = true → p x = true := fun x hx => h x (by simp [hx])
      clear h
      induction l with
      | nil => simp
      | cons z l ih =>
        have ih' := ih fun x hx => h' x (by simp [hx])
        have hz := h' z (by simp)
        simp only [List.filter_cons]
        by_cases q1 : q z = true
        · rw [if_pos q1, if_pos (hz q1)]; simpa using ih'
        · rw [if_neg q1]
          split
          · simp; omega
          · exact ih'
    simp only [List.filter_cons]
    rcases List.mem_cons.1 hx with rfl | hx
    · rw [if_pos h1, if_neg (by simp [h2])]
      simp; omega
    · have := filter_lt l (fun x hx => h x (by simp [hx])) ⟨x, hx, h1, h2⟩
      have hy := h y (by simp)
      by_cases q1 : q y = true
      · rw [if_pos q1, if_pos (hy q1)]; simpa using this
      · rw [if_neg q1]
        split
        · simp; omega
        · exact this

section
variable {P : Program} {B : Nat} {w0 : World} {n : Nat} {ops : Array Oper} {Ts : Nat → Tmps} {Ss : Nat → XS} {vs : Nat → XV} {Ws : Nat → List (Nat × Nat)} {ρs : Emb} {ws : World} {D : Nat → Prop} {ρ : Emb} {a : Act} {w : World}
variable {call : XCallFn} {Wd : List (List (Nat × Nat))}

def undone (N : Nat) (listed : Array Bool) : Nat := ((List.range N).filter fun k => !listed.getD k false).length

def isDone (listed : Array Bool) : Nat → Prop := fun k => listed.getD k false = true

theorem isDone_set {listed : Array Bool} {i : Nat} (hi : i < listed.size) : isDone (listed.setIfInBounds i true) = addD (isDone listed) i := by
  funext k
  apply propext
  unfold isDone addD
  by_cases h : i = k
  · subst h; simp [hi]
  · rw [getD_set_ne false h]
    exact ⟨.inl, fun q => q.resolve_right fun h' => h h'.symm⟩

theorem ready_all (St : Static n ops) {listed : Array Bool} (hl : listed.size = ops.toList.length) (h : Region.ready .any ops listed = []) : ∀ k, k < ops.toList.length → isDone listed k := by
  intro k
  induction k using Nat.strongRecOn with
  | ind k ih =>
    intro hk
    cases hq : listed.getD k false with
    | true => exact hq
    | false =>
      exfalso
      have hm : k ∈ Region.ready .any ops listed := by
        rw [mem_ready]
        have ho : ops.toList[k]? = some (ops.toList[k]) := List.getElem?_eq_getElem hk
        refine ⟨?_, ops.toList[k], by rw [← Array.getElem?_toList]; exact ho, fun e he hb => ?_⟩
        · rw [Array.getD_eq_getD_getElem?] at hq ⊢
          have : k < listed.size := by omega
          simp only [Array.getElem?_eq_getElem this, Option.getD_some] at hq ⊢
          exact hq
        · have hd : e.on ∈ directs ops.toList[k] := by
            unfold directs
            exact List.mem_map.2 ⟨e, List.mem_filter.2 ⟨by simpa using he, hb⟩, rfl⟩
          have := St.dir k _ ho _ hd
          exact ih e.on this (by omega)
      rw [h] at hm
      cases hm

theorem any_ok (hc : CallOK P B w0 call) (St : Static n ops) (C : Can ops.toList Ts Ss vs Ws) (hsub : ∀ k, k < ops.toList.length → ∀ p, p ∈ Ws k → p ∈ Wd.getD k [])
    (hst : ∀ i o, ops.toList[i]? = some o → StepC P call ops.toList (predsOf ops.toList) Wd i o (Ts i) (Ss i) (Ts (i + 1)) (Ss (i + 1)) (vs i) (Ws i)) {Q : Exit → Act → World → Prop}
    (hQ : ∀ D ρ' a' w', (∀ k, k < ops.toList.length → D k) → Inv B w0 n ops Ts Ss Ws ρs ws D ρ' a' w' → Q .normal a' w') :
    ∀ (fuel : Nat) (listed : Array Bool) (ρ : Emb) (a : Act) (w : World), listed.size = ops.toList.length → undone ops.toList.length listed ≤ fuel → Inv B w0 n ops Ts Ss Ws ρs ws (isDone listed) ρ a w → wpAny P .any ops Q fuel listed a w
  | 0, listed, ρ, a, w, hl, hu, I => by
    have hall : ∀ k, k < ops.toList.length → isDone listed k := by
      intro k hk
      cases hq : listed.getD k false with
      | true => exact hq
      | false =>
        exfalso
        have hm : k ∈ (List.range ops.toList.length).filter fun k => !listed.getD k false := List.mem_filter.2 ⟨List.mem_range.2 hk, by rw [hq]; rfl⟩
        have := List.length_pos_of_mem hm
        unfold undone at hu
        omega
    refine ⟨?_, hQ _ _ _ _ hall I⟩
    rw [List.eq_nil_iff_forall_not_mem]
    intro k hk
    rw [mem_ready] at hk
    obtain ⟨h1, o, ho, _⟩ := hk
    have hlt : k < ops.toList.length := by
      rcases Nat.lt_or_ge k ops.toList.length with q | q
      · exact q
      · rw [← Array.getElem?_toList, List.getElem?_eq_none q] at ho; cases ho
    have h2 := hall k hlt
    unfold isDone at h2
    rw [Array.getD_eq_getD_getElem?] at h1 h2
    have : k < listed.size := by omega
    simp only [Array.getElem?_eq_getElem this, Option.getD_some] at h1 h2
    rw [h1] at h2
    cases h2
  | fuel + 1, listed, ρ, a, w, hl, hu, I => by
    refine ⟨fun hr => hQ _ _ _ _ (ready_all St hl hr) I, fun i hi => ?_⟩
    rw [mem_ready] at hi
    obtain ⟨h1, o, ho, hafter⟩ := hi
    rw [← Array.getElem?_toList] at ho
    have hlt : i < ops.toList.length := by
      rcases Nat.lt_or_ge i ops.toList.length with q | q
      · exact q
      · rw [List.getElem?_eq_none q] at ho; cases ho
    have hiD : ¬ isDone listed i := by
      unfold isDone
      rw [Array.getD_eq_getD_getElem?] at h1 ⊢
      have : i < listed.size := by omega
      simp only [Array.getElem?_eq_getElem this, Option.getD_some] at h1 ⊢
      rw [h1]; simp
    have hrd : ∀ o, ops.toList[i]? = some o → ∀ d, d ∈ directs o → isDone listed d := by
      intro o' ho' d hd
      rw [ho] at ho'
      injection ho' with ho'
      subst ho'
      unfold directs at hd
      obtain ⟨e, he, rfl⟩ := List.mem_map.1 hd
      obtain ⟨he1, he2⟩ := List.mem_filter.1 he
      exact hafter e (by simpa using he1) he2
    refine one_any hc St C hsub I hlt hiD hrd ho (hst i o ho) fun ρ' a' w' I' => ?_
    rw [← isDone_set (by omega)] at I'
    refine any_ok hc St C hsub hst hQ fuel _ ρ' a' w' (by simpa using hl) ?_ I'
    have : undone ops.toList.length (listed.setIfInBounds i true) < undone ops.toList.length listed := by
      unfold undone
      refine filter_lt _ (fun x _ hx => ?_) ⟨i, List.mem_range.2 hlt, ?_, ?_⟩
      · cases hq : listed.getD x false with
        | false => rfl
        | true => rw [getD_set_true hq] at hx; cases hx
      · cases hq : listed.getD i false with
        | false => rfl
        | true => exact absurd hq hiD
      · have : i < listed.size := by omega
        simp [this]
    omega

theorem inv_start (C : Can ops.toList Ts Ss vs Ws) (h : Rel B w0 ρ (Ss 0) w) (hT : TR ρ (Ts 0) a.tmps) (hn : a.tmps.size = n) (hdf : a.defers = []) :
    Inv B w0 n ops Ts Ss Ws ρ w (fun _ => False) ρ a w where
  cl := fun k hk => hk.elim
  below := h.below
  Bw := h.Bw
  dom := fun b e he => .inl (h.dom b e he)
  lt := h.lt
  inj := fun b b' e e' he he' hq hne => by
    rcases h.inj b b' e e' he he' hq hne with q | q | q
    · exact .inl ⟨⟨0, Nat.zero_le _, h.dom b e he, q.1⟩, ⟨0, Nat.zero_le _, h.dom b' e' he', q.2⟩⟩
    · exact .inr (.inl (.inl ⟨h.dom b e he, q⟩))
    · exact .inr (.inr (.inl ⟨h.dom b' e' he', q⟩))
  wd := fun k hk => hk.elim
  wl := fun k hk => hk.elim
  blk := fun j hj hjD b e he hbj => by
    have hb0 := h.dom b e he
    have hle : ρ.le (restr ρ (Ss j).size) := ⟨fun c x hx => restr_some.2 ⟨by have := h.dom c x hx; have := C.sizes (Nat.zero_le j) hj; omega, hx⟩, ZMap.le_refl _⟩
    obtain ⟨W, hW, hf⟩ := C.chain hb0 (Nat.zero_le j) hj
    have hq : ∀ o, ¬ Dead ops.toList Ws (fun _ => False) j b o → (b, o) ∉ W := fun o hn hm => by
      obtain ⟨k, _, k2, k3⟩ := hW _ hm
      exact hn ⟨k, by omega, by omega, k3, .inr ⟨k2, fun h => h⟩⟩
    have hbl := h.blk b e he
    revert hbl hf
    cases (Ss 0).get b with
    | cells cs k =>
      cases (Ss j).get b with
      | cells c1 k1 =>
        rintro ⟨rfl, l, f1, _⟩ ⟨h1, h2⟩
        have hfl : Flat cs → FlatD (Dead ops.toList Ws (fun _ => False) j b) c1 := fun hf o v ho hv hnd => by
          rw [f1 o (hq o hnd)] at ho
          exact hf v (List.mem_of_getElem? ho) hv
        refine ⟨?_, fun o v ho hv hnd => ?_⟩
        · cases k1 with
          | ro => exact h1
          | own => exact h1
          | arr esz => exact ⟨h1.1, h1.2.1, hfl h1.2.2.1, fun m hm => h1.2.2.2 m (by omega)⟩
          | loose esz n =>
            obtain ⟨a1, a2, al, af, rsz, a3, am, a4⟩ := h1
            exact ⟨a1, a2, by omega, hfl af, rsz, a3, am, a4⟩
        · rw [f1 o (hq o hnd)] at ho
          obtain ⟨u, q1, q2, q3⟩ := h2 o v ho hv
          exact ⟨u, q1, q2.mono hle, q3⟩
      | iter _ _ => intro h; exact h.elim
      | gone => intro _ _; trivial
    | iter s p =>
      cases (Ss j).get b with
      | cells c1 k1 => intro h; exact h.elim
      | iter s' p' =>
        rintro ⟨rfl, f1⟩ ⟨h1, h2⟩
        exact ⟨h1, fun hnd => by rw [f1 (hq 0 hnd)]; exact h2⟩
      | gone => intro h; exact h.elim
    | gone =>
      cases (Ss j).get b with
      | cells c1 k1 => intro h; exact h.elim
      | iter s' p' => intro h; exact h.elim
      | gone => intro _ _; trivial
  tmp := fun j hj hjD t hl hw hlv => by
    have hle : ρ.le (restr ρ (Ss j).size) := ⟨fun c x hx => restr_some.2 ⟨by have := h.dom c x hx; have := C.sizes (Nat.zero_le j) hj; omega, hx⟩, ZMap.le_refl _⟩
    have hst := C.tstay (Nat.zero_le j) hj fun k _ h2 h3 => hw k h2 h3
    rw [hst] at hlv ⊢
    exact (hT t hlv).mono hle
  tsz := hn
  dfr := hdf
  ext := Emb.le_refl _
  old := fun b e he _ => he
  wsize := Nat.le_refl _
  new := fun b e he hge => by have := h.dom b e he; omega
  frame := fun r o _ => .inl (SameAt.refl _ _ _)
  frameI := fun r _ => .inl rfl
  keep := fun r o h1 h2 => ⟨h1, h2⟩
  fz := h.fz
  zold := fun _ _ _ _ q _ => q

theorem inv_end (C : Can ops.toList Ts Ss vs Ws) (I : Inv B w0 n ops Ts Ss Ws ρs ws D ρ a w) (hD : ∀ k, k < ops.toList.length → D k) {W : List (Nat × Nat)}
    (hW : ∀ p, p ∈ W ↔ p.1 < (Ss 0).size ∧ ∃ k, k < ops.toList.length ∧ p ∈ Ws k) :
    Rel B w0 ρ (Ss ops.toList.length) w ∧ Ev (Ss 0).size ρs (Ss 0) ws ρ (Ss ops.toList.length) w W ∧ TR ρ (Ts ops.toList.length) a.tmps := by
  have hN : ¬ D ops.toList.length := fun h => by have := (I.cl _ h).1; omega
  have hdead : ∀ b o, ¬ Dead ops.toList Ws D ops.toList.length b o := by
    rintro b o ⟨k, hk, _, _, q⟩
    rcases q with q | q
    · exact absurd q.1 (Nat.lt_irrefl _)
    · exact q.2 (hD k hk)
  have hdom : ∀ b e, ρ b = some e → b < (Ss ops.toList.length).size := fun b e he => by
    rcases I.dom b e he with q | ⟨k, hk, _, q⟩
    · have := C.sizes (Nat.zero_le _) (Nat.le_refl ops.toList.length); omega
    · have := C.sizes (i := k + 1) (j := ops.toList.length) (I.cl k hk).1 (Nat.le_refl _); omega
  have hgk : ∀ k, k < ops.toList.length → ∀ b, b < (Ss (k + 1)).size → ((Ss (k + 1)).get b).isGone = true → ((Ss ops.toList.length).get b).isGone = true := fun k hk b hb hg => C.gone hb hk (Nat.le_refl _) hg
  have h0k : ∀ k, k < ops.toList.length → (Ss 0).size ≤ (Ss (k + 1)).size := fun k hk => C.sizes (Nat.zero_le _) hk
  refine ⟨⟨I.below, I.Bw, hdom, fun b e he => ?_, fun b b' e e' he he' hq hne => ?_, I.lt, I.fz⟩, ⟨I.ext, I.old, C.sizes (Nat.zero_le _) (Nat.le_refl _), I.wsize, fun b hb => ?_, fun b hg hb => C.gone hb (Nat.zero_le _) (Nat.le_refl _) hg, fun p hp => ((hW p).1 hp).1,
    fun b e he hge => ?_, fun r o hr => ?_, fun r hr => ?_, I.keep, fun p hp => ?_, fun p hp => ?_, I.zold⟩, fun t => ?_⟩
  · have hbl := I.blk _ (Nat.le_refl _) hN b e he (hdom b e he)
    revert hbl
    cases (Ss ops.toList.length).get b with
    | cells cs k =>
      rintro ⟨h1, h2⟩
      have hfl : FlatD (Dead ops.toList Ws D ops.toList.length b) cs → Flat cs := fun hf v hv hl => by
        obtain ⟨o, ho⟩ := List.mem_iff_getElem?.1 hv
        exact hf o v ho hl (hdead b o)
      refine ⟨?_, fun o v ho hv => ?_⟩
      · cases k with
        | ro => exact h1
        | own => exact h1
        | arr esz => exact ⟨h1.1, h1.2.1, hfl h1.2.2.1, h1.2.2.2⟩
        | loose esz n =>
          obtain ⟨a1, a2, al, af, rsz, a3, am, a4⟩ := h1
          exact ⟨a1, a2, al, hfl af, rsz, a3, am, a4⟩
      obtain ⟨u, q1, q2, q3⟩ := h2 o v ho hv (hdead b o)
      exact ⟨u, q1, q2.mono (restr_le _ _), q3⟩
    | iter s p => rintro ⟨h1, h2⟩; exact ⟨h1, h2 (hdead b 0)⟩
    | gone => intro _; trivial
  · have kd : ∀ c c', Kd ops.toList Ss D c c' → ((Ss ops.toList.length).get c).isGone = true := by
      rintro c c' (⟨h0, hg⟩ | ⟨k, hk, hkl, hbk, hg, _, _⟩)
      · exact C.gone h0 (Nat.zero_le _) (Nat.le_refl _) hg
      · exact hgk k hkl c hbk hg
    rcases I.inj b b' e e' he he' hq hne with ⟨r1, r2⟩ | q | q
    · rcases C.ro r1 (Nat.le_refl _) (hdom b e he) with z | z
      · rcases C.ro r2 (Nat.le_refl _) (hdom b' e' he') with z' | z'
        · exact .inl ⟨z, z'⟩
        · exact .inr (.inr z')
      · exact .inr (.inl z)
    · exact .inr (.inl (kd _ _ q))
    · exact .inr (.inr (kd _ _ q))
  · obtain ⟨W', hW', hf⟩ := C.chain hb (Nat.zero_le _) (Nat.le_refl ops.toList.length)
    refine hf.filter fun o ho => ?_
    obtain ⟨k, _, k2, k3⟩ := hW' _ ho
    exact (hW _).2 ⟨hb, k, k2, k3⟩
  · rcases I.new b e he hge with q | ⟨k, hk, p, hp, hp0, e0, q1, q2, q3⟩
    · exact .inl q
    · have hkl := (I.cl k hk).1
      exact .inr (.inr ⟨p, (hW p).2 ⟨hp0, k, hkl, hp⟩, e0, q1, q2, hgk k hkl p.1 (by have := h0k k hkl; omega) q3⟩)
  · rcases I.frame r o hr with q | ⟨k, hk, p, hp, hp0, e0, q1, q2, q3⟩
    · exact .inl q
    · have hkl := (I.cl k hk).1
      exact .inr (.inl ⟨p, (hW p).2 ⟨hp0, k, hkl, hp⟩, e0, q1, q2, q3.imp id fun q3 => hgk k hkl p.1 (by have := h0k k hkl; omega) q3⟩)
  · rcases I.frameI r hr with q | ⟨k, hk, p, hp, hp0, e0, q1, q2⟩
    · exact .inl q
    · exact .inr (.inl ⟨p, (hW p).2 ⟨hp0, k, (I.cl k hk).1, hp⟩, e0, q1, q2⟩)
  · obtain ⟨hp0, k, hk, hpk⟩ := (hW p).1 hp
    obtain ⟨e, he⟩ := I.wd k (hD k hk) p hpk
    exact ⟨e, I.old _ _ he hp0⟩
  · obtain ⟨hp0, k, hk, hpk⟩ := (hW p).1 hp
    exact I.wl k (hD k hk) p hpk hp0
  · exact fun hlv => (I.tmp _ (Nat.le_refl _) hN t (.inl rfl) (fun k hk _ => hD k hk) hlv).mono (restr_le _ _)

end
end Go.XM

namespace Go.XM
set_option linter.unusedVariables false
set_option linter.unusedSimpArgs false
open Go.RowKit
set_option linter.unusedVariables false

section
variable {P : Program} {B : Nat} {w0 : World}

theorem can_of {call : XCallFn} (hc : CallFr call) {ops : List Oper} {Wd : List (List (Nat × Nat))} {Ts : Nat → Tmps} {Ss : Nat → XS} {vs : Nat → XV} {Ws : Nat → List (Nat × Nat)}
    (h : ∀ i o, ops[i]? = some o → StepC P call ops (predsOf ops) Wd i o (Ts i) (Ss i) (Ts (i + 1)) (Ss (i + 1)) (vs i) (Ws i)) :
    Can ops Ts Ss vs Ws ∧ ∀ k, k < ops.length → ∀ p, p ∈ Ws k → p ∈ Wd.getD k [] := by
  have get : ∀ k (hk : k < ops.length), ops[k]? = some (ops[k]) := fun k hk => List.getElem?_eq_getElem hk
  have hsub : ∀ k, k < ops.length → ∀ p, p ∈ Ws k → p ∈ Wd.getD k [] := fun k hk p hp => by
    rcases (h k _ (get k hk)).2 with ⟨_, S', _, _, hW, _⟩ | ⟨_, _, hW, _⟩
    · exact (hW p hp).1
    · rw [hW] at hp; cases hp
  refine ⟨⟨fun k hk => (stepC_fr hc (h k _ (get k hk))).1, fun k hk => (stepC_fr hc (h k _ (get k hk))).2.2.2, fun k o ho => (h k o ho).1, fun k hk => (stepC_fr hc (h k _ (get k hk))).2.2.1, fun i k hi hk hne hord p hp hpk => ?_⟩, hsub⟩
  rcases (h i _ (get i hi)).2 with ⟨_, S', _, _, hW, _⟩ | ⟨_, _, hW, _⟩
  · refine (hW p hp).2 ?_
    have hw := hsub k hk p hpk
    have hkl : k < Wd.length := by
      rcases Nat.lt_or_ge k Wd.length with z | z
      · exact z
      · rw [List.getD_eq_getElem?_getD, List.getElem?_eq_none z] at hw; cases hw
    unfold openW
    rw [List.mem_flatMap]
    refine ⟨k, List.mem_filter.2 ⟨List.mem_range.2 hkl, ?_⟩, hw⟩
    simp [hne.symm, hord]
  · rw [hW] at hp; cases hp

theorem drawOK (hm : P.follows .mixedOrders = true) : DrawOK P B w0 goodDraw CallFr := by
  intro call base n id ops ρ0 S0 wi T T' S S' a w Q hc hfr hb hg hn hx hQ
  obtain ⟨ρs, W0, h1, h2, h3, h4, h5, h6⟩ := hn
  have St := static_of hg
  obtain ⟨Wd, S1, wsl, h, rfl⟩ := xdraw_eq hx
  obtain ⟨Ts, Ss, vs, Ws, e1, e2, e3, e4, e5, e6⟩ := xopsW_chain ops.toList 0 T S T' S1 wsl h
  simp only [Nat.zero_add] at e3 e4 e5 e6
  obtain ⟨C, hsub⟩ := can_of hfr e6
  subst e1 e2 e3 e4
  refine wp_region_any hm ?_
  have hrel := rel_drew h1
  have I0 := inv_start (n := n) (ops := ops) (vs := vs) C (w := w.drew) hrel h4 h5 h6
  refine any_ok (ρs := ρs) (ws := w.drew) hc St C hsub e6 (fun D ρ' a' w' hD I => ?_) ops.size _ ρs a _ (by simp) ?_ ?_
  · obtain ⟨q1, q2, q3⟩ := inv_end C I hD (W := wsl.flatten.filter fun p => p.1 < (Ss 0).size) fun p => by
      rw [List.mem_filter, List.mem_flatten]
      constructor
      · rintro ⟨⟨l, hl, hp⟩, hlt⟩
        obtain ⟨k, hk, hkl⟩ := List.getElem_of_mem hl
        have := e5 k
        rw [List.getElem?_eq_getElem hk, hkl] at this
        split at this
        · rename_i hlt'
          injection this with this
          subst this
          exact ⟨by simpa using hlt, k, hlt', hp⟩
        · cases this
      · rintro ⟨hlt, k, hk, hp⟩
        exact ⟨⟨Ws k, List.mem_of_getElem? (i := k) (by rw [e5, if_pos hk]), hp⟩, by simpa using hlt⟩
    have hbs : base ≤ (Ss 0).size := Nat.le_trans hb h2.size
    have q4 := q2.lower (base' := base) (W' := wsl.flatten.filter fun p => p.1 < base) hbs (Nat.le_refl _) fun p => by
      simp only [List.mem_filter, decide_eq_true_eq]
      constructor
      · rintro ⟨z1, z2⟩; exact ⟨⟨z1, by omega⟩, z2⟩
      · rintro ⟨⟨z1, _⟩, z2⟩; exact ⟨z1, z2⟩
    refine hQ a' w' ⟨ρ', (wsl.flatten.filter fun p => p.1 < base) ++ ([] ++ W0), q1.relog _, ?_, ?_, q3, I.tsz, I.dfr⟩
    · have z1 := (h2.trans hb ev_drew).trans hb q4
      exact z1.relog S0.log _
    · show _ ++ (Ss 0).log = _
      rw [h3]; simp
  · unfold undone
    refine Nat.le_trans (List.length_filter_le _ _) ?_
    simp
  · have : isDone (Array.replicate ops.size false) = fun _ => False := by
      funext k
      apply propext
      unfold isDone
      constructor
      · intro hk
        rw [Array.getD_eq_getD_getElem?, Array.getElem?_replicate] at hk
        split at hk <;> simp at hk
      · exact False.elim
    rw [this]
    exact I0

/-- every call of the plain machine tells what the real one does -/
theorem xcalls {prim : XPrim} (hm : P.follows .mixedOrders = true) (hp : PrimOK P prim) (hg : GoodProg P prim goodDraw) (hL : (∃ f g, prim f = some g) → ∀ w, Below B w0 w → Laid P w) (n : Nat) : CallOK P B w0 (xcall P prim n) :=
  xcall_ok (drawOK hm) xcall_fr hp hg hL n

end
end Go.XM

namespace Go.XM
set_option linter.unusedVariables false
set_option linter.unusedSimpArgs false
open Go.RowKit Go.ChangeShapes Go.WideShapes
set_option linter.unusedVariables false

section
variable {P : Program}

theorem primOK_none : PrimOK P noPrim := fun f g h => by cases h

def goodAll (P : Program) : Bool := P.funcs.toList.all fun fn => match fn.body with
  | some c => goodCode goodDraw fn.ntmps c
  | none => true

theorem goodProg_of (h : goodAll P = true) (prim : XPrim) : GoodProg P prim goodDraw := fun f fn c hf hc _ => by
  have := List.all_eq_true.1 h fn (List.mem_of_getElem? (i := f) (by rw [Array.getElem?_toList]; exact hf))
  rw [hc] at this
  exact this

/-- no block, and memory that stays -/
def embZ (z : ZMap) : Emb := ⟨fun _ => none, z⟩
def zNone : ZMap := fun _ _ _ => none

theorem rel_none (w : World) {z : ZMap} (hok : z.ok) (hz : ∀ t r o v, z t r o = some v → w.cell? ⟨r, o, none⟩ = some v) : Rel w.heap.size w (embZ z) XS.none w where
  below := Below.refl _ _
  Bw := Nat.le_refl _
  dom := fun b e h => by cases h
  blk := fun b e h => by cases h
  inj := fun b b' e e' h => by cases h
  lt := fun b e h => by cases h
  fz := ⟨hok, hz, fun b e h => by cases h⟩

theorem rel_nil (w : World) : Rel w.heap.size w (embZ zNone) XS.none w := rel_none w (fun _ _ _ h => by cases h) (fun _ _ _ _ h => by cases h)

/-- a call that gets no address -/
theorem calls_plain (hm : P.follows .mixedOrders = true) (hg : goodAll P = true) {n : Nat} {f : FuncId} {args : List XV} {b : Bool} {S' : XS} (hx : xcall P noPrim n f args 0 XS.none = some (.bool b, S'))
    {args' : List Value} (hv : VRs (embZ zNone) args args') (w : World) : Calls P f args'.toArray w fun e w' => e = .returned (.bool b) ∧ Below w.heap.size w w' := by
  have h := (xcalls (B := w.heap.size) (w0 := w) hm primOK_none (goodProg_of hg noPrim) (fun ⟨_, _, q⟩ => by cases q) n f args 0 XS.none _ _ hx).2 _ w args' (rel_nil w) (Nat.zero_le _) hv
  refine h.mono ?_
  rintro e w' ⟨u, ρ', W, rfl, q1, q2, _, _⟩
  cases q1
  exact ⟨rfl, q2.below⟩

def yes : Option (XV × XS) → Bool
  | some (.bool true, _) => true
  | _ => false

theorem yes_spec {r : Option (XV × XS)} (h : yes r = true) : ∃ S', r = some (.bool true, S') := by
  unfold yes at h
  split at h
  · exact ⟨_, rfl⟩
  · cases h

theorem calls_true (hm : P.follows .mixedOrders = true) (hg : goodAll P = true) {n : Nat} {f : FuncId} {args : List XV} (hx : yes (xcall P noPrim n f args 0 XS.none) = true)
    {args' : List Value} (hv : VRs (embZ zNone) args args') (w : World) : Calls P f args'.toArray w fun e w' => e = .returned (.bool true) ∧ Below w.heap.size w w' := by
  obtain ⟨S', h⟩ := yes_spec hx
  exact calls_plain hm hg h hv w

variable {H : Type} {enc : TypeId × Value → H}

/-- what the row asks behind a call that turned nothing that was -/
theorem post_of_below {f : Func} {s : ChangeSpec} {apart fresh handsOn again : Bool} {W W' : World} {args : Array Value} {v : Value} {ds gs : List (DataW H)} {before pa pv : List MemPlace}
    (hW : DataW.Whole enc P f.params.toList s.vars apart W args.toList ds gs before)
    (hres : ∀ (b : Nat) (sp : Nat → Bool) (hd : Bool), DataW.TrodAll enc P W' b sp hd f.resultTypes.toList (v.resultList f.resultTypes.size) (s.fn H (ds ++ gs)).results [])
    (hargs : ∀ sp : Nat → Bool, (∀ p ∈ before, sp p.block = true) → DataW.TrodAll enc P W' 0 sp true f.params.toList args.toList (s.fn H (ds ++ gs)).args pa)
    (hvars : ∀ sp : Nat → Bool, (∀ p ∈ before, sp p.block = true) → DataW.TrodVars enc P W' sp s.vars (s.fn H (ds ++ gs)).vars pv)
    (hps : before = pa ++ pv) (hb : Below W.heap.size W W')
    (hok : ∀ (j : Nat) (t : TypeId) (r : Value), f.resultTypes[j]? = some t → (v.resultList f.resultTypes.size)[j]? = some r → Value.okWide P W' .any 0 t r) :
    s.post enc P f apart fresh handsOn again W args v W' := by
  have hlt := hW.lt
  subst hps
  refine ⟨ds, gs, _, [], pa, pv, hW, hres _ _ _, hargs _ fun p hp => by simpa using hlt p hp, hvars _ fun p hp => by simpa using hlt p hp,
    World.keptBut_mono (fun p hp => ⟨hp, .inr (by simpa using hp)⟩) (hb.frame _), fun _ => ?_⟩
  obtain ⟨_, _, _, _, _, hz, hn⟩ := hW
  refine ⟨hok, _, _, ([] ++ pa) ++ pv, ⟨[] ++ pa, pv, trodAll_append (hargs _ fun _ _ => rfl) (hres _ _ _), hvars _ fun _ _ => rfl, rfl, fun b off hp => ?_, fun ha => ?_⟩, fun p hp _ => ?_⟩
  · have hp' : MemPlace.cell b off ∈ pa ++ pv := by simpa using hp
    rw [hb.frozen (hlt _ hp')]
    exact hz b off hp'
  · simpa using hn ha
  · simpa using hp

end
end Go.XM

namespace Go.XM
set_option linter.unusedVariables false
set_option linter.unusedSimpArgs false
open Go.RowKit
set_option linter.unusedVariables false

section
variable {P : Program}

/-- a function that is known, run by itself: what it answers, read out -/
noncomputable def prun (P : Program) (prim : XPrim) (n : Nat) (f : FuncId) (t : Bool) (args : List XV) : Option XV :=
  match xcall P prim n f args 0 XS.none with
  | some (v, S) => hard t S 50 v
  | none => none

/-- what a run of plain data tells, the function does -/
theorem pure_of (hm : P.follows .mixedOrders = true) (hg : goodAll P = true) {prim : XPrim} (hp : PrimOK P prim) {f : FuncId} {F : List XV → Option XV}
    (h : ∀ args v, F args = some v → ∃ n t, prun P prim n f t args = some v) : Pure P f F := by
  intro args v hF z w args' hok hzc hlaid hargs
  obtain ⟨n, t, hr⟩ := h args v hF
  unfold prun at hr
  split at hr
  case h_2 => cases hr
  case h_1 v0 S' hx =>
  have hc := (xcalls (B := w.heap.size) (w0 := w) hm hp (goodProg_of hg prim) (fun _ _ q => hlaid.below q) n f args 0 XS.none _ _ hx).2 (embZ z) w args' (rel_none w hok hzc) (Nat.zero_le _) (DRs.vr (ρ := embZ z) hargs)
  refine hc.mono ?_
  rintro e w' ⟨u, ρ', W, rfl, q1, q2, q3, _⟩
  have hbel : Below w.heap.size w w' := q2.below
  have hk : ∀ r o, r < w.heap.size → w'.cell? ⟨r, o, none⟩ = w.cell? ⟨r, o, none⟩ := fun r o hr => World.cell?_of_block (w := w) (a := ⟨r, o, none⟩) (hbel.block r hr)
  let z' : ZMap := fun t r o => if r < w.heap.size then z t r o else w'.cell? ⟨r, o, none⟩
  have hold : ∀ t r o v, ρ'.z t r o = some v → z' t r o = some v := fun t r o v q => by
    simp only [z']
    split
    · rename_i hlt; exact q3.zold t r o v q hlt
    · exact q2.fz.zc _ _ _ _ q
  refine ⟨u, z', rfl, fun t r o v q => ?_, fun r o v q => ?_, fun t r o v q => ?_, fun t r o v q hlt => ?_, ?_, hbel⟩
  · have hlt := cell_lt (hzc _ _ _ _ q)
    simp only [z']
    rw [if_pos hlt]; exact q
  · simp only [z'] at q ⊢
    split
    · rename_i hlt; rw [if_pos hlt] at q; exact hok _ _ _ q
    · rename_i hlt; rw [if_neg hlt] at q; exact q
  · simp only [z'] at q
    split at q
    · rename_i hlt; rw [hk r o hlt]; exact hzc _ _ _ _ q
    · exact q
  · simp only [z'] at q
    rw [if_pos hlt] at q
    exact q
  · refine hard_dr q2 (fun t r o v q => hold t r o v q) (fun b e he hB o v q => ?_) 50 v0 v u hr q1
    simp only [z']
    rw [if_neg (by omega)]
    exact q

/-- a function without arguments that is known to answer true -/
def truePrim (f0 : FuncId) : XPrim := ⟨fun f => if f = f0 then some (fun args => match args with | [] => some (.bool true) | _ => none) else none, fun _ _ => none⟩

theorem hard_bool (t : Bool) (S : XS) (b : Bool) : hard t S 50 (.bool b) = some (.bool b) := rfl

theorem primOK_true (hm : P.follows .mixedOrders = true) (hg : goodAll P = true) {n : Nat} {f0 : FuncId} (hx : yes (xcall P noPrim n f0 [] 0 XS.none) = true) : PrimOK P (truePrim f0) := by
  intro f g hfg
  unfold truePrim at hfg
  simp only at hfg
  split at hfg
  · rename_i h
    subst h
    injection hfg with hfg
    subst hfg
    refine pure_of hm hg primOK_none fun args v hv => ?_
    split at hv
    · injection hv with hv
      subst hv
      obtain ⟨S', h⟩ := yes_spec hx
      exact ⟨n, false, by unfold prun; rw [h]; exact hard_bool _ _ _⟩
    · cases hv
  · cases hfg

/-- all that is there now -/
def snap (w : World) : ZMap := fun _ r o => w.cell? ⟨r, o, none⟩

/-- a law that answers true -/
theorem calls_law {prim : XPrim} (hm : P.follows .mixedOrders = true) (hg : goodAll P = true) (hp : PrimOK P prim) {n : Nat} {f : FuncId} {args : List XV} (hx : yes (xcall P prim n f args 0 XS.none) = true)
    {args' : List Value} (w : World) (hlaid : Laid P w) (hv : DRs (snap w) args args') : Calls P f args'.toArray w fun e w' => e = .returned (.bool true) ∧ Below w.heap.size w w' := by
  obtain ⟨S', h⟩ := yes_spec hx
  have h := (xcalls (B := w.heap.size) (w0 := w) hm hp (goodProg_of hg prim) (fun _ _ q => hlaid.below q) n f args 0 XS.none _ _ h).2 (embZ (snap w)) w args' (rel_none w (fun _ _ _ q => q) (fun _ _ _ _ q => q)) (Nat.zero_le _) (DRs.vr (ρ := embZ (snap w)) hv)
  refine h.mono ?_
  rintro e w' ⟨u, ρ', W, rfl, q1, q2, _, _⟩
  cases q1
  exact ⟨rfl, q2.below⟩

end
end Go.XM

namespace Go.XM
set_option linter.unusedVariables false
set_option linter.unusedSimpArgs false
open Go.RowKit
set_option linter.unusedVariables false

/-! ### what a row of the claim reads, as plain data -/
def inRow (P : Program) : List Field → Nat → Nat → Bool
  | [], o, m => o == m
  | f :: r, o, m => f.offset == o && inRow P r (o + P.cellsOf f.type) m

/-- booleans, whole numbers, strings, rows and structs of such -/
def plainTy (P : Program) : Nat → TypeId → Bool
  | 0, _ => false
  | n + 1, t => match P.underlying t with
    | some .bool => true
    | some (.int _) => true
    | some .string => true
    | some (.slice e) => decide (0 < P.cellsOf e) && plainTy P n e
    | some (.struct fs) => inRow P fs.toList 0 (P.cellsOf t) && fs.toList.all (fun f => plainTy P n f.type)
    | _ => false

def Segs (R : TypeId → List XV → Prop) : List Field → List XV → Prop
  | [], xs => xs = []
  | f :: r, xs => ∃ a b, xs = a ++ b ∧ R f.type a ∧ Segs R r b

def Shaped (P : Program) : Nat → TypeId → List XV → Prop
  | 0, _, _ => False
  | n + 1, t, xs => match P.underlying t with
    | some .bool => ∃ b, xs = [.bool b]
    | some (.int k) => ∃ i, xs = [.int k i] ∧ (Lit.int k i).wf = true
    | some .string => ∃ s, xs = [.str s] ∧ s.length ≤ maxLen
    | some (.slice e) => ∃ els : List (List XV), xs = [.row false false els.flatten els.length] ∧ els.length ≤ maxLen ∧ ∀ el, el ∈ els → Shaped P n e el ∧ el.length = P.cellsOf e
    | some (.struct fs) => Segs (Shaped P n) fs.toList xs
    | _ => False

theorem DRs.append {z : ZMap} : ∀ {xs : List XV} {us : List Value} {ys : List XV} {vs : List Value}, DRs z xs us → DRs z ys vs → DRs z (xs ++ ys) (us ++ vs)
  | _, _, _, _, .nil _, k => k
  | _, _, _, _, .cons _ x v xs vs h1 h2, k => .cons _ x v _ _ h1 (h2.append k)
theorem DRs.length {z : ZMap} : ∀ {xs : List XV} {vs : List Value}, DRs z xs vs → xs.length = vs.length
  | _, _, .nil _ => rfl
  | _, _, .cons _ _ _ _ _ _ h => by simp [h.length]

theorem flatten_get {α : Type} {sz : Nat} (hs : 0 < sz) : ∀ (L : List (List α)), (∀ l, l ∈ L → l.length = sz) → ∀ k v, L.flatten[k]? = some v → ∃ l, L[k / sz]? = some l ∧ l[k % sz]? = some v
  | [], _, k, v, h => by simp at h
  | l :: L, hl, k, v, h => by
    have h0 := hl l (by simp)
    rw [List.flatten_cons] at h
    rcases Nat.lt_or_ge k sz with q | q
    · rw [List.getElem?_append_left (by omega)] at h
      rw [Nat.div_eq_of_lt q, Nat.mod_eq_of_lt q]
      exact ⟨l, by simp, h⟩
    · rw [List.getElem?_append_right (by omega)] at h
      obtain ⟨l', q1, q2⟩ := flatten_get hs L (fun l hm => hl l (by simp [hm])) (k - l.length) v h
      rw [h0] at q1 q2
      refine ⟨l', ?_, ?_⟩
      · have : k / sz = (k - sz) / sz + 1 := by rw [← Nat.sub_add_cancel q, Nat.add_div_right _ hs, Nat.sub_add_cancel q]
        rw [this]; simpa using q1
      · have : k % sz = (k - sz) % sz := by conv => lhs; rw [← Nat.sub_add_cancel q, Nat.add_mod_right]
        rw [this]; exact q2

theorem cell_plain {w : World} {a : Addr} {v : Value} (h : w.cell? a = some v) : a.spot = none ∧ w.cell? ⟨a.block, a.off, none⟩ = some v := by
  obtain ⟨r, o, sp⟩ := a
  cases sp with
  | none => exact ⟨rfl, h⟩
  | some s =>
    unfold World.cell? at h
    simp only at h
    split at h
    · simp at h
    · cases h

theorem add_parts (a : Addr) (n : Nat) : (a.add n).block = a.block ∧ (a.add n).off = a.off + n := by
  unfold Addr.add
  split
  · rename_i h; subst h; exact ⟨rfl, rfl⟩
  · exact ⟨rfl, rfl⟩

section
variable {P : Program} {H : Type} {enc : TypeId × Value → H} {w : World} {sp : Nat → Bool} {held : Bool}

theorem segs_of {n : Nat} (ih : ∀ (fuel : Nat) (t : TypeId) (cs : List Value) (x : DataW H × List MemPlace), plainTy P n t = true → DataW.trod enc P w 0 sp held fuel t cs = some x → ∃ xs, Shaped P n t xs ∧ DRs (snap w) xs cs ∧ ∀ v, v ∈ xs → v.oneCell = true)
    {cs : List Value} {m : Nat} {k : Nat} : ∀ (fs : List Field) (o : Nat), inRow P fs o m = true → m = cs.length → (∀ f, f ∈ fs → plainTy P n f.type = true) →
    (∀ f, f ∈ fs → ∃ x, DataW.trod enc P w 0 sp held k f.type ((cs.drop f.offset).take (P.cellsOf f.type)) = some x) → ∃ xs, Segs (Shaped P n) fs xs ∧ DRs (snap w) xs (cs.drop o) ∧ ∀ v, v ∈ xs → v.oneCell = true
  | [], o, hin, hm, hp, ht => by
    simp only [inRow, beq_iff_eq] at hin
    refine ⟨[], rfl, ?_, fun v hv => by cases hv⟩
    rw [List.drop_of_length_le (by omega)]
    exact .nil _
  | f :: fs, o, hin, hm, hp, ht => by
    simp only [inRow, Bool.and_eq_true, beq_iff_eq] at hin
    obtain ⟨rfl, hin⟩ := hin
    obtain ⟨x, hx⟩ := ht f (by simp)
    obtain ⟨a, a1, a2, a3⟩ := ih k f.type _ x (hp f (by simp)) hx
    obtain ⟨b, b1, b2, b3⟩ := segs_of ih fs _ hin hm (fun g hg => hp g (by simp [hg])) (fun g hg => ht g (by simp [hg]))
    refine ⟨a ++ b, ⟨a, b, rfl, a1, b1⟩, ?_, fun v hv => ?_⟩
    · have := a2.append b2
      rwa [← List.drop_drop, List.take_append_drop] at this
    · rcases List.mem_append.1 hv with q | q
      · exact a3 v q
      · exact b3 v q

/-- what the claim reads is plain data, of the type's shape -/
theorem trod_shape : ∀ (n fuel : Nat) (t : TypeId) (cs : List Value) (x : DataW H × List MemPlace), plainTy P n t = true → DataW.trod enc P w 0 sp held fuel t cs = some x →
    ∃ xs, Shaped P n t xs ∧ DRs (snap w) xs cs ∧ ∀ v, v ∈ xs → v.oneCell = true
  | 0, fuel, t, cs, x, hp, h => by simp [plainTy] at hp
  | n + 1, fuel, t, cs, x, hp, h => by
    have ih := trod_shape n
    unfold plainTy at hp
    unfold Shaped
    split at hp
    · rename_i hu
      obtain ⟨b, rfl, _⟩ := DataW.trod_bool hu h
      exact ⟨[.bool b], ⟨b, rfl⟩, .cons _ _ _ _ _ (.bool _ b) (.nil _), by simp [XV.oneCell]⟩
    · rename_i k hu
      obtain ⟨i, rfl, _, hw⟩ := DataW.trod_int hu h
      exact ⟨[.int k i], ⟨i, rfl, hw⟩, .cons _ _ _ _ _ (.int _ k i) (.nil _), by simp [XV.oneCell]⟩
    · rename_i hu
      obtain ⟨s, rfl, _, hl⟩ := DataW.trod_string hu h
      refine ⟨[.str s.data.toList], ⟨s.data.toList, rfl, (by rw [Array.length_toList]; exact hl)⟩, .cons _ _ _ _ _ ?_ (.nil _), by simp [XV.oneCell]⟩
      have := DR.str (snap w) s.data.toList
      rwa [bytes_eta] at this
    · rename_i e hu
      simp only [Bool.and_eq_true, decide_eq_true_eq] at hp
      obtain ⟨hsz, hpe⟩ := hp
      rcases DataW.trod_slice hu h with ⟨rfl, _⟩ | ⟨a, len, cap, elems, rest, m, _, rfl, _, _, hlc, hcm, hel, hcells, _, _⟩
      · exact ⟨[.row false false [] 0], ⟨[], rfl, Nat.zero_le _, fun el hel => by cases hel⟩, .cons _ _ _ _ _ (.rowNil _ _ _) (.nil _), by simp [XV.oneCell]⟩
      · have each : ∀ i, ∃ y : List XV × List Value, i < len → Shaped P n e y.1 ∧ DRs (snap w) y.1 y.2 ∧ (∀ v, v ∈ y.1 → v.oneCell = true) ∧ y.2.length = P.cellsOf e ∧ ∀ j v, y.2[j]? = some v → w.cell? ((a.add (i * P.cellsOf e)).add j) = some v := fun i => by
          by_cases q : i < len
          · have hi := hcells i q
            rw [List.getElem?_eq_getElem (by omega), Option.bind_eq_some_iff] at hi
            obtain ⟨ci, hci, hti⟩ := hi
            obtain ⟨xs, h1, h2, h3⟩ := ih _ _ _ _ hpe hti
            obtain ⟨_, hlen, hget⟩ := World.cells?_some hci
            refine ⟨(xs, ci), fun _ => ⟨h1, h2, h3, hlen, fun j v hj => ?_⟩⟩
            have hjl : j < P.cellsOf e := by
              rcases Nat.lt_or_ge j ci.length with z | z
              · omega
              · simp only at hj; rw [List.getElem?_eq_none z] at hj; cases hj
            rw [hget j hjl]; exact hj
          · exact ⟨([], []), fun z => absurd z q⟩
        obtain ⟨f, hf⟩ := Classical.axiomOfChoice each
        have hf' : ∀ i, i ∈ List.range len → _ := fun i hi => hf i (List.mem_range.1 hi)
        have hdr : ∀ l : List Nat, (∀ i, i ∈ l → i < len) → DRs (snap w) (l.map fun i => (f i).1).flatten (l.map fun i => (f i).2).flatten := fun l => by
          induction l with
          | nil => intro _; exact .nil _
          | cons i l ihl =>
            intro hl
            simp only [List.map_cons, List.flatten_cons]
            exact (hf i (hl i (by simp))).2.1.append (ihl fun j hj => hl j (by simp [hj]))
        have hspot : len = 0 ∨ a.spot = none := by
          rcases Nat.eq_zero_or_pos len with z | z
          · exact .inl z
          · obtain ⟨_, _, _, hl0, hc0⟩ := hf 0 z
            have hv := List.getElem?_eq_getElem (l := (f 0).2) (i := 0) (by omega)
            have := hc0 0 _ hv
            rw [Nat.zero_mul, show (a.add 0).add 0 = a by simp [Addr.add]] at this
            exact .inr (cell_plain this).1
        have hone : ∀ v, v ∈ ((List.range len).map fun i => (f i).1).flatten → v.oneCell = true := fun v hv => by
          obtain ⟨l, hl, hvl⟩ := List.mem_flatten.1 hv
          obtain ⟨i, hi, rfl⟩ := List.mem_map.1 hl
          exact (hf' i hi).2.2.1 v hvl
        refine ⟨[.row false false ((List.range len).map fun i => (f i).1).flatten len], ⟨(List.range len).map fun i => (f i).1, by simp, by simp; omega, fun el hel => ?_⟩, .cons _ _ _ _ _ ?_ (.nil _), by simp [XV.oneCell]⟩
        · obtain ⟨i, hi, rfl⟩ := List.mem_map.1 hel
          obtain ⟨h1, h2, _, h4, _⟩ := hf' i hi
          exact ⟨h1, by rw [h2.length]; exact h4⟩
        · refine .row _ _ _ _ _ ((List.range len).map fun i => (f i).2).flatten _ _ (DRs.dls ?_) (fun k v hk => ?_) hspot hlc (fun q => by cases q) (fun v hv _ => hone v hv)
          · exact hdr (List.range len) fun i hi => List.mem_range.1 hi
          · obtain ⟨l, q1, q2⟩ := flatten_get hsz _ (fun l hl => by
              obtain ⟨i, hi, rfl⟩ := List.mem_map.1 hl
              exact (hf' i hi).2.2.2.1) k v hk
            rw [List.getElem?_map, Option.map_eq_some_iff] at q1
            obtain ⟨i, hi, rfl⟩ := q1
            have hik : i = k / P.cellsOf e ∧ i < len := by
              obtain ⟨z1, z2⟩ := List.getElem?_eq_some_iff.1 hi
              simp at z1 z2
              exact ⟨z2.symm, by omega⟩
            have hc := (hf i hik.2).2.2.2.2 _ v q2
            have := (cell_plain hc).2
            obtain ⟨p1, p2⟩ := add_parts (a.add (i * P.cellsOf e)) (k % P.cellsOf e)
            obtain ⟨p3, p4⟩ := add_parts a (i * P.cellsOf e)
            rw [p1, p2, p3, p4, Nat.add_assoc, hik.1, Nat.mul_comm, Nat.div_add_mod] at this
            exact this
    · rename_i fs hu
      simp only [Bool.and_eq_true] at hp
      obtain ⟨xs, m, _, _, hcl, hxl, hfs⟩ := DataW.trod_struct hu h
      obtain ⟨ys, h1, h2, h3⟩ := segs_of (k := m) ih fs.toList 0 hp.1 hcl.symm (fun f hf => List.all_eq_true.1 hp.2 f hf) (fun f hf => by
        obtain ⟨i, hi⟩ := List.mem_iff_getElem?.1 hf
        have hi' : fs[i]? = some f := by simpa using hi
        have := hfs i f hi'
        have hlt : i < fs.size := by
          rcases Nat.lt_or_ge i fs.size with q | q
          · exact q
          · rw [Array.getElem?_eq_none q] at hi'; cases hi'
        rw [List.getElem?_eq_getElem (by omega)] at this
        exact ⟨_, this⟩)
      exact ⟨ys, h1, by simpa using h2, h3⟩
    · cases hp

end
end Go.XM
