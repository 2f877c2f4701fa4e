/- A plain machine beside the model, and that what it tells the model does: part Xz. Conditions: those of each theorem below. -/
import Derived.Test.YtlaamopkgopleaaXy
namespace Go.XM
set_option linter.unusedVariables false
set_option linter.unusedSimpArgs false
open Go.RowKit
set_option linter.unusedVariables false

/-! ### a region of open order, as the plain machine runs it -/
structure Can (ops : List Oper) (Ts : Nat → Tmps) (Ss : Nat → XS) (vs : Nat → XV) (Ws : Nat → List (Nat × Nat)) : Prop where
  size : ∀ k, k < ops.length → (Ss k).size ≤ (Ss (k + 1)).size
  fr : ∀ k, k < ops.length → ∀ b, b < (Ss k).size → BlkFrame (Ws k) b ((Ss k).get b) ((Ss (k + 1)).get b)
  put : ∀ k o, ops[k]? = some o → Ts (k + 1) = putX (Ts k) o.dst (vs k)
  wb : ∀ k, k < ops.length → ∀ p, p ∈ Ws k → p.1 < (Ss k).size
  apart : ∀ i k, i < ops.length → k < ops.length → i ≠ k → ordered (predsOf ops) i k = false → ∀ p, p ∈ Ws i → p ∉ Ws k

def restr (ρ : Emb) (n : Nat) : Emb := ⟨fun b => if b < n then ρ b else none, ρ.z⟩
theorem restr_some {ρ : Emb} {n b : Nat} {e : Ent} : restr ρ n b = some e ↔ b < n ∧ ρ b = some e := by
  unfold restr
  simp only
  split
  · rename_i h; exact ⟨fun q => ⟨h, q⟩, fun q => q.2⟩
  · rename_i h; exact ⟨fun q => (by cases q), fun q => absurd q.1 h⟩
theorem restr_le (ρ : Emb) (n : Nat) : (restr ρ n).le ρ := ⟨fun b e h => (restr_some.1 h).2, ZMap.le_refl _⟩
theorem restr_mono {ρ ρ' : Emb} (h : ρ.le ρ') {n m : Nat} (hn : n ≤ m) : (restr ρ n).le (restr ρ' m) := ⟨fun b e q => by
  obtain ⟨q1, q2⟩ := restr_some.1 q
  exact restr_some.2 ⟨by omega, h.m b e q2⟩, h.z⟩

/-- plain cells alone, but for those that are nobody's -/
def FlatD (dead : Nat → Prop) (cs : List XV) : Prop := ∀ o v, cs[o]? = some v → v.live = true → ¬ dead o → v.oneCell = true ∧ v.under 0 = true
theorem Flat.flatD {cs : List XV} (h : Flat cs) (dead : Nat → Prop) : FlatD dead cs := fun o v ho hl _ => h v (List.mem_of_getElem? ho) hl

/-- what the world tells of a block, some cells being nobody's -/
def BlkP (ρ : Emb) (B : Nat) (w : World) (e : Ent) (dead : Nat → Prop) : XBlk → Prop
  | .cells cs k =>
    (match k with
      | .ro => e.blk < B ∧ e.loose = none
      | .own => B ≤ e.blk ∧ e.loose = none
      | .arr esz => (B ≤ e.blk ∧ e.loose = none) ∧ 0 < esz ∧ FlatD dead cs ∧ ∀ j, j < cs.length → (w.cell? (e.at j)).isSome = true ∧ w.frozen? (e.at j) = false
      | .loose esz n => B ≤ e.blk ∧ 0 < esz ∧ cs.length = n * esz ∧ FlatD dead cs ∧ ∃ rsz, e.loose = some (esz, n, rsz) ∧ e.sh + n * esz ≤ rsz ∧ ∀ j, j < rsz → (w.cell? ⟨e.blk, j, none⟩).isSome = true ∧ w.frozen? ⟨e.blk, j, none⟩ = false) ∧
    ∀ o v, cs[o]? = some v → v.live = true → ¬ dead o → ∃ u, w.cell? (e.at o) = some u ∧ VR ρ v u ∧ (k ≠ .ro → w.frozen? (e.at o) = false)
  | .iter s pos => (B ≤ e.blk ∧ e.sh = 0 ∧ e.loose = none) ∧ (¬ dead 0 → w.heap[e.blk]? = some (.stringIter ⟨s.toArray⟩ pos))
  | .gone => True

/-- behind an operation, and behind its undoing of the poison -/
def Agree (W : List (Nat × Nat)) (b : Nat) : XBlk → XBlk → Prop
  | .cells cs k, .cells cs' k' => k = k' ∧ cs.length = cs'.length ∧ ∀ o : Nat, (b, o) ∈ W → cs[o]? = cs'[o]?
  | .iter s n, .iter s' n' => s = s' ∧ ((b, 0) ∈ W → n = n')
  | .gone, .gone => True
  | .cells _ _, .iter _ _ => (b, 0) ∉ W
  | _, _ => False

theorem agree_of {ps W : List (Nat × Nat)} {b : Nat} {x y y' z : XBlk} (h1 : PoisR ps b x y) (h2 : BlkFrame W b y y') (h3 : RestR ps b x y' z) (hW : ∀ o, (b, o) ∈ W → (b, o) ∉ ps) (hl : ∀ o, (b, o) ∈ W → WOk y o) : Agree W b y' z := by
  cases x with
  | cells cs k =>
    cases y with
    | cells cp kp =>
      cases y' with
      | cells cq kq =>
        obtain ⟨cz, rfl, l3, c1, c2⟩ := h3
        exact ⟨rfl, l3.symm, fun o ho => (c1 o (hW o ho)).symm⟩
      | iter s n => exact h2.elim
      | gone => cases h3; trivial
    | iter s n => exact h1.elim
    | gone => exact h1.elim
  | iter s n =>
    cases y with
    | cells cp kp =>
      obtain ⟨rfl, rfl, o, ho⟩ := h1
      cases y' with
      | cells cq kq =>
        rcases h3 with ⟨_, _, rfl⟩ | ⟨hc, rfl⟩
        · exact fun hm => absurd (hl 0 hm).1 (by simp [XKind.room])
        · rcases hc with hc | hc
          · exact absurd ho (hc o)
          · cases hc
      | iter s n => exact h2.elim
      | gone => exact absurd h2.1 (by simp [XKind.room])
    | iter s' n' =>
      obtain ⟨rfl, rfl, hno⟩ := h1
      rcases h3 with ⟨⟨o, ho⟩, _, _⟩ | ⟨_, rfl⟩
      · exact absurd ho (hno o)
      · cases z with
        | cells cq kq => exact h2.elim
        | iter s n => exact ⟨rfl, fun _ => rfl⟩
        | gone => exact h2.elim
    | gone => exact h1.elim
  | gone =>
    cases y with
    | cells cp kp => exact h1.elim
    | iter s' n' => exact h1.elim
    | gone =>
      have hz : z = y' := h3
      subst hz
      cases z with
      | gone => trivial
      | cells cq kq => exact h2.elim
      | iter s n => exact h2.elim

theorem WOk.pois {ps : List (Nat × Nat)} {b : Nat} {x y : XBlk} (h : PoisR ps b x y) {o : Nat} (k : WOk y o) : WOk x o := by
  cases x with
  | cells cs kk =>
    cases y with
    | cells cp kp => obtain ⟨rfl, l1, _⟩ := h; exact ⟨by rw [← room_len l1]; exact k.1, k.2⟩
    | iter s n => exact h.elim
    | gone => exact h.elim
  | iter s n =>
    cases y with
    | cells cp kp => obtain ⟨rfl, rfl, _⟩ := h; exact absurd k.1 (by simp [XKind.room])
    | iter s' n' => exact k
    | gone => exact h.elim
  | gone =>
    cases y with
    | cells cp kp => exact h.elim
    | iter s' n' => exact h.elim
    | gone => exact k

theorem WOk.notGone {x : XBlk} {o : Nat} (h : WOk x o) : x.isGone = false := by cases x <;> first | rfl | exact h.elim
theorem WOk.notRo {x : XBlk} {o : Nat} (h : WOk x o) : x.isRo = false := by
  cases x with
  | cells cs k => cases k <;> first | rfl | exact absurd rfl h.2
  | iter s n => rfl
  | gone => rfl

section
variable {ops : List Oper} {Ts : Nat → Tmps} {Ss : Nat → XS} {vs : Nat → XV} {Ws : Nat → List (Nat × Nat)}

theorem Can.sizes (C : Can ops Ts Ss vs Ws) {i : Nat} : ∀ {j : Nat}, i ≤ j → j ≤ ops.length → (Ss i).size ≤ (Ss j).size := by
  intro j
  induction j with
  | zero => intro h _; have : i = 0 := by omega
            subst this; exact Nat.le_refl _
  | succ j ih =>
    intro h hj
    rcases Nat.lt_or_ge j i with q | q
    · have : i = j + 1 := by omega
      subst this; exact Nat.le_refl _
    · exact Nat.le_trans (ih q (by omega)) (C.size j (by omega))

theorem Can.chain (C : Can ops Ts Ss vs Ws) {i b : Nat} (hb : b < (Ss i).size) : ∀ {j : Nat}, i ≤ j → j ≤ ops.length → ∃ W, (∀ p, p ∈ W → ∃ k, i ≤ k ∧ k < j ∧ p ∈ Ws k) ∧ BlkFrame W b ((Ss i).get b) ((Ss j).get b) := by
  intro j
  induction j with
  | zero => intro h _; have : i = 0 := by omega
            subst this; exact ⟨[], (fun p hp => by cases hp), BlkFrame.refl _ _ _⟩
  | succ j ih =>
    intro h hj
    rcases Nat.lt_or_ge j i with q | q
    · have : i = j + 1 := by omega
      subst this; exact ⟨[], (fun p hp => by cases hp), BlkFrame.refl _ _ _⟩
    · obtain ⟨W, hW, hf⟩ := ih q (by omega)
      have hs := C.sizes q (by omega)
      refine ⟨Ws j ++ W, fun p hp => ?_, hf.trans (C.fr j (by omega) b (by omega))⟩
      rcases List.mem_append.1 hp with hp | hp
      · exact ⟨j, q, by omega, hp⟩
      · obtain ⟨k, h1, h2, h3⟩ := hW p hp; exact ⟨k, h1, by omega, h3⟩

theorem Can.gone (C : Can ops Ts Ss vs Ws) {i j b : Nat} (hb : b < (Ss i).size) (h : i ≤ j) (hj : j ≤ ops.length) (hg : ((Ss i).get b).isGone = true) : ((Ss j).get b).isGone = true := by
  obtain ⟨W, _, hf⟩ := C.chain hb h hj
  exact hf.gone hg

theorem Can.back (C : Can ops Ts Ss vs Ws) {i j b o : Nat} (hb : b < (Ss i).size) (h : i ≤ j) (hj : j ≤ ops.length) (hg : WOk ((Ss j).get b) o) : WOk ((Ss i).get b) o := by
  obtain ⟨W, _, hf⟩ := C.chain hb h hj
  exact hg.back hf

/-- a block that cannot be written at one time cannot be written at any -/
def Ro (ops : List Oper) (Ss : Nat → XS) (b : Nat) : Prop := ∃ j, j ≤ ops.length ∧ b < (Ss j).size ∧ ((Ss j).get b).isRo = true

theorem Can.ro (C : Can ops Ts Ss vs Ws) {b j : Nat} (h : Ro ops Ss b) (hj : j ≤ ops.length) (hb : b < (Ss j).size) : ((Ss j).get b).isRo = true ∨ ((Ss j).get b).isGone = true := by
  obtain ⟨i, hi, hbi, hr⟩ := h
  rcases Nat.le_total i j with q | q
  · obtain ⟨W, _, hf⟩ := C.chain hbi q hj
    revert hr hf
    cases (Ss i).get b <;> cases (Ss j).get b <;> simp [XBlk.isRo, XBlk.isGone, BlkFrame]
    rename_i cs k cs' k'
    intro hk h1 h2 h3 h4
    subst h1
    cases k' <;> simp_all
  · obtain ⟨W, _, hf⟩ := C.chain hb q hi
    revert hr hf
    cases (Ss i).get b <;> cases (Ss j).get b <;> simp [XBlk.isRo, XBlk.isGone, BlkFrame]
    rename_i cs k cs' k'
    intro hk h1 h2 h3 h4
    subst h1
    cases k <;> simp_all

def Dead (ops : List Oper) (Ws : Nat → List (Nat × Nat)) (D : Nat → Prop) (j b o : Nat) : Prop :=
  ∃ k, k < ops.length ∧ k ≠ j ∧ (b, o) ∈ Ws k ∧ ((j < ops.length ∧ ordered (predsOf ops) j k = false) ∨ (k < j ∧ ¬ D k))

/-- given up by what is done; c came with it -/
def Kd (ops : List Oper) (Ss : Nat → XS) (D : Nat → Prop) (b c : Nat) : Prop :=
  (b < (Ss 0).size ∧ ((Ss 0).get b).isGone = true) ∨
  ∃ k, D k ∧ k < ops.length ∧ b < (Ss (k + 1)).size ∧ ((Ss (k + 1)).get b).isGone = true ∧ (b < (Ss k).size → ((Ss k).get b).isGone = false) ∧ (Ss k).size ≤ c

/-- what an operation looks at, and the end -/
def Looks (ops : Array Oper) (j t : Nat) : Prop := j = ops.toList.length ∨ ∃ o, ops.toList[j]? = some o ∧ t ∈ o.looksAt ops
def Writes (ops : List Oper) (k t : Nat) : Prop := ∃ o, ops[k]? = some o ∧ o.dst = some t

end

structure Inv (B : Nat) (w0 : World) (n : Nat) (ops : Array Oper) (Ts : Nat → Tmps) (Ss : Nat → XS) (Ws : Nat → List (Nat × Nat)) (ρs : Emb) (ws : World) (D : Nat → Prop) (ρ : Emb) (a : Act) (w : World) : Prop where
  cl : ∀ k, D k → k < ops.toList.length ∧ ∀ o, ops.toList[k]? = some o → ∀ d, d ∈ directs o → D d
  below : Below B w0 w
  Bw : B ≤ w0.heap.size
  dom : ∀ b e, ρ b = some e → b < (Ss 0).size ∨ ∃ k, D k ∧ (Ss k).size ≤ b ∧ b < (Ss (k + 1)).size
  lt : ∀ b e, ρ b = some e → e.blk < w.heap.size
  inj : ∀ b b' e e', ρ b = some e → ρ b' = some e' → e.blk = e'.blk → b ≠ b' → (Ro ops.toList Ss b ∧ Ro ops.toList Ss b') ∨ Kd ops.toList Ss D b b' ∨ Kd ops.toList Ss D b' b
  wd : ∀ k, D k → ∀ p, p ∈ Ws k → ∃ e, ρ p.1 = some e
  wl : ∀ k, D k → ∀ p, p ∈ Ws k → p.1 < (Ss 0).size → WOk ((Ss 0).get p.1) p.2
  blk : ∀ j, j ≤ ops.toList.length → ¬ D j → ∀ b e, ρ b = some e → b < (Ss j).size → BlkP (restr ρ (Ss j).size) B w e (Dead ops.toList Ws D j b) ((Ss j).get b)
  tmp : ∀ j, j ≤ ops.toList.length → ¬ D j → ∀ t, Looks ops j t → (∀ k, k < j → Writes ops.toList k t → D k) → (tget (Ts j) t).live = true → VR (restr ρ (Ss j).size) (tget (Ts j) t) (a.tmps.getD t undef)
  tsz : a.tmps.size = n
  dfr : a.defers = []
  ext : ρs.le ρ
  old : ∀ b e, ρ b = some e → b < (Ss 0).size → ρs b = some e
  wsize : ws.heap.size ≤ w.heap.size
  new : ∀ b e, ρ b = some e → (Ss 0).size ≤ b → ws.heap.size ≤ e.blk ∨ ∃ k, D k ∧ ∃ p, p ∈ Ws k ∧ p.1 < (Ss 0).size ∧ ∃ e0, ρs p.1 = some e0 ∧ e0.blk = e.blk ∧ ((Ss (k + 1)).get p.1).isGone = true
  frame : ∀ r o, r < ws.heap.size → SameAt ws w r o ∨ ∃ k, D k ∧ ∃ p, p ∈ Ws k ∧ p.1 < (Ss 0).size ∧ ∃ e, ρs p.1 = some e ∧ e.blk = r ∧ (o = p.2 + e.sh ∨ ((Ss (k + 1)).get p.1).isGone = true)
  frameI : ∀ r, r < ws.heap.size → w.heap[r]? = ws.heap[r]? ∨ ∃ k, D k ∧ ∃ p, p ∈ Ws k ∧ p.1 < (Ss 0).size ∧ ∃ e, ρs p.1 = some e ∧ e.blk = r
  keep : ∀ r o, (ws.cell? ⟨r, o, none⟩).isSome = true → ws.frozen? ⟨r, o, none⟩ = false → (w.cell? ⟨r, o, none⟩).isSome = true ∧ w.frozen? ⟨r, o, none⟩ = false
  fz : Froz B ρ w
  zold : ∀ t r o v, ρ.z t r o = some v → r < ws.heap.size → ρs.z t r o = some v

/-- an operation was carried out -/
structure Did (B : Nat) (w0 : World) (Ss : Nat → XS) (vs : Nat → XV) (Ws : Nat → List (Nat × Nat)) (i : Nat) (ρr : Emb) (Sp : XS) (w : World) (ρ' : Emb) (S' : XS) (w' : World) (u : Value) : Prop where
  rel : Rel B w0 ρ' S' w'
  ev : Ev (Ss i).size ρr Sp w ρ' S' w' (Ws i)
  val : VR ρ' (vs i) u
  spsz : Sp.size = (Ss i).size
  size : S'.size = (Ss (i + 1)).size
  sp : ∀ b o, WOk (Sp.get b) o → WOk ((Ss i).get b) o
  newb : ∀ b, (Ss i).size ≤ b → S'.get b = (Ss (i + 1)).get b
  agree : ∀ b, b < (Ss i).size → Agree (Ws i) b (S'.get b) ((Ss (i + 1)).get b)

end Go.XM
