/- A plain machine beside the model, and that what it tells the model does: part Xd. Conditions: those of each theorem below. -/
import Derived.Test.YtlaamopkgopleaaXc
import Derived.Below
import Derived.WalkKit
namespace Go.XM
open Go.RowKit
set_option linter.unusedVariables false

/-- where a block of the plain heap lies: the real block, the shift; of a loose one: element size, cells (the last element's worth is nobody's), cells of the real block -/
structure Ent where
  blk : Nat
  sh : Nat
  loose : Option (Nat × Nat × Nat)

abbrev Emb := Nat → Option Ent

def Ent.at (e : Ent) (o : Nat) : Addr := ⟨e.blk, o + e.sh, none⟩
def Ent.reach (e : Ent) (o cap : Nat) : Bool :=
  match e.loose with
  | some (esz, n, _) => o + cap * esz = n
  | none => false

mutual
inductive VR (ρ : Emb) : XV → Value → Prop
  | bool (b : Bool) : VR ρ (.bool b) (.bool b)
  | int (k : IntKind) (n : Int) : VR ρ (.int k n) (.int k n)
  | str (s : List UInt8) : VR ρ (.str s) (.string ⟨s.toArray⟩)
  | nilPtr : VR ρ .nilPtr (.pointer none)
  | ptr (b o : Nat) (e : Ent) : ρ b = some e → VR ρ (.ptr b o) (.pointer (some (e.at o)))
  | nilSlice : VR ρ .nilSlice (.slice none 0 0)
  | slice (b o len cap : Nat) (e : Ent) : ρ b = some e → e.reach o cap = false → VR ρ (.slice b o len cap) (.slice (some (e.at o)) len cap)
  | sliceL (b o len cap cap' : Nat) (e : Ent) (esz n rsz : Nat) : ρ b = some e → e.loose = some (esz, n, rsz) → o + cap * esz = n → len ≤ cap' →
      o + e.sh + cap' * esz ≤ rsz → VR ρ (.slice b o len cap) (.slice (some (e.at o)) len cap')
  | sliceZ (b o cap : Nat) (e : Ent) (a : Addr) : ρ b = some e → (cap = 0 ∨ e.reach o cap = true) → VR ρ (.slice b o 0 cap) (.slice (some a) 0 0)
  | nilMap : VR ρ .nilMap (.map none)
  | func (f : FuncId) (cs : List XV) (ds : List Value) : VRs ρ cs ds → VR ρ (.func f cs) (.func (.func f) #[] ds.toArray)
  | nilFunc : VR ρ .nilFunc .nilFunc
  | iface (t : TypeId) (x : XV) (v : Value) : VR ρ x v → VR ρ (.iface t x) (.iface t v)
  | nilIface : VR ρ .nilIface .nilIface
  | agg (cs : List XV) (ds : List Value) : VRs ρ cs ds → VR ρ (.agg cs) (.agg ds.toArray)
  | tuple (cs : List XV) (ds : List Value) : VRs ρ cs ds → VR ρ (.tuple cs) (.tuple ds.toArray)
inductive VRs (ρ : Emb) : List XV → List Value → Prop
  | nil : VRs ρ [] []
  | cons (x : XV) (v : Value) (xs : List XV) (vs : List Value) : VR ρ x v → VRs ρ xs vs → VRs ρ (x :: xs) (v :: vs)
end

def Emb.le (ρ ρ' : Emb) : Prop := ∀ b e, ρ b = some e → ρ' b = some e
theorem Emb.le_refl (ρ : Emb) : ρ.le ρ := fun _ _ h => h
theorem Emb.le_trans {a b c : Emb} (h : a.le b) (k : b.le c) : a.le c := fun x e hx => k x e (h x e hx)

mutual
theorem VR.mono {ρ ρ' : Emb} (hl : ρ.le ρ') {x : XV} {v : Value} (h : VR ρ x v) : VR ρ' x v := by
  cases h with
  | bool b => exact .bool b
  | int k n => exact .int k n
  | str s => exact .str s
  | nilPtr => exact .nilPtr
  | ptr b o e he => exact .ptr b o e (hl _ _ he)
  | nilSlice => exact .nilSlice
  | slice b o len cap e he hr => exact .slice b o len cap e (hl _ _ he) hr
  | sliceL b o len cap cap' e esz n rsz he h1 h2 h3 h4 => exact .sliceL b o len cap cap' e esz n rsz (hl _ _ he) h1 h2 h3 h4
  | sliceZ b o cap e a he h1 => exact .sliceZ b o cap e a (hl _ _ he) h1
  | nilMap => exact .nilMap
  | func f cs ds hs => exact .func f cs ds (VRs.mono hl hs)
  | nilFunc => exact .nilFunc
  | iface t x v hv => exact .iface t x v (VR.mono hl hv)
  | nilIface => exact .nilIface
  | agg cs ds hs => exact .agg cs ds (VRs.mono hl hs)
  | tuple cs ds hs => exact .tuple cs ds (VRs.mono hl hs)
theorem VRs.mono {ρ ρ' : Emb} (hl : ρ.le ρ') {xs : List XV} {vs : List Value} (h : VRs ρ xs vs) : VRs ρ' xs vs := by
  cases h with
  | nil => exact .nil
  | cons x v xs vs h1 h2 => exact .cons x v xs vs (VR.mono hl h1) (VRs.mono hl h2)
end

/-- every address of a value lies in what is known -/
def Emb.agrees (ρ ρ' : Emb) (S : Nat → Prop) : Prop := ∀ b, S b → ρ b = ρ' b

mutual
/-- what was told under one embedding, and now is told under a wider one, is told so under the first -/
theorem VR.back {ρ ρ' : Emb} (hl : ρ.le ρ') {x : XV} {v u : Value} (h : VR ρ x v) (k : VR ρ' x u) : VR ρ x u := by
  cases h with
  | bool b => cases k; exact .bool b
  | int a n => cases k; exact .int a n
  | str s => cases k; exact .str s
  | nilPtr => cases k; exact .nilPtr
  | ptr b o e he =>
    cases k with
    | ptr _ _ e' he' =>
      have := hl _ _ he
      rw [this] at he'
      cases he'
      exact .ptr b o e he
  | nilSlice => cases k; exact .nilSlice
  | slice b o len cap e he hr =>
    have hb := hl _ _ he
    cases k with
    | slice _ _ _ _ e' he' hr' => rw [hb] at he'; cases he'; exact .slice b o len cap e he hr
    | sliceL _ _ _ _ cap' e' esz n rsz he' h1 h2 h3 h4 => rw [hb] at he'; cases he'; exact .sliceL b o len cap cap' e esz n rsz he h1 h2 h3 h4
    | sliceZ _ _ _ e' a he' h1 => rw [hb] at he'; cases he'; exact .sliceZ b o cap e a he h1
  | sliceL b o len cap cap0 e esz0 n0 rsz0 he q1 q2 q3 q4 =>
    have hb := hl _ _ he
    cases k with
    | slice _ _ _ _ e' he' hr' => rw [hb] at he'; cases he'; exact .slice b o len cap e he hr'
    | sliceL _ _ _ _ cap' e' esz n rsz he' h1 h2 h3 h4 => rw [hb] at he'; cases he'; exact .sliceL b o len cap cap' e esz n rsz he h1 h2 h3 h4
    | sliceZ _ _ _ e' a he' h1 => rw [hb] at he'; cases he'; exact .sliceZ b o cap e a he h1
  | sliceZ b o cap e a he q1 =>
    have hb := hl _ _ he
    cases k with
    | slice _ _ _ _ e' he' hr' => rw [hb] at he'; cases he'; exact .slice b o 0 cap e he hr'
    | sliceL _ _ _ _ cap' e' esz n rsz he' h1 h2 h3 h4 => rw [hb] at he'; cases he'; exact .sliceL b o 0 cap cap' e esz n rsz he h1 h2 h3 h4
    | sliceZ _ _ _ e' a' he' h1 => rw [hb] at he'; cases he'; exact .sliceZ b o cap e a' he h1
  | nilMap => cases k; exact .nilMap
  | func f cs ds hs =>
    cases k with
    | func _ _ ds' hs' => exact .func f cs ds' (VRs.back hl hs hs')
  | nilFunc => cases k; exact .nilFunc
  | iface t x v hv =>
    cases k with
    | iface _ _ v' hv' => exact .iface t x v' (VR.back hl hv hv')
  | nilIface => cases k; exact .nilIface
  | agg cs ds hs =>
    cases k with
    | agg _ ds' hs' => exact .agg cs ds' (VRs.back hl hs hs')
  | tuple cs ds hs =>
    cases k with
    | tuple _ ds' hs' => exact .tuple cs ds' (VRs.back hl hs hs')
theorem VRs.back {ρ ρ' : Emb} (hl : ρ.le ρ') {xs : List XV} {vs us : List Value} (h : VRs ρ xs vs) (k : VRs ρ' xs us) : VRs ρ xs us := by
  cases h with
  | nil => cases k; exact .nil
  | cons x v xs vs h1 h2 =>
    cases k with
    | cons _ u _ us k1 k2 => exact .cons x u xs us (VR.back hl h1 k1) (VRs.back hl h2 k2)
end

mutual
/-- a value without addresses from n on is told so under whatever agrees below n -/
theorem VR.under {ρ ρ' : Emb} {n : Nat} (hl : ∀ b e, b < n → ρ' b = some e → ρ b = some e) {x : XV} {v : Value} (hx : x.under n = true) (h : VR ρ' x v) : VR ρ x v := by
  cases h with
  | bool b => exact .bool b
  | int k n => exact .int k n
  | str s => exact .str s
  | nilPtr => exact .nilPtr
  | ptr b o e he => exact .ptr b o e (hl _ _ (by simpa [XV.under] using hx) he)
  | nilSlice => exact .nilSlice
  | slice b o len cap e he hr => exact .slice b o len cap e (hl _ _ (by simpa [XV.under] using hx) he) hr
  | sliceL b o len cap cap' e esz n rsz he h1 h2 h3 h4 => exact .sliceL b o len cap cap' e esz n rsz (hl _ _ (by simpa [XV.under] using hx) he) h1 h2 h3 h4
  | sliceZ b o cap e a he h1 => exact .sliceZ b o cap e a (hl _ _ (by simpa [XV.under] using hx) he) h1
  | nilMap => exact .nilMap
  | func f cs ds hs => exact .func f cs ds (VRs.under hl (by simpa [XV.under] using hx) hs)
  | nilFunc => exact .nilFunc
  | iface t x v hv => exact .iface t x v (VR.under hl (by simpa [XV.under] using hx) hv)
  | nilIface => exact .nilIface
  | agg cs ds hs => exact .agg cs ds (VRs.under hl (by simpa [XV.under] using hx) hs)
  | tuple cs ds hs => exact .tuple cs ds (VRs.under hl (by simpa [XV.under] using hx) hs)
theorem VRs.under {ρ ρ' : Emb} {n : Nat} (hl : ∀ b e, b < n → ρ' b = some e → ρ b = some e) {xs : List XV} {vs : List Value} (hx : underAll n xs = true) (h : VRs ρ' xs vs) : VRs ρ xs vs := by
  cases h with
  | nil => exact .nil
  | cons x v xs vs h1 h2 =>
    simp only [underAll, Bool.and_eq_true] at hx
    exact .cons x v xs vs (VR.under hl hx.1 h1) (VRs.under hl hx.2 h2)
end

theorem VRs.length {ρ : Emb} : ∀ {xs : List XV} {vs : List Value}, VRs ρ xs vs → xs.length = vs.length
  | _, _, .nil => rfl
  | _, _, .cons _ _ _ _ _ h => by simp [h.length]

theorem VRs.get {ρ : Emb} : ∀ {xs : List XV} {vs : List Value}, VRs ρ xs vs → ∀ {i : Nat} {x : XV}, xs[i]? = some x → ∃ v, vs[i]? = some v ∧ VR ρ x v
  | _, _, .nil, i, x, h => by simp at h
  | _, _, .cons a v xs vs h1 h2, i, x, h => by
    cases i with
    | zero => simp at h; subst h; exact ⟨v, by simp, h1⟩
    | succ i => simp at h; obtain ⟨u, hu, hr⟩ := h2.get h; exact ⟨u, by simpa using hu, hr⟩

theorem VRs.of_get {ρ : Emb} : ∀ {xs : List XV} {vs : List Value}, xs.length = vs.length → (∀ (i : Nat) (x : XV) (v : Value), xs[i]? = some x → vs[i]? = some v → VR ρ x v) → VRs ρ xs vs
  | [], [], _, _ => .nil
  | x :: xs, v :: vs, hl, h => .cons x v xs vs (h 0 x v (by simp) (by simp)) (VRs.of_get (by simpa using hl) (fun i a b ha hb => h (i + 1) a b (by simpa using ha) (by simpa using hb)))
  | [], _ :: _, hl, _ => by simp at hl
  | _ :: _, [], hl, _ => by simp at hl

theorem VRs.append {ρ : Emb} : ∀ {xs : List XV} {vs : List Value} {ys : List XV} {us : List Value}, VRs ρ xs vs → VRs ρ ys us → VRs ρ (xs ++ ys) (vs ++ us)
  | _, _, _, _, .nil, k => k
  | _, _, _, _, .cons x v xs vs h1 h2, k => .cons x v _ _ h1 (h2.append k)

/-- the blocks of the two heaps -/
def BlkR (ρ : Emb) (B : Nat) (w : World) (e : Ent) : XBlk → Prop
  | .cells cs k =>
    (match k with
      | .ro => e.blk < B ∧ e.loose = none
      | .own => B ≤ e.blk ∧ e.loose = none
      | .loose esz => B ≤ e.blk ∧ 0 < esz ∧ ∃ rsz, e.loose = some (esz, cs.length, rsz) ∧ ∀ j, j < rsz → (w.cell? ⟨e.blk, j, none⟩).isSome = true ∧ w.frozen? ⟨e.blk, j, none⟩ = false) ∧
    ∀ o v, cs[o]? = some v → v.live = true → ∃ u, w.cell? (e.at o) = some u ∧ VR ρ v u ∧ (k ≠ .ro → w.frozen? (e.at o) = false)
  | .iter s pos => (B ≤ e.blk ∧ e.sh = 0 ∧ e.loose = none) ∧ w.heap[e.blk]? = some (.stringIter ⟨s.toArray⟩ pos)
  | .gone => True

def XBlk.isRo : XBlk → Bool
  | .cells _ .ro => true
  | _ => false
def XBlk.isGone : XBlk → Bool
  | .gone => true
  | _ => false

structure Rel (B : Nat) (w0 : World) (ρ : Emb) (S : XS) (w : World) : Prop where
  below : Below B w0 w
  Bw : B ≤ w0.heap.size
  dom : ∀ b e, ρ b = some e → b < S.size
  blk : ∀ b e, ρ b = some e → BlkR ρ B w e (S.get b)
  inj : ∀ b b' e e', ρ b = some e → ρ b' = some e' → e.blk = e'.blk → b ≠ b' →
    ((S.get b).isRo = true ∧ (S.get b').isRo = true) ∨ (S.get b).isGone = true ∨ (S.get b').isGone = true
  lt : ∀ b e, ρ b = some e → e.blk < w.heap.size


/-- how a block of the plain heap has gone on, W having been written -/
def BlkFrame (W : List (Nat × Nat)) (b : Nat) : XBlk → XBlk → Prop
  | .cells cs k, .cells cs' k' => k' = k ∧ cs'.length = cs.length ∧ (∀ o : Nat, (b, o) ∉ W → cs'[o]? = cs[o]?) ∧ (∀ o : Nat, cs[o]? = some XV.dead → cs'[o]? = some XV.dead)
  | .cells cs _, .gone => cs ≠ [] ∧ ∀ o, o < cs.length → (b, o) ∈ W
  | .iter s pos, .iter s' pos' => s' = s ∧ ((b, 0) ∉ W → pos' = pos)
  | .gone, .gone => True
  | _, _ => False

theorem BlkFrame.refl (W : List (Nat × Nat)) (b : Nat) (x : XBlk) : BlkFrame W b x x := by
  cases x with
  | cells cs k => exact ⟨rfl, rfl, fun _ _ => rfl, fun _ h => h⟩
  | iter s pos => exact ⟨rfl, fun _ => rfl⟩
  | gone => trivial

theorem BlkFrame.mono {W W' : List (Nat × Nat)} (hW : ∀ p, p ∈ W → p ∈ W') {b : Nat} {x y : XBlk} (h : BlkFrame W b x y) : BlkFrame W' b x y := by
  cases x <;> cases y <;> simp only [BlkFrame] at h ⊢
  · exact ⟨h.1, h.2.1, fun o ho => h.2.2.1 o fun hm => ho (hW _ hm), h.2.2.2⟩
  · exact ⟨h.1, fun o ho => hW _ (h.2 o ho)⟩
  · exact ⟨h.1, fun hm => h.2 fun hq => hm (hW _ hq)⟩

theorem BlkFrame.filter {W W' : List (Nat × Nat)} {b : Nat} (hW : ∀ o, (b, o) ∈ W → (b, o) ∈ W') {x y : XBlk} (h : BlkFrame W b x y) : BlkFrame W' b x y := by
  cases x <;> cases y <;> simp only [BlkFrame] at h ⊢
  · exact ⟨h.1, h.2.1, fun o ho => h.2.2.1 o fun hm => ho (hW _ hm), h.2.2.2⟩
  · exact ⟨h.1, fun o ho => hW _ (h.2 o ho)⟩
  · exact ⟨h.1, fun hm => h.2 fun hq => hm (hW _ hq)⟩

theorem BlkFrame.trans {W1 W2 : List (Nat × Nat)} {b : Nat} {x y z : XBlk} (h : BlkFrame W1 b x y) (k : BlkFrame W2 b y z) : BlkFrame (W2 ++ W1) b x z := by
  cases x <;> cases y <;> simp only [BlkFrame] at h <;> cases z <;> simp only [BlkFrame] at k ⊢
  · refine ⟨k.1.trans h.1, k.2.1.trans h.2.1, fun o ho => ?_, fun o ho => k.2.2.2 o (h.2.2.2 o ho)⟩
    simp only [List.mem_append, not_or] at ho
    exact (k.2.2.1 o ho.1).trans (h.2.2.1 o ho.2)
  · refine ⟨fun hn => ?_, fun o ho => List.mem_append.2 (.inl (k.2 o (by omega)))⟩
    rename_i cs kk cs' kk'
    subst hn
    exact k.1 (List.eq_nil_of_length_eq_zero (by simpa using h.2.1))
  · exact ⟨h.1, fun o ho => List.mem_append.2 (.inr (h.2 o ho))⟩
  · simp only [List.mem_append, not_or]
    exact ⟨k.1.trans h.1, fun hm => (k.2 hm.1).trans (h.2 hm.2)⟩

theorem BlkFrame.gone {W : List (Nat × Nat)} {b : Nat} {x y : XBlk} (h : BlkFrame W b x y) (hx : x.isGone = true) : y.isGone = true := by
  cases x <;> cases y <;> simp_all [BlkFrame, XBlk.isGone]

def SameAt (w w' : World) (r o : Nat) : Prop := w'.cell? ⟨r, o, none⟩ = w.cell? ⟨r, o, none⟩ ∧ w'.frozen? ⟨r, o, none⟩ = w.frozen? ⟨r, o, none⟩
theorem SameAt.refl (w : World) (r o : Nat) : SameAt w w r o := ⟨rfl, rfl⟩
theorem SameAt.trans {a b c : World} {r o : Nat} (h : SameAt a b r o) (k : SameAt b c r o) : SameAt a c r o := ⟨k.1.trans h.1, k.2.trans h.2⟩

/-- a cell that can be written -/
def WOk : XBlk → Nat → Prop
  | .cells cs k, o => o < cs.length ∧ k ≠ .ro
  | .iter _ _, o => o = 0
  | .gone, _ => False

theorem WOk.back {W : List (Nat × Nat)} {b : Nat} {x y : XBlk} (h : BlkFrame W b x y) {o : Nat} (k : WOk y o) : WOk x o := by
  cases x <;> cases y <;> simp only [BlkFrame] at h <;> simp only [WOk] at k ⊢
  · rw [← h.2.1, ← h.1]; exact k
  · exact k

/-- what has come of a state: W: cells below 'base' that were written -/
structure Ev (base : Nat) (ρ : Emb) (S : XS) (w : World) (ρ' : Emb) (S' : XS) (w' : World) (W : List (Nat × Nat)) : Prop where
  ext : ρ.le ρ'
  old : ∀ b e, ρ' b = some e → b < S.size → ρ b = some e
  size : S.size ≤ S'.size
  wsize : w.heap.size ≤ w'.heap.size
  canon : ∀ b, b < base → BlkFrame W b (S.get b) (S'.get b)
  gone : ∀ b, (S.get b).isGone = true → b < S.size → (S'.get b).isGone = true
  wb : ∀ p, p ∈ W → p.1 < base
  new : ∀ b e, ρ' b = some e → base ≤ b → w.heap.size ≤ e.blk ∨ (∃ b0 e0, base ≤ b0 ∧ ρ b0 = some e0 ∧ e0.blk = e.blk) ∨
    (∃ p, p ∈ W ∧ ∃ e0, ρ p.1 = some e0 ∧ e0.blk = e.blk ∧ (S'.get p.1).isGone = true)
  frame : ∀ r o, r < w.heap.size → SameAt w w' r o ∨
    (∃ p, p ∈ W ∧ ∃ e, ρ p.1 = some e ∧ e.blk = r ∧ (o = p.2 + e.sh ∨ (S'.get p.1).isGone = true)) ∨ (∃ b e, base ≤ b ∧ ρ b = some e ∧ e.blk = r)
  frameI : ∀ r, r < w.heap.size → w'.heap[r]? = w.heap[r]? ∨ (∃ p, p ∈ W ∧ ∃ e, ρ p.1 = some e ∧ e.blk = r) ∨ (∃ b e, base ≤ b ∧ ρ b = some e ∧ e.blk = r)
  keep : ∀ r o, (w.cell? ⟨r, o, none⟩).isSome = true → w.frozen? ⟨r, o, none⟩ = false → (w'.cell? ⟨r, o, none⟩).isSome = true ∧ w'.frozen? ⟨r, o, none⟩ = false
  wd : ∀ p, p ∈ W → ∃ e, ρ p.1 = some e
  wl : ∀ p, p ∈ W → WOk (S.get p.1) p.2

theorem Ev.refl {base : Nat} {ρ : Emb} {S : XS} {w : World} : Ev base ρ S w ρ S w [] where
  ext := Emb.le_refl ρ
  old := fun _ _ h _ => h
  size := Nat.le_refl _
  wsize := Nat.le_refl _
  canon := fun b _ => BlkFrame.refl _ _ _
  gone := fun _ h _ => h
  wb := fun p h => by cases h
  new := fun b e h hb => .inr (.inl ⟨b, e, hb, h, rfl⟩)
  frame := fun r o h => .inl (SameAt.refl _ _ _)
  frameI := fun r h => .inl rfl
  keep := fun r o h k => ⟨h, k⟩
  wd := fun p h => by cases h
  wl := fun p h => by cases h

theorem Ev.trans {base : Nat} {ρ1 ρ2 ρ3 : Emb} {S1 S2 S3 : XS} {w1 w2 w3 : World} {W1 W2 : List (Nat × Nat)} (hb : base ≤ S1.size)
    (h : Ev base ρ1 S1 w1 ρ2 S2 w2 W1) (k : Ev base ρ2 S2 w2 ρ3 S3 w3 W2) : Ev base ρ1 S1 w1 ρ3 S3 w3 (W2 ++ W1) := by
  have hg : ∀ p, p ∈ W1 ∨ p ∈ W2 → (S2.get p.1).isGone = true → (S3.get p.1).isGone = true := fun p hp hq => by
    refine k.gone _ hq ?_
    have := h.size
    rcases hp with hp | hp
    · have := h.wb p hp; omega
    · have := k.wb p hp; omega
  have back : ∀ b e, b < base → ρ2 b = some e → ρ1 b = some e := fun b e hlt he => h.old b e he (by omega)
  refine ⟨Emb.le_trans h.ext k.ext, fun b e he hlt => h.old b e (k.old b e he (by have := h.size; omega)) hlt, Nat.le_trans h.size k.size, Nat.le_trans h.wsize k.wsize,
    fun b hlt => (h.canon b hlt).trans (k.canon b hlt), fun b hg hlt => k.gone b (h.gone b hg hlt) (by have := h.size; omega), ?_, ?_, ?_, ?_,
    fun r o q1 q2 => k.keep r o (h.keep r o q1 q2).1 (h.keep r o q1 q2).2, fun p hp => ?_, fun p hp => ?_⟩
  · intro p hp
    rcases List.mem_append.1 hp with hp | hp
    · exact k.wb p hp
    · exact h.wb p hp
  · intro b e he hlt
    rcases k.new b e he hlt with hn | ⟨b0, e0, q1, q2, q3⟩ | ⟨p, hp, e0, q1, q2, q3⟩
    · exact .inl (Nat.le_trans h.wsize hn)
    · rcases h.new b0 e0 q2 q1 with hn | ⟨b1, e1, r1, r2, r3⟩ | ⟨p, hp, e1, r1, r2, r3⟩
      · exact .inl (by omega)
      · exact .inr (.inl ⟨b1, e1, r1, r2, r3.trans q3⟩)
      · exact .inr (.inr ⟨p, List.mem_append.2 (.inr hp), e1, r1, r2.trans q3, hg p (.inl hp) r3⟩)
    · exact .inr (.inr ⟨p, List.mem_append.2 (.inl hp), e0, back _ _ (k.wb p hp) q1, q2, q3⟩)
  · intro r o hr
    have key : ∀ b e, base ≤ b → ρ2 b = some e → e.blk = r → (∃ p, p ∈ W2 ++ W1 ∧ ∃ e, ρ1 p.1 = some e ∧ e.blk = r ∧ (o = p.2 + e.sh ∨ (S3.get p.1).isGone = true)) ∨ (∃ b e, base ≤ b ∧ ρ1 b = some e ∧ e.blk = r) := by
      intro b e q1 q2 q3
      rcases h.new b e q2 q1 with hn | ⟨b1, e1, r1, r2, r3⟩ | ⟨p, hp, e1, r1, r2, r3⟩
      · omega
      · exact .inr ⟨b1, e1, r1, r2, r3.trans q3⟩
      · exact .inl ⟨p, List.mem_append.2 (.inr hp), e1, r1, r2.trans q3, .inr (hg p (.inl hp) r3)⟩
    rcases k.frame r o (by have := h.wsize; omega) with hs2 | ⟨p, hp, e, q1, q2, q3⟩ | ⟨b, e, q1, q2, q3⟩
    · rcases h.frame r o hr with hs1 | ⟨p, hp, e, q1, q2, q3⟩ | ⟨b, e, q1, q2, q3⟩
      · exact .inl (hs1.trans hs2)
      · refine .inr (.inl ⟨p, List.mem_append.2 (.inr hp), e, q1, q2, ?_⟩)
        rcases q3 with q3 | q3
        · exact .inl q3
        · exact .inr (hg p (.inl hp) q3)
      · exact .inr (.inr ⟨b, e, q1, q2, q3⟩)
    · exact .inr (.inl ⟨p, List.mem_append.2 (.inl hp), e, back _ _ (k.wb p hp) q1, q2, q3⟩)
    · exact .inr (key b e q1 q2 q3)
  · intro r hr
    rcases k.frameI r (by have := h.wsize; omega) with hs2 | ⟨p, hp, e, q1, q2⟩ | ⟨b, e, q1, q2, q3⟩
    · rcases h.frameI r hr with hs1 | ⟨p, hp, e, q1, q2⟩ | ⟨b, e, q1, q2, q3⟩
      · exact .inl (hs2.trans hs1)
      · exact .inr (.inl ⟨p, List.mem_append.2 (.inr hp), e, q1, q2⟩)
      · exact .inr (.inr ⟨b, e, q1, q2, q3⟩)
    · exact .inr (.inl ⟨p, List.mem_append.2 (.inl hp), e, back _ _ (k.wb p hp) q1, q2⟩)
    · rcases h.new b e q2 q1 with hn | ⟨b1, e1, r1, r2, r3⟩ | ⟨p, hp, e1, r1, r2, r3⟩
      · omega
      · exact .inr (.inr ⟨b1, e1, r1, r2, r3.trans q3⟩)
      · exact .inr (.inl ⟨p, List.mem_append.2 (.inr hp), e1, r1, r2.trans q3⟩)
  · rcases List.mem_append.1 hp with hp | hp
    · obtain ⟨e, he⟩ := k.wd p hp; exact ⟨e, back _ _ (k.wb p hp) he⟩
    · exact h.wd p hp
  · rcases List.mem_append.1 hp with hp | hp
    · exact (k.wl p hp).back (h.canon p.1 (k.wb p hp))
    · exact h.wl p hp

/-- from a call's own base to its caller's -/
theorem Ev.lower {base base' : Nat} {ρ ρ' : Emb} {S S' : XS} {w w' : World} {W W' : List (Nat × Nat)} (hb : base' ≤ base) (hS : base ≤ S.size)
    (hW : ∀ p, p ∈ W' ↔ p ∈ W ∧ p.1 < base') (h : Ev base ρ S w ρ' S' w' W) : Ev base' ρ S w ρ' S' w' W' where
  ext := h.ext
  old := h.old
  size := h.size
  wsize := h.wsize
  canon := fun b hlt => (h.canon b (by omega)).filter fun o ho => (hW _).2 ⟨ho, hlt⟩
  gone := h.gone
  wb := fun p hp => ((hW p).1 hp).2
  new := fun b e he hlt => by
    rcases Nat.lt_or_ge b base with hq | hq
    · exact .inr (.inl ⟨b, e, hlt, h.old b e he (by omega), rfl⟩)
    · rcases h.new b e he hq with hn | ⟨b0, e0, q1, q2, q3⟩ | ⟨p, hp, e0, q1, q2, q3⟩
      · exact .inl hn
      · exact .inr (.inl ⟨b0, e0, by omega, q2, q3⟩)
      · rcases Nat.lt_or_ge p.1 base' with hl | hl
        · exact .inr (.inr ⟨p, (hW p).2 ⟨hp, hl⟩, e0, q1, q2, q3⟩)
        · exact .inr (.inl ⟨p.1, e0, hl, q1, q2⟩)
  frame := fun r o hr => by
    rcases h.frame r o hr with hs | ⟨p, hp, e, q1, q2, q3⟩ | ⟨b, e, q1, q2, q3⟩
    · exact .inl hs
    · rcases Nat.lt_or_ge p.1 base' with hl | hl
      · exact .inr (.inl ⟨p, (hW p).2 ⟨hp, hl⟩, e, q1, q2, q3⟩)
      · exact .inr (.inr ⟨p.1, e, hl, q1, q2⟩)
    · exact .inr (.inr ⟨b, e, by omega, q2, q3⟩)
  frameI := fun r hr => by
    rcases h.frameI r hr with hs | ⟨p, hp, e, q1, q2⟩ | ⟨b, e, q1, q2, q3⟩
    · exact .inl hs
    · rcases Nat.lt_or_ge p.1 base' with hl | hl
      · exact .inr (.inl ⟨p, (hW p).2 ⟨hp, hl⟩, e, q1, q2⟩)
      · exact .inr (.inr ⟨p.1, e, hl, q1, q2⟩)
    · exact .inr (.inr ⟨b, e, by omega, q2, q3⟩)
  keep := h.keep
  wd := fun p hp => h.wd p ((hW p).1 hp).1
  wl := fun p hp => h.wl p ((hW p).1 hp).1

theorem keep_block {w w' : World} (h : ∀ r, r < w.heap.size → w'.heap[r]? = w.heap[r]?) (r o : Nat) (hc : (w.cell? ⟨r, o, none⟩).isSome = true) (hf : w.frozen? ⟨r, o, none⟩ = false) :
    (w'.cell? ⟨r, o, none⟩).isSome = true ∧ w'.frozen? ⟨r, o, none⟩ = false := by
  have hr : r < w.heap.size := by
    rcases Nat.lt_or_ge r w.heap.size with q | q
    · exact q
    · unfold World.cell? at hc; simp [Array.getElem?_eq_none q] at hc
  unfold World.cell? World.frozen? at *
  rw [h r hr]
  exact ⟨hc, hf⟩

end Go.XM
