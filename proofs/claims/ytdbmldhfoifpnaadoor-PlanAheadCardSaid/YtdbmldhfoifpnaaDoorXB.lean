/- A plain machine beside the model, and that what it tells the model does: part XB. Conditions: those of each theorem below. -/
import Derived.Test.YtdbmldhfoifpnaaDoorXA
import Derived.Below
import Derived.WalkKit
import Derived.Laws.Cells
import Derived.Laws.StructEq
import Derived.Laws.Append
import Derived.Laws.MakeOwn
import Derived.Laws.AppendOwn
namespace Go.XM
set_option linter.unusedVariables false
set_option linter.unusedSimpArgs false
open Go.RowKit
set_option linter.unusedVariables false

theorem elder_get {S S1 : XS} (hle : S.size ≤ S1.size) {b : Nat} (h : b < S.size) (l : List (Nat × Nat)) : XS.get { elderS S S1 with log := l } b = S1.get b := by
  show (if b < S.size then ((S1.heap.drop (S1.size - S.size))[S.size - 1 - b]?).getD .gone else .gone) = (if b < S1.size then (S1.heap[S1.size - 1 - b]?).getD .gone else .gone)
  rw [if_pos h, if_pos (by omega), List.getElem?_drop, show S1.size - S.size + (S.size - 1 - b) = S1.size - 1 - b by omega]
theorem fresh_cells {S S1 : XS} (hle : S.size ≤ S1.size) {b : Nat} {cs : List XV} {k : XKind} (h : (freshS S S1).get b = .cells cs k) : S1.get b = .cells cs k ∧ S.size ≤ b := by
  have h' : (if b < S1.size then ((S1.heap.take (S1.size - S.size) ++ List.replicate S.size XBlk.gone)[S1.size - 1 - b]?).getD .gone else .gone) = XBlk.cells cs k := h
  show (if b < S1.size then (S1.heap[S1.size - 1 - b]?).getD .gone else .gone) = XBlk.cells cs k ∧ S.size ≤ b
  split at h'
  case isFalse => cases h'
  rename_i hb
  rw [if_pos hb]
  rw [List.getElem?_append] at h'
  split at h'
  · rename_i hi
    rw [List.length_take] at hi
    rw [List.getElem?_take, if_pos (by omega)] at h'
    exact ⟨h', by omega⟩
  · rw [List.getElem?_replicate] at h'
    split at h' <;> cases h'

/-- memory that stays as it is: what stands at a place; true: what a caller lent -/
abbrev ZMap := Bool → Nat → Nat → Option Value
def ZMap.le (z z' : ZMap) : Prop := ∀ t r o v, z t r o = some v → z' t r o = some v
theorem ZMap.le_refl (z : ZMap) : z.le z := fun _ _ _ _ h => h
theorem ZMap.le_trans {a b c : ZMap} (h : a.le b) (k : b.le c) : a.le c := fun t r o v q => k t r o v (h t r o v q)
def zcut (t : Bool) (z : ZMap) : ZMap := fun t' => if t then z t' else z false
theorem zcut_le {z z' : ZMap} (h : z.le z') (t : Bool) : (zcut t z).le (zcut t z') := fun t' r o v q => by
  unfold zcut at q ⊢
  cases t with
  | true => exact h _ _ _ _ q
  | false => exact h _ _ _ _ q

/-- where a block of the plain heap lies: the real block, the shift; of a loose one: element size, elements, cells of the real block -/
structure Ent where
  blk : Nat
  sh : Nat
  loose : Option (Nat × Nat × Nat)

structure Emb where
  m : Nat → Option Ent
  z : ZMap
instance : CoeFun Emb (fun _ => Nat → Option Ent) := ⟨Emb.m⟩

def Ent.at (e : Ent) (o : Nat) : Addr := ⟨e.blk, o + e.sh, none⟩

def oneLive (cs : List XV) : Prop := ∀ v, v ∈ cs → v.live = true → v.oneCell = true

mutual
/-- plain data: what it reads, in memory that stays as it is -/
inductive DR : ZMap → XV → Value → Prop
  | bool (z : ZMap) (b : Bool) : DR z (.bool b) (.bool b)
  | int (z : ZMap) (k : IntKind) (n : Int) : DR z (.int k n) (.int k n)
  | str (z : ZMap) (s : List UInt8) : DR z (.str s) (.string ⟨s.toArray⟩)
  | nilPtr (z : ZMap) : DR z .nilPtr (.pointer none)
  | nilSlice (z : ZMap) : DR z .nilSlice (.slice none 0 0)
  | nilMap (z : ZMap) : DR z .nilMap (.map none)
  | nilFunc (z : ZMap) : DR z .nilFunc .nilFunc
  | nilIface (z : ZMap) : DR z .nilIface .nilIface
  | row (z : ZMap) (t m : Bool) (cs : List XV) (len : Nat) (us : List Value) (a : Addr) (cap : Nat) : DLs (zcut t z) cs us → (∀ i u, us[i]? = some u → z t a.block (a.off + i) = some u) →
      (len = 0 ∨ a.spot = none) → len ≤ cap → (m = true → cap = len) → oneLive cs → DR z (.row t m cs len) (.slice (some a) len cap)
  | rowNil (z : ZMap) (t m : Bool) : DR z (.row t m [] 0) (.slice none 0 0)
  | rptr (z : ZMap) (t : Bool) (cs : List XV) (o : Nat) (us : List Value) (r off : Nat) : DLs (zcut t z) cs us → (∀ i u, us[i]? = some u → z t r (off + i) = some u) →
      DR z (.rptr t cs o) (.pointer (some ⟨r, o + off, none⟩))
  | func (z : ZMap) (f : FuncId) (cs : List XV) (ds : List Value) : DRs z cs ds → DR z (.func f cs) (.func (.func f) #[] ds.toArray)
  | iface (z : ZMap) (t : TypeId) (x : XV) (v : Value) : DR z x v → DR z (.iface t x) (.iface t v)
  | agg (z : ZMap) (cs : List XV) (ds : List Value) : DRs z cs ds → DR z (.agg cs) (.agg ds.toArray)
  | tuple (z : ZMap) (cs : List XV) (ds : List Value) : DRs z cs ds → DR z (.tuple cs) (.tuple ds.toArray)
inductive DRs : ZMap → List XV → List Value → Prop
  | nil (z : ZMap) : DRs z [] []
  | cons (z : ZMap) (x : XV) (v : Value) (xs : List XV) (vs : List Value) : DR z x v → DRs z xs vs → DRs z (x :: xs) (v :: vs)
inductive DLs : ZMap → List XV → List Value → Prop
  | nil (z : ZMap) : DLs z [] []
  | cons (z : ZMap) (x : XV) (v : Value) (xs : List XV) (vs : List Value) : DR z x v → DLs z xs vs → DLs z (x :: xs) (v :: vs)
  | dead (z : ZMap) (v : Value) (xs : List XV) (vs : List Value) : DLs z xs vs → DLs z (.dead :: xs) (v :: vs)
end

mutual
theorem DR.mono {z z' : ZMap} (hl : z.le z') {x : XV} {v : Value} (h : DR z x v) : DR z' x v := by
  cases h with
  | bool _ b => exact .bool _ b
  | int _ k n => exact .int _ k n
  | str _ s => exact .str _ s
  | nilPtr _ => exact .nilPtr _
  | nilSlice _ => exact .nilSlice _
  | nilMap _ => exact .nilMap _
  | nilFunc _ => exact .nilFunc _
  | nilIface _ => exact .nilIface _
  | row _ t m cs len us a cap h1 h2 h3 h4 h5 h6 => exact .row _ t m cs len us a cap (DLs.mono (zcut_le hl t) h1) (fun i u q => hl _ _ _ _ (h2 i u q)) h3 h4 h5 h6
  | rowNil _ t m => exact .rowNil _ t m
  | rptr _ t cs o us r off h1 h2 => exact .rptr _ t cs o us r off (DLs.mono (zcut_le hl t) h1) (fun i u q => hl _ _ _ _ (h2 i u q))
  | func _ f cs ds h1 => exact .func _ f cs ds (DRs.mono hl h1)
  | iface _ t x v h1 => exact .iface _ t x v (DR.mono hl h1)
  | agg _ cs ds h1 => exact .agg _ cs ds (DRs.mono hl h1)
  | tuple _ cs ds h1 => exact .tuple _ cs ds (DRs.mono hl h1)
theorem DRs.mono {z z' : ZMap} (hl : z.le z') {xs : List XV} {vs : List Value} (h : DRs z xs vs) : DRs z' xs vs := by
  cases h with
  | nil _ => exact .nil _
  | cons _ x v xs vs h1 h2 => exact .cons _ x v xs vs (DR.mono hl h1) (DRs.mono hl h2)
theorem DLs.mono {z z' : ZMap} (hl : z.le z') {xs : List XV} {vs : List Value} (h : DLs z xs vs) : DLs z' xs vs := by
  cases h with
  | nil _ => exact .nil _
  | cons _ x v xs vs h1 h2 => exact .cons _ x v xs vs (DR.mono hl h1) (DLs.mono hl h2)
  | dead _ v xs vs h1 => exact .dead _ v xs vs (DLs.mono hl h1)
end

mutual
/-- what was lent to nobody is told by the lasting memory alone -/
theorem DR.lasts : ∀ {z : ZMap} {x : XV} {v : Value}, DR z x v → ∀ {z' : ZMap}, (∀ r o v, z false r o = some v → z' false r o = some v) → x.lent = false → DR z' x v
  | _, _, _, .bool _ b, _, hl, hx => .bool _ b
  | _, _, _, .int _ k n, _, hl, hx => .int _ k n
  | _, _, _, .str _ s, _, hl, hx => .str _ s
  | _, _, _, .nilPtr _, _, hl, hx => .nilPtr _
  | _, _, _, .nilSlice _, _, hl, hx => .nilSlice _
  | _, _, _, .nilMap _, _, hl, hx => .nilMap _
  | _, _, _, .nilFunc _, _, hl, hx => .nilFunc _
  | _, _, _, .nilIface _, _, hl, hx => .nilIface _
  | _, _, _, .row _ t m cs len us a cap h1 h2 h3 h4 h5 h6, _, hl, hx => by
    simp only [XV.lent] at hx
    subst hx
    exact .row _ false m cs len us a cap (h1.mono fun t' r o v q => hl _ _ _ q) (fun i u q => hl _ _ _ (h2 i u q)) h3 h4 h5 h6
  | _, _, _, .rowNil _ t m, _, hl, hx => .rowNil _ t m
  | _, _, _, .rptr _ t cs o us r off h1 h2, _, hl, hx => by
    simp only [XV.lent] at hx
    subst hx
    exact .rptr _ false cs o us r off (h1.mono fun t' r o v q => hl _ _ _ q) (fun i u q => hl _ _ _ (h2 i u q))
  | _, _, _, .func _ f cs ds h1, _, hl, hx => .func _ f cs ds (DRs.lasts h1 hl (by simpa [XV.lent] using hx))
  | _, _, _, .iface _ t x v h1, _, hl, hx => .iface _ t x v (DR.lasts h1 hl (by simpa [XV.lent] using hx))
  | _, _, _, .agg _ cs ds h1, _, hl, hx => .agg _ cs ds (DRs.lasts h1 hl (by simpa [XV.lent] using hx))
  | _, _, _, .tuple _ cs ds h1, _, hl, hx => .tuple _ cs ds (DRs.lasts h1 hl (by simpa [XV.lent] using hx))
theorem DRs.lasts : ∀ {z : ZMap} {xs : List XV} {vs : List Value}, DRs z xs vs → ∀ {z' : ZMap}, (∀ r o v, z false r o = some v → z' false r o = some v) → lentAny xs = false → DRs z' xs vs
  | _, _, _, .nil _, _, hl, hx => .nil _
  | _, _, _, .cons _ x v xs vs h1 h2, _, hl, hx => by
    simp only [lentAny, Bool.or_eq_false_iff] at hx
    exact .cons _ x v xs vs (DR.lasts h1 hl hx.1) (DRs.lasts h2 hl hx.2)
end

mutual
inductive VR (ρ : Emb) : XV → Value → Prop
  | bool (b : Bool) : VR ρ (.bool b) (.bool b)
  | int (k : IntKind) (n : Int) : VR ρ (.int k n) (.int k n)
  | str (s : List UInt8) : VR ρ (.str s) (.string ⟨s.toArray⟩)
  | nilPtr : VR ρ .nilPtr (.pointer none)
  | ptr (b o : Nat) (e : Ent) : ρ b = some e → VR ρ (.ptr b o) (.pointer (some (e.at o)))
  | nilSlice : VR ρ .nilSlice (.slice none 0 0)
  | slice (b o len cap : Nat) (e : Ent) : ρ b = some e → len ≤ cap → VR ρ (.slice b o len cap) (.slice (some (e.at o)) len cap)
  | sliceZ (b o : Nat) (e : Ent) (a : Addr) : ρ b = some e → VR ρ (.slice b o 0 0) (.slice (some a) 0 0)
  | sl (b cap' : Nat) (e : Ent) (esz n rsz : Nat) : ρ b = some e → e.loose = some (esz, n, rsz) → n ≤ cap' → e.sh + cap' * esz ≤ rsz → VR ρ (.sl b) (.slice (some (e.at 0)) n cap')
  | part (b o len cap' : Nat) (e : Ent) : ρ b = some e → len ≤ cap' → VR ρ (.part b o len) (.slice (some (e.at o)) len cap')
  | partZ (b o cap' : Nat) (e : Ent) (a : Addr) : ρ b = some e → VR ρ (.part b o 0) (.slice (some a) 0 cap')
  | row (t m : Bool) (cs : List XV) (len : Nat) (u : Value) : DR ρ.z (.row t m cs len) u → VR ρ (.row t m cs len) u
  | rptr (t : Bool) (cs : List XV) (o : Nat) (u : Value) : DR ρ.z (.rptr t cs o) u → VR ρ (.rptr t cs o) u
  | nilMap : VR ρ .nilMap (.map none)
  | func (f : FuncId) (cs : List XV) (ds : List Value) : VRs ρ cs ds → VR ρ (.func f cs) (.func (.func f) #[] ds.toArray)
  | nilFunc : VR ρ .nilFunc .nilFunc
  | iface (t : TypeId) (x : XV) (v : Value) : VR ρ x v → VR ρ (.iface t x) (.iface t v)
  | nilIface : VR ρ .nilIface .nilIface
  | agg (cs : List XV) (ds : List Value) : VRs ρ cs ds → VR ρ (.agg cs) (.agg ds.toArray)
  | tuple (cs : List XV) (ds : List Value) : VRs ρ cs ds → VR ρ (.tuple cs) (.tuple ds.toArray)
inductive VRs (ρ : Emb) : List XV → List Value → Prop
  | nil : VRs ρ [] []
  | cons (x : XV) (v : Value) (xs : List XV) (vs : List Value) : VR ρ x v → VRs ρ xs vs → VRs ρ (x :: xs) (v :: vs)
end

/-- a wider embedding -/
structure Emb.le (ρ ρ' : Emb) : Prop where
  m : ∀ b e, ρ b = some e → ρ' b = some e
  z : ρ.z.le ρ'.z
theorem Emb.le_refl (ρ : Emb) : ρ.le ρ := ⟨fun _ _ h => h, ZMap.le_refl _⟩
theorem Emb.le_trans {a b c : Emb} (h : a.le b) (k : b.le c) : a.le c := ⟨fun x e hx => k.m x e (h.m x e hx), ZMap.le_trans h.z k.z⟩

mutual
theorem VR.mono {ρ ρ' : Emb} (hl : ρ.le ρ') {x : XV} {v : Value} (h : VR ρ x v) : VR ρ' x v := by
  cases h with
  | bool b => exact .bool b
  | int k n => exact .int k n
  | str s => exact .str s
  | nilPtr => exact .nilPtr
  | ptr b o e he => exact .ptr b o e (hl.m _ _ he)
  | nilSlice => exact .nilSlice
  | slice b o len cap e he hlc => exact .slice b o len cap e (hl.m _ _ he) hlc
  | sliceZ b o e a he => exact .sliceZ b o e a (hl.m _ _ he)
  | sl b cap' e esz n rsz he h1 h2 h3 => exact .sl b cap' e esz n rsz (hl.m _ _ he) h1 h2 h3
  | part b o len cap' e he h1 => exact .part b o len cap' e (hl.m _ _ he) h1
  | partZ b o cap' e a he => exact .partZ b o cap' e a (hl.m _ _ he)
  | row t m cs len u h1 => exact .row t m cs len _ (h1.mono hl.z)
  | rptr t cs o u h1 => exact .rptr t cs o _ (h1.mono hl.z)
  | nilMap => exact .nilMap
  | func f cs ds hs => exact .func f cs ds (VRs.mono hl hs)
  | nilFunc => exact .nilFunc
  | iface t x v hv => exact .iface t x v (VR.mono hl hv)
  | nilIface => exact .nilIface
  | agg cs ds hs => exact .agg cs ds (VRs.mono hl hs)
  | tuple cs ds hs => exact .tuple cs ds (VRs.mono hl hs)
theorem VRs.mono {ρ ρ' : Emb} (hl : ρ.le ρ') {xs : List XV} {vs : List Value} (h : VRs ρ xs vs) : VRs ρ' xs vs := by
  cases h with
  | nil => exact .nil
  | cons x v xs vs h1 h2 => exact .cons x v xs vs (VR.mono hl h1) (VRs.mono hl h2)
end

mutual
/-- a value without addresses from n on is told so under whatever agrees below n -/
theorem VR.under {ρ ρ' : Emb} {n : Nat} (hl : ∀ b e, b < n → ρ' b = some e → ρ b = some e) (hz : ρ'.z.le ρ.z) {x : XV} {v : Value} (hx : x.under n = true) (h : VR ρ' x v) : VR ρ x v := by
  cases h with
  | bool b => exact .bool b
  | int k n => exact .int k n
  | str s => exact .str s
  | nilPtr => exact .nilPtr
  | ptr b o e he => exact .ptr b o e (hl _ _ (by simpa [XV.under] using hx) he)
  | nilSlice => exact .nilSlice
  | slice b o len cap e he hlc => exact .slice b o len cap e (hl _ _ (by simpa [XV.under] using hx) he) hlc
  | sliceZ b o e a he => exact .sliceZ b o e a (hl _ _ (by simpa [XV.under] using hx) he)
  | sl b cap' e esz n rsz he h1 h2 h3 => exact .sl b cap' e esz n rsz (hl _ _ (by simpa [XV.under] using hx) he) h1 h2 h3
  | part b o len cap' e he h1 => exact .part b o len cap' e (hl _ _ (by simpa [XV.under] using hx) he) h1
  | partZ b o cap' e a he => exact .partZ b o cap' e a (hl _ _ (by simpa [XV.under] using hx) he)
  | row t m cs len u h1 => exact .row t m cs len _ (h1.mono hz)
  | rptr t cs o u h1 => exact .rptr t cs o _ (h1.mono hz)
  | nilMap => exact .nilMap
  | func f cs ds hs => exact .func f cs ds (VRs.under hl hz (by simpa [XV.under] using hx) hs)
  | nilFunc => exact .nilFunc
  | iface t x v hv => exact .iface t x v (VR.under hl hz (by simpa [XV.under] using hx) hv)
  | nilIface => exact .nilIface
  | agg cs ds hs => exact .agg cs ds (VRs.under hl hz (by simpa [XV.under] using hx) hs)
  | tuple cs ds hs => exact .tuple cs ds (VRs.under hl hz (by simpa [XV.under] using hx) hs)
theorem VRs.under {ρ ρ' : Emb} {n : Nat} (hl : ∀ b e, b < n → ρ' b = some e → ρ b = some e) (hz : ρ'.z.le ρ.z) {xs : List XV} {vs : List Value} (hx : underAll n xs = true) (h : VRs ρ' xs vs) : VRs ρ xs vs := by
  cases h with
  | nil => exact .nil
  | cons x v xs vs h1 h2 =>
    simp only [underAll, Bool.and_eq_true] at hx
    exact .cons x v xs vs (VR.under hl hz hx.1 h1) (VRs.under hl hz hx.2 h2)
end

mutual
/-- a value without addresses is plain data -/
theorem VR.plain {ρ : Emb} {x : XV} {v : Value} (hx : x.under 0 = true) (h : VR ρ x v) : DR ρ.z x v := by
  cases h with
  | bool b => exact .bool _ b
  | int k n => exact .int _ k n
  | str s => exact .str _ s
  | nilPtr => exact .nilPtr _
  | ptr b o e he => simp [XV.under] at hx
  | nilSlice => exact .nilSlice _
  | slice b o len cap e he hlc => simp [XV.under] at hx
  | sliceZ b o e a he => simp [XV.under] at hx
  | sl b cap' e esz n rsz he h1 h2 h3 => simp [XV.under] at hx
  | part b o len cap' e he h1 => simp [XV.under] at hx
  | partZ b o cap' e a he => simp [XV.under] at hx
  | row t m cs len u h1 => exact h1
  | rptr t cs o u h1 => exact h1
  | nilMap => exact .nilMap _
  | func f cs ds hs => exact .func _ f cs ds (VRs.plain (by simpa [XV.under] using hx) hs)
  | nilFunc => exact .nilFunc _
  | iface t x v hv => exact .iface _ t x v (VR.plain (by simpa [XV.under] using hx) hv)
  | nilIface => exact .nilIface _
  | agg cs ds hs => exact .agg _ cs ds (VRs.plain (by simpa [XV.under] using hx) hs)
  | tuple cs ds hs => exact .tuple _ cs ds (VRs.plain (by simpa [XV.under] using hx) hs)
theorem VRs.plain {ρ : Emb} {xs : List XV} {vs : List Value} (hx : underAll 0 xs = true) (h : VRs ρ xs vs) : DRs ρ.z xs vs := by
  cases h with
  | nil => exact .nil _
  | cons x v xs vs h1 h2 =>
    simp only [underAll, Bool.and_eq_true] at hx
    exact .cons _ x v xs vs (VR.plain hx.1 h1) (VRs.plain hx.2 h2)
end

mutual
theorem DR.vr {ρ : Emb} {x : XV} {v : Value} (h : DR ρ.z x v) : VR ρ x v := by
  cases h with
  | bool _ b => exact .bool b
  | int _ k n => exact .int k n
  | str _ s => exact .str s
  | nilPtr _ => exact .nilPtr
  | nilSlice _ => exact .nilSlice
  | nilMap _ => exact .nilMap
  | nilFunc _ => exact .nilFunc
  | nilIface _ => exact .nilIface
  | row _ t m cs len us a cap h1 h2 h3 h4 h5 h6 => exact .row _ _ _ _ _ (.row _ t m cs len us a cap h1 h2 h3 h4 h5 h6)
  | rowNil _ t m => exact .row _ _ _ _ _ (.rowNil _ t m)
  | rptr _ t cs o us r off h1 h2 => exact .rptr _ _ _ _ (.rptr _ t cs o us r off h1 h2)
  | func _ f cs ds h1 => exact .func f cs ds (DRs.vr h1)
  | iface _ t x v h1 => exact .iface t x v (DR.vr h1)
  | agg _ cs ds h1 => exact .agg cs ds (DRs.vr h1)
  | tuple _ cs ds h1 => exact .tuple cs ds (DRs.vr h1)
theorem DRs.vr {ρ : Emb} {xs : List XV} {vs : List Value} (h : DRs ρ.z xs vs) : VRs ρ xs vs := by
  cases h with
  | nil _ => exact .nil
  | cons _ x v xs vs h1 h2 => exact .cons x v xs vs (DR.vr h1) (DRs.vr h2)
end

mutual
theorem DR.plain : ∀ {z : ZMap} {x : XV} {v : Value}, DR z x v → x.under 0 = true
  | _, _, _, .bool _ b => rfl
  | _, _, _, .int _ k n => rfl
  | _, _, _, .str _ s => rfl
  | _, _, _, .nilPtr _ => rfl
  | _, _, _, .nilSlice _ => rfl
  | _, _, _, .nilMap _ => rfl
  | _, _, _, .nilFunc _ => rfl
  | _, _, _, .nilIface _ => rfl
  | _, _, _, .row _ t m cs len us a cap h1 h2 h3 h4 h5 h6 => rfl
  | _, _, _, .rowNil _ t m => rfl
  | _, _, _, .rptr _ t cs o us r off h1 h2 => rfl
  | _, _, _, .func _ f cs ds h1 => by simpa [XV.under] using DRs.plain h1
  | _, _, _, .iface _ t x v h1 => by simpa [XV.under] using DR.plain h1
  | _, _, _, .agg _ cs ds h1 => by simpa [XV.under] using DRs.plain h1
  | _, _, _, .tuple _ cs ds h1 => by simpa [XV.under] using DRs.plain h1
theorem DRs.plain : ∀ {z : ZMap} {xs : List XV} {vs : List Value}, DRs z xs vs → underAll 0 xs = true
  | _, _, _, .nil _ => rfl
  | _, _, _, .cons _ x v xs vs h1 h2 => by simp only [underAll, Bool.and_eq_true]; exact ⟨DR.plain h1, DRs.plain h2⟩
end

theorem DLs.length {z : ZMap} : ∀ {xs : List XV} {vs : List Value}, DLs z xs vs → xs.length = vs.length
  | _, _, .nil _ => rfl
  | _, _, .cons _ _ _ _ _ _ h => by simp [h.length]
  | _, _, .dead _ _ _ _ h => by simp [h.length]

theorem DLs.get {z : ZMap} : ∀ {xs : List XV} {vs : List Value}, DLs z xs vs → ∀ {i : Nat} {x : XV}, xs[i]? = some x → x.live = true → ∃ v, vs[i]? = some v ∧ DR z x v
  | _, _, .nil _, i, x, h, _ => by simp at h
  | _, _, .cons _ a v xs vs h1 h2, i, x, h, hl => by
    cases i with
    | zero => simp at h; subst h; exact ⟨v, by simp, h1⟩
    | succ i => simp at h; obtain ⟨u, hu, hr⟩ := h2.get h hl; exact ⟨u, by simpa using hu, hr⟩
  | _, _, .dead _ v xs vs h2, i, x, h, hl => by
    cases i with
    | zero => simp at h; subst h; cases hl
    | succ i => simp at h; obtain ⟨u, hu, hr⟩ := h2.get h hl; exact ⟨u, by simpa using hu, hr⟩

theorem DLs.of_get {z : ZMap} : ∀ {xs : List XV} {vs : List Value}, xs.length = vs.length → (∀ (i : Nat) (x : XV) (v : Value), xs[i]? = some x → vs[i]? = some v → x.live = true → DR z x v) → DLs z xs vs
  | [], [], _, _ => .nil _
  | x :: xs, v :: vs, hl, h => by
    have ih := DLs.of_get (z := z) (xs := xs) (vs := vs) (by simpa using hl) (fun i a b ha hb => h (i + 1) a b (by simpa using ha) (by simpa using hb))
    cases hx : x.live with
    | true => exact .cons _ _ _ _ _ (h 0 x v (by simp) (by simp) hx) ih
    | false =>
      have : x = .dead := by cases x <;> simp [XV.live] at hx ⊢
      subst this
      exact .dead _ _ _ _ ih
  | [], _ :: _, hl, _ => by simp at hl
  | _ :: _, [], hl, _ => by simp at hl

theorem DLs.cut {z : ZMap} {xs : List XV} {vs : List Value} (h : DLs z xs vs) (a b : Nat) : DLs z ((xs.drop a).take b) ((vs.drop a).take b) := by
  have hl := h.length
  refine DLs.of_get (by simp [hl]) fun i x v hx hv hlv => ?_
  by_cases q : i < b
  · rw [List.getElem?_take_of_lt q, List.getElem?_drop] at hx hv
    obtain ⟨u, hu, hr⟩ := h.get hx hlv
    rw [hv] at hu
    injection hu with hu
    subst hu
    exact hr
  · rw [List.getElem?_eq_none (by simp; omega)] at hx
    cases hx

/-- rows: what lives of them is told -/
def VLs (ρ : Emb) (xs : List XV) (vs : List Value) : Prop := xs.length = vs.length ∧ ∀ (i : Nat) (x : XV) (v : Value), xs[i]? = some x → vs[i]? = some v → x.live = true → VR ρ x v

/-- what lasts is among what is lent -/
def ZMap.ok (z : ZMap) : Prop := ∀ r o v, z false r o = some v → z true r o = some v
theorem ZMap.ok.cut {z : ZMap} (h : z.ok) (t : Bool) : (zcut t z).le z := fun t' r o v q => by
  unfold zcut at q
  cases t with
  | true => exact q
  | false => cases t' with
    | true => exact h _ _ _ q
    | false => exact q

theorem DLs.vls {ρ : Emb} (hz : ρ.z.ok) {xs : List XV} {vs : List Value} {t : Bool} (h : DLs (zcut t ρ.z) xs vs) : VLs ρ xs vs :=
  ⟨h.length, fun i x v hx hv hl => by
    obtain ⟨u, hu, hr⟩ := h.get hx hl
    rw [hv] at hu
    injection hu with hu
    subst hu
    exact DR.vr (hr.mono (hz.cut t))⟩


theorem VRs.length {ρ : Emb} : ∀ {xs : List XV} {vs : List Value}, VRs ρ xs vs → xs.length = vs.length
  | _, _, .nil => rfl
  | _, _, .cons _ _ _ _ _ h => by simp [h.length]

theorem VRs.get {ρ : Emb} : ∀ {xs : List XV} {vs : List Value}, VRs ρ xs vs → ∀ {i : Nat} {x : XV}, xs[i]? = some x → ∃ v, vs[i]? = some v ∧ VR ρ x v
  | _, _, .nil, i, x, h => by simp at h
  | _, _, .cons a v xs vs h1 h2, i, x, h => by
    cases i with
    | zero => simp at h; subst h; exact ⟨v, by simp, h1⟩
    | succ i => simp at h; obtain ⟨u, hu, hr⟩ := h2.get h; exact ⟨u, by simpa using hu, hr⟩

theorem VRs.of_get {ρ : Emb} : ∀ {xs : List XV} {vs : List Value}, xs.length = vs.length → (∀ (i : Nat) (x : XV) (v : Value), xs[i]? = some x → vs[i]? = some v → VR ρ x v) → VRs ρ xs vs
  | [], [], _, _ => .nil
  | x :: xs, v :: vs, hl, h => .cons x v xs vs (h 0 x v (by simp) (by simp)) (VRs.of_get (by simpa using hl) (fun i a b ha hb => h (i + 1) a b (by simpa using ha) (by simpa using hb)))
  | [], _ :: _, hl, _ => by simp at hl
  | _ :: _, [], hl, _ => by simp at hl

theorem VRs.append {ρ : Emb} : ∀ {xs : List XV} {vs : List Value} {ys : List XV} {us : List Value}, VRs ρ xs vs → VRs ρ ys us → VRs ρ (xs ++ ys) (vs ++ us)
  | _, _, _, _, .nil, k => k
  | _, _, _, _, .cons x v xs vs h1 h2, k => .cons x v _ _ h1 (h2.append k)

/-- plain cells alone -/
def Flat (cs : List XV) : Prop := ∀ v, v ∈ cs → v.live = true → v.oneCell = true ∧ v.under 0 = true
theorem Flat.one {cs : List XV} (h : Flat cs) : oneLive cs := fun v hv hl => (h v hv hl).1
theorem Flat.append {cs ds : List XV} (h : Flat cs) (k : Flat ds) : Flat (cs ++ ds) := fun v hv hl => by
  rcases List.mem_append.1 hv with q | q
  · exact h v q hl
  · exact k v q hl
theorem Flat.set {cs : List XV} (h : Flat cs) (o : Nat) {v : XV} (h1 : v.oneCell = true) (h2 : v.under 0 = true) : Flat (cs.set o v) := fun x hx hl => by
  rcases List.mem_or_eq_of_mem_set hx with q | q
  · exact h x q hl
  · subst q; exact ⟨h1, h2⟩

/-- the blocks of the two heaps -/
def BlkR (ρ : Emb) (B : Nat) (w : World) (e : Ent) : XBlk → Prop
  | .cells cs k =>
    (match k with
      | .ro => e.blk < B ∧ e.loose = none
      | .own => B ≤ e.blk ∧ e.loose = none
      | .arr esz => (B ≤ e.blk ∧ e.loose = none) ∧ 0 < esz ∧ Flat cs ∧ ∀ j, j < cs.length → (w.cell? (e.at j)).isSome = true ∧ w.frozen? (e.at j) = false
      | .loose esz n => B ≤ e.blk ∧ 0 < esz ∧ cs.length = n * esz ∧ Flat cs ∧ ∃ rsz, e.loose = some (esz, n, rsz) ∧ e.sh + n * esz ≤ rsz ∧ ∀ j, j < rsz → (w.cell? ⟨e.blk, j, none⟩).isSome = true ∧ w.frozen? ⟨e.blk, j, none⟩ = false) ∧
    ∀ o v, cs[o]? = some v → v.live = true → ∃ u, w.cell? (e.at o) = some u ∧ VR ρ v u ∧ (k ≠ .ro → w.frozen? (e.at o) = false)
  | .iter s pos => (B ≤ e.blk ∧ e.sh = 0 ∧ e.loose = none) ∧ w.heap[e.blk]? = some (.stringIter ⟨s.toArray⟩ pos)
  | .gone => True

def XBlk.isRo : XBlk → Bool
  | .cells _ .ro => true
  | _ => false
def XBlk.isGone : XBlk → Bool
  | .gone => true
  | _ => false

/-- memory that stays as it is -/
structure Froz (B : Nat) (ρ : Emb) (w : World) : Prop where
  ok : ρ.z.ok
  zc : ∀ t r o v, ρ.z t r o = some v → w.cell? ⟨r, o, none⟩ = some v
  zd : ∀ b e, ρ b = some e → B ≤ e.blk → ∀ t o, ρ.z t e.blk o = none

structure Rel (B : Nat) (w0 : World) (ρ : Emb) (S : XS) (w : World) : Prop where
  below : Below B w0 w
  Bw : B ≤ w0.heap.size
  dom : ∀ b e, ρ b = some e → b < S.size
  blk : ∀ b e, ρ b = some e → BlkR ρ B w e (S.get b)
  inj : ∀ b b' e e', ρ b = some e → ρ b' = some e' → e.blk = e'.blk → b ≠ b' →
    ((S.get b).isRo = true ∧ (S.get b').isRo = true) ∨ (S.get b).isGone = true ∨ (S.get b').isGone = true
  lt : ∀ b e, ρ b = some e → e.blk < w.heap.size
  fz : Froz B ρ w

theorem cell_lt {w : World} {r o : Nat} {v : Value} (h : w.cell? ⟨r, o, none⟩ = some v) : r < w.heap.size := by
  rcases Nat.lt_or_ge r w.heap.size with q | q
  · exact q
  · unfold World.cell? at h; simp [Array.getElem?_eq_none q] at h

theorem Froz.lt {B : Nat} {ρ : Emb} {w : World} (h : Froz B ρ w) {t : Bool} {r o : Nat} {v : Value} (q : ρ.z t r o = some v) : r < w.heap.size := cell_lt (h.zc _ _ _ _ q)

/-- the same memory stays as it is, elsewhere -/
theorem Froz.keep {B : Nat} {ρ : Emb} {w w' : World} (h : Froz B ρ w) (hc : ∀ t r o v, ρ.z t r o = some v → w'.cell? ⟨r, o, none⟩ = w.cell? ⟨r, o, none⟩) : Froz B ρ w' :=
  ⟨h.ok, fun t r o v q => (hc t r o v q).trans (h.zc t r o v q), h.zd⟩
theorem Froz.block {B : Nat} {ρ : Emb} {w w' : World} (h : Froz B ρ w) (hc : ∀ r, r < w.heap.size → w'.heap[r]? = w.heap[r]?) : Froz B ρ w' :=
  h.keep fun t r o v q => World.cell?_of_block (w := w) (a := ⟨r, o, none⟩) (hc r (h.lt q))
/-- all but one block of our own -/
theorem Froz.but {B : Nat} {ρ : Emb} {w w' : World} (h : Froz B ρ w) {b : Nat} {e : Ent} (he : ρ b = some e) (hB : B ≤ e.blk) (hc : ∀ r, r ≠ e.blk → w'.heap[r]? = w.heap[r]?) : Froz B ρ w' :=
  h.keep fun t r o v q => by
    refine World.cell?_of_block (w := w) (a := ⟨r, o, none⟩) (hc r ?_)
    rintro rfl
    have := h.zd b e he hB t o
    rw [this] at q
    cases q

theorem room_len {k : XKind} {cs ds : List XV} (h : cs.length = ds.length) : k.room cs = k.room ds := by unfold XKind.room; rw [h]
theorem room_le (k : XKind) (cs : List XV) : cs.length ≤ k.room cs := by unfold XKind.room; split <;> omega

/-- how a block of the plain heap has gone on, W having been written -/
def BlkFrame (W : List (Nat × Nat)) (b : Nat) : XBlk → XBlk → Prop
  | .cells cs k, .cells cs' k' => k' = k ∧ cs'.length = cs.length ∧ (∀ o : Nat, (b, o) ∉ W → cs'[o]? = cs[o]?) ∧ (∀ o : Nat, cs[o]? = some XV.dead → cs'[o]? = some XV.dead)
  | .cells cs k, .gone => 0 < k.room cs ∧ ∀ o, o < k.room cs → (b, o) ∈ W
  | .iter s pos, .iter s' pos' => s' = s ∧ ((b, 0) ∉ W → pos' = pos)
  | .gone, .gone => True
  | _, _ => False

theorem BlkFrame.refl (W : List (Nat × Nat)) (b : Nat) (x : XBlk) : BlkFrame W b x x := by
  cases x with
  | cells cs k => exact ⟨rfl, rfl, fun _ _ => rfl, fun _ h => h⟩
  | iter s pos => exact ⟨rfl, fun _ => rfl⟩
  | gone => trivial

theorem BlkFrame.mono {W W' : List (Nat × Nat)} (hW : ∀ p, p ∈ W → p ∈ W') {b : Nat} {x y : XBlk} (h : BlkFrame W b x y) : BlkFrame W' b x y := by
  cases x <;> cases y <;> simp only [BlkFrame] at h ⊢
  · exact ⟨h.1, h.2.1, fun o ho => h.2.2.1 o fun hm => ho (hW _ hm), h.2.2.2⟩
  · exact ⟨h.1, fun o ho => hW _ (h.2 o ho)⟩
  · exact ⟨h.1, fun hm => h.2 fun hq => hm (hW _ hq)⟩

theorem BlkFrame.filter {W W' : List (Nat × Nat)} {b : Nat} (hW : ∀ o, (b, o) ∈ W → (b, o) ∈ W') {x y : XBlk} (h : BlkFrame W b x y) : BlkFrame W' b x y := by
  cases x <;> cases y <;> simp only [BlkFrame] at h ⊢
  · exact ⟨h.1, h.2.1, fun o ho => h.2.2.1 o fun hm => ho (hW _ hm), h.2.2.2⟩
  · exact ⟨h.1, fun o ho => hW _ (h.2 o ho)⟩
  · exact ⟨h.1, fun hm => h.2 fun hq => hm (hW _ hq)⟩

theorem BlkFrame.trans {W1 W2 : List (Nat × Nat)} {b : Nat} {x y z : XBlk} (h : BlkFrame W1 b x y) (k : BlkFrame W2 b y z) : BlkFrame (W2 ++ W1) b x z := by
  cases x <;> cases y <;> simp only [BlkFrame] at h <;> cases z <;> simp only [BlkFrame] at k ⊢
  · refine ⟨k.1.trans h.1, k.2.1.trans h.2.1, fun o ho => ?_, fun o ho => k.2.2.2 o (h.2.2.2 o ho)⟩
    simp only [List.mem_append, not_or] at ho
    exact (k.2.2.1 o ho.1).trans (h.2.2.1 o ho.2)
  · rename_i cs kk cs' kk'
    have hr : kk'.room cs' = kk.room cs := by rw [h.1]; exact room_len h.2.1
    rw [hr] at k
    exact ⟨k.1, fun o ho => List.mem_append.2 (.inl (k.2 o ho))⟩
  · exact ⟨h.1, fun o ho => List.mem_append.2 (.inr (h.2 o ho))⟩
  · simp only [List.mem_append, not_or]
    exact ⟨k.1.trans h.1, fun hm => (k.2 hm.1).trans (h.2 hm.2)⟩

theorem BlkFrame.gone {W : List (Nat × Nat)} {b : Nat} {x y : XBlk} (h : BlkFrame W b x y) (hx : x.isGone = true) : y.isGone = true := by
  cases x <;> cases y <;> simp_all [BlkFrame, XBlk.isGone]

def SameAt (w w' : World) (r o : Nat) : Prop := w'.cell? ⟨r, o, none⟩ = w.cell? ⟨r, o, none⟩ ∧ w'.frozen? ⟨r, o, none⟩ = w.frozen? ⟨r, o, none⟩
theorem SameAt.refl (w : World) (r o : Nat) : SameAt w w r o := ⟨rfl, rfl⟩
theorem SameAt.trans {a b c : World} {r o : Nat} (h : SameAt a b r o) (k : SameAt b c r o) : SameAt a c r o := ⟨k.1.trans h.1, k.2.trans h.2⟩

/-- a cell that can be written -/
def WOk : XBlk → Nat → Prop
  | .cells cs k, o => o < k.room cs ∧ k ≠ .ro
  | .iter _ _, o => o = 0
  | .gone, _ => False

theorem WOk.back {W : List (Nat × Nat)} {b : Nat} {x y : XBlk} (h : BlkFrame W b x y) {o : Nat} (k : WOk y o) : WOk x o := by
  cases x <;> cases y <;> simp only [BlkFrame] at h <;> simp only [WOk] at k ⊢
  · rw [← room_len h.2.1, ← h.1]; exact k
  · exact k

/-- what has come of a state: W: cells below 'base' that were written -/
structure Ev (base : Nat) (ρ : Emb) (S : XS) (w : World) (ρ' : Emb) (S' : XS) (w' : World) (W : List (Nat × Nat)) : Prop where
  ext : ρ.le ρ'
  old : ∀ b e, ρ' b = some e → b < S.size → ρ b = some e
  size : S.size ≤ S'.size
  wsize : w.heap.size ≤ w'.heap.size
  canon : ∀ b, b < base → BlkFrame W b (S.get b) (S'.get b)
  gone : ∀ b, (S.get b).isGone = true → b < S.size → (S'.get b).isGone = true
  wb : ∀ p, p ∈ W → p.1 < base
  new : ∀ b e, ρ' b = some e → base ≤ b → w.heap.size ≤ e.blk ∨ (∃ b0 e0, base ≤ b0 ∧ ρ b0 = some e0 ∧ e0.blk = e.blk) ∨
    (∃ p, p ∈ W ∧ ∃ e0, ρ p.1 = some e0 ∧ e0.blk = e.blk ∧ (S'.get p.1).isGone = true)
  frame : ∀ r o, r < w.heap.size → SameAt w w' r o ∨
    (∃ p, p ∈ W ∧ ∃ e, ρ p.1 = some e ∧ e.blk = r ∧ (o = p.2 + e.sh ∨ (S'.get p.1).isGone = true)) ∨ (∃ b e, base ≤ b ∧ ρ b = some e ∧ e.blk = r)
  frameI : ∀ r, r < w.heap.size → w'.heap[r]? = w.heap[r]? ∨ (∃ p, p ∈ W ∧ ∃ e, ρ p.1 = some e ∧ e.blk = r) ∨ (∃ b e, base ≤ b ∧ ρ b = some e ∧ e.blk = r)
  keep : ∀ r o, (w.cell? ⟨r, o, none⟩).isSome = true → w.frozen? ⟨r, o, none⟩ = false → (w'.cell? ⟨r, o, none⟩).isSome = true ∧ w'.frozen? ⟨r, o, none⟩ = false
  wd : ∀ p, p ∈ W → ∃ e, ρ p.1 = some e
  wl : ∀ p, p ∈ W → WOk (S.get p.1) p.2
  zold : ∀ t r o v, ρ'.z t r o = some v → r < w.heap.size → ρ.z t r o = some v

theorem Ev.refl {base : Nat} {ρ : Emb} {S : XS} {w : World} : Ev base ρ S w ρ S w [] where
  ext := Emb.le_refl ρ
  old := fun _ _ h _ => h
  size := Nat.le_refl _
  wsize := Nat.le_refl _
  canon := fun b _ => BlkFrame.refl _ _ _
  gone := fun _ h _ => h
  wb := fun p h => by cases h
  new := fun b e h hb => .inr (.inl ⟨b, e, hb, h, rfl⟩)
  frame := fun r o h => .inl (SameAt.refl _ _ _)
  frameI := fun r h => .inl rfl
  keep := fun r o h k => ⟨h, k⟩
  wd := fun p h => by cases h
  wl := fun p h => by cases h
  zold := fun _ _ _ _ h _ => h

theorem Ev.trans {base : Nat} {ρ1 ρ2 ρ3 : Emb} {S1 S2 S3 : XS} {w1 w2 w3 : World} {W1 W2 : List (Nat × Nat)} (hb : base ≤ S1.size)
    (h : Ev base ρ1 S1 w1 ρ2 S2 w2 W1) (k : Ev base ρ2 S2 w2 ρ3 S3 w3 W2) : Ev base ρ1 S1 w1 ρ3 S3 w3 (W2 ++ W1) := by
  have hg : ∀ p, p ∈ W1 ∨ p ∈ W2 → (S2.get p.1).isGone = true → (S3.get p.1).isGone = true := fun p hp hq => by
    refine k.gone _ hq ?_
    have := h.size
    rcases hp with hp | hp
    · have := h.wb p hp; omega
    · have := k.wb p hp; omega
  have back : ∀ b e, b < base → ρ2 b = some e → ρ1 b = some e := fun b e hlt he => h.old b e he (by omega)
  refine ⟨Emb.le_trans h.ext k.ext, fun b e he hlt => h.old b e (k.old b e he (by have := h.size; omega)) hlt, Nat.le_trans h.size k.size, Nat.le_trans h.wsize k.wsize,
    fun b hlt => (h.canon b hlt).trans (k.canon b hlt), fun b hg hlt => k.gone b (h.gone b hg hlt) (by have := h.size; omega), ?_, ?_, ?_, ?_,
    fun r o q1 q2 => k.keep r o (h.keep r o q1 q2).1 (h.keep r o q1 q2).2, fun p hp => ?_, fun p hp => ?_,
    fun t r o v q hr => h.zold t r o v (k.zold t r o v q (Nat.lt_of_lt_of_le hr h.wsize)) hr⟩
  · intro p hp
    rcases List.mem_append.1 hp with hp | hp
    · exact k.wb p hp
    · exact h.wb p hp
  · intro b e he hlt
    rcases k.new b e he hlt with hn | ⟨b0, e0, q1, q2, q3⟩ | ⟨p, hp, e0, q1, q2, q3⟩
    · exact .inl (Nat.le_trans h.wsize hn)
    · rcases h.new b0 e0 q2 q1 with hn | ⟨b1, e1, r1, r2, r3⟩ | ⟨p, hp, e1, r1, r2, r3⟩
      · exact .inl (by omega)
      · exact .inr (.inl ⟨b1, e1, r1, r2, r3.trans q3⟩)
      · exact .inr (.inr ⟨p, List.mem_append.2 (.inr hp), e1, r1, r2.trans q3, hg p (.inl hp) r3⟩)
    · exact .inr (.inr ⟨p, List.mem_append.2 (.inl hp), e0, back _ _ (k.wb p hp) q1, q2, q3⟩)
  · intro r o hr
    have key : ∀ b e, base ≤ b → ρ2 b = some e → e.blk = r → (∃ p, p ∈ W2 ++ W1 ∧ ∃ e, ρ1 p.1 = some e ∧ e.blk = r ∧ (o = p.2 + e.sh ∨ (S3.get p.1).isGone = true)) ∨ (∃ b e, base ≤ b ∧ ρ1 b = some e ∧ e.blk = r) := by
      intro b e q1 q2 q3
      rcases h.new b e q2 q1 with hn | ⟨b1, e1, r1, r2, r3⟩ | ⟨p, hp, e1, r1, r2, r3⟩
      · omega
      · exact .inr ⟨b1, e1, r1, r2, r3.trans q3⟩
      · exact .inl ⟨p, List.mem_append.2 (.inr hp), e1, r1, r2.trans q3, .inr (hg p (.inl hp) r3)⟩
    rcases k.frame r o (by have := h.wsize; omega) with hs2 | ⟨p, hp, e, q1, q2, q3⟩ | ⟨b, e, q1, q2, q3⟩
    · rcases h.frame r o hr with hs1 | ⟨p, hp, e, q1, q2, q3⟩ | ⟨b, e, q1, q2, q3⟩
      · exact .inl (hs1.trans hs2)
      · refine .inr (.inl ⟨p, List.mem_append.2 (.inr hp), e, q1, q2, ?_⟩)
        rcases q3 with q3 | q3
        · exact .inl q3
        · exact .inr (hg p (.inl hp) q3)
      · exact .inr (.inr ⟨b, e, q1, q2, q3⟩)
    · exact .inr (.inl ⟨p, List.mem_append.2 (.inl hp), e, back _ _ (k.wb p hp) q1, q2, q3⟩)
    · exact .inr (key b e q1 q2 q3)
  · intro r hr
    rcases k.frameI r (by have := h.wsize; omega) with hs2 | ⟨p, hp, e, q1, q2⟩ | ⟨b, e, q1, q2, q3⟩
    · rcases h.frameI r hr with hs1 | ⟨p, hp, e, q1, q2⟩ | ⟨b, e, q1, q2, q3⟩
      · exact .inl (hs2.trans hs1)
      · exact .inr (.inl ⟨p, List.mem_append.2 (.inr hp), e, q1, q2⟩)
      · exact .inr (.inr ⟨b, e, q1, q2, q3⟩)
    · exact .inr (.inl ⟨p, List.mem_append.2 (.inl hp), e, back _ _ (k.wb p hp) q1, q2⟩)
    · rcases h.new b e q2 q1 with hn | ⟨b1, e1, r1, r2, r3⟩ | ⟨p, hp, e1, r1, r2, r3⟩
      · omega
      · exact .inr (.inr ⟨b1, e1, r1, r2, r3.trans q3⟩)
      · exact .inr (.inl ⟨p, List.mem_append.2 (.inr hp), e1, r1, r2.trans q3⟩)
  · rcases List.mem_append.1 hp with hp | hp
    · obtain ⟨e, he⟩ := k.wd p hp; exact ⟨e, back _ _ (k.wb p hp) he⟩
    · exact h.wd p hp
  · rcases List.mem_append.1 hp with hp | hp
    · exact (k.wl p hp).back (h.canon p.1 (k.wb p hp))
    · exact h.wl p hp

/-- from a call's own base to its caller's -/
theorem Ev.lower {base base' : Nat} {ρ ρ' : Emb} {S S' : XS} {w w' : World} {W W' : List (Nat × Nat)} (hb : base' ≤ base) (hS : base ≤ S.size)
    (hW : ∀ p, p ∈ W' ↔ p ∈ W ∧ p.1 < base') (h : Ev base ρ S w ρ' S' w' W) : Ev base' ρ S w ρ' S' w' W' where
  ext := h.ext
  old := h.old
  size := h.size
  wsize := h.wsize
  canon := fun b hlt => (h.canon b (by omega)).filter fun o ho => (hW _).2 ⟨ho, hlt⟩
  gone := h.gone
  wb := fun p hp => ((hW p).1 hp).2
  new := fun b e he hlt => by
    rcases Nat.lt_or_ge b base with hq | hq
    · exact .inr (.inl ⟨b, e, hlt, h.old b e he (by omega), rfl⟩)
    · rcases h.new b e he hq with hn | ⟨b0, e0, q1, q2, q3⟩ | ⟨p, hp, e0, q1, q2, q3⟩
      · exact .inl hn
      · exact .inr (.inl ⟨b0, e0, by omega, q2, q3⟩)
      · rcases Nat.lt_or_ge p.1 base' with hl | hl
        · exact .inr (.inr ⟨p, (hW p).2 ⟨hp, hl⟩, e0, q1, q2, q3⟩)
        · exact .inr (.inl ⟨p.1, e0, hl, q1, q2⟩)
  frame := fun r o hr => by
    rcases h.frame r o hr with hs | ⟨p, hp, e, q1, q2, q3⟩ | ⟨b, e, q1, q2, q3⟩
    · exact .inl hs
    · rcases Nat.lt_or_ge p.1 base' with hl | hl
      · exact .inr (.inl ⟨p, (hW p).2 ⟨hp, hl⟩, e, q1, q2, q3⟩)
      · exact .inr (.inr ⟨p.1, e, hl, q1, q2⟩)
    · exact .inr (.inr ⟨b, e, by omega, q2, q3⟩)
  frameI := fun r hr => by
    rcases h.frameI r hr with hs | ⟨p, hp, e, q1, q2⟩ | ⟨b, e, q1, q2, q3⟩
    · exact .inl hs
    · rcases Nat.lt_or_ge p.1 base' with hl | hl
      · exact .inr (.inl ⟨p, (hW p).2 ⟨hp, hl⟩, e, q1, q2⟩)
      · exact .inr (.inr ⟨p.1, e, hl, q1, q2⟩)
    · exact .inr (.inr ⟨b, e, by omega, q2, q3⟩)
  keep := h.keep
  wd := fun p hp => h.wd p ((hW p).1 hp).1
  wl := fun p hp => h.wl p ((hW p).1 hp).1
  zold := h.zold

theorem keep_block {w w' : World} (h : ∀ r, r < w.heap.size → w'.heap[r]? = w.heap[r]?) (r o : Nat) (hc : (w.cell? ⟨r, o, none⟩).isSome = true) (hf : w.frozen? ⟨r, o, none⟩ = false) :
    (w'.cell? ⟨r, o, none⟩).isSome = true ∧ w'.frozen? ⟨r, o, none⟩ = false := by
  have hr : r < w.heap.size := by
    rcases Nat.lt_or_ge r w.heap.size with q | q
    · exact q
    · unfold World.cell? at hc; simp [Array.getElem?_eq_none q] at hc
  unfold World.cell? World.frozen? at *
  rw [h r hr]
  exact ⟨hc, hf⟩

end Go.XM

namespace Go.XM
set_option linter.unusedVariables false
set_option linter.unusedSimpArgs false
open Go.RowKit
set_option linter.unusedVariables false

/-! ### the plain heap -/
theorem XS.get_push_new (S : XS) (x : XBlk) : (S.push x).get S.size = x := by
  simp [XS.get, XS.push]
theorem XS.get_push_old (S : XS) (x : XBlk) {b : Nat} (h : b ≠ S.size) : (S.push x).get b = S.get b := by
  unfold XS.get XS.push
  simp only
  by_cases hb : b < S.size
  · have e : S.size + 1 - 1 - b = (S.size - 1 - b) + 1 := by omega
    rw [if_pos (by omega), if_pos hb, e, List.getElem?_cons_succ]
  · rw [if_neg (by omega), if_neg hb]
@[simp] theorem XS.size_push (S : XS) (x : XBlk) : (S.push x).size = S.size + 1 := rfl
@[simp] theorem XS.log_push (S : XS) (x : XBlk) : (S.push x).log = S.log := rfl
@[simp] theorem XS.size_put (S : XS) (b : Nat) (x : XBlk) : (S.put b x).size = S.size := by unfold XS.put; split <;> rfl
@[simp] theorem XS.log_put (S : XS) (b : Nat) (x : XBlk) : (S.put b x).log = S.log := by unfold XS.put; split <;> rfl
@[simp] theorem XS.size_note (S : XS) (base b o : Nat) : (S.note base b o).size = S.size := by unfold XS.note; split <;> rfl
@[simp] theorem XS.get_note (S : XS) (base b o c : Nat) : (S.note base b o).get c = S.get c := by unfold XS.note; split <;> rfl
theorem XS.log_note (S : XS) (base b o : Nat) : (S.note base b o).log = (if b < base then [(b, o)] else []) ++ S.log := by unfold XS.note; split <;> rfl
theorem XS.get_lt {S : XS} {b : Nat} (h : (S.get b).isGone = false) : b < S.size := by
  unfold XS.get at h
  split at h
  · assumption
  · simp [XBlk.isGone] at h
theorem XS.get_put_same {S : XS} {b : Nat} (x : XBlk) (h : (S.get b).isGone = false) : (S.put b x).get b = x := by
  have hb := XS.get_lt h
  unfold XS.get at h ⊢
  unfold XS.put
  simp only [hb, if_true] at h ⊢
  have hi : S.size - 1 - b < S.heap.length := by
    rcases Nat.lt_or_ge (S.size - 1 - b) S.heap.length with hq | hq
    · exact hq
    · rw [List.getElem?_eq_none hq] at h
      simp [XBlk.isGone] at h
  simp [hi]
theorem XS.get_put_other {S : XS} {b c : Nat} (x : XBlk) (h : c ≠ b) : (S.put b x).get c = S.get c := by
  unfold XS.get XS.put
  by_cases hb : b < S.size
  · simp only [hb, if_true]
    by_cases hc : c < S.size
    · simp only [hc, if_true]
      rw [List.getElem?_set_ne (by omega)]
    · simp only [hc, if_false]
  · simp only [hb, if_false]
theorem XS.get_beyond {S : XS} {b : Nat} (h : S.size ≤ b) : S.get b = .gone := by
  unfold XS.get; rw [if_neg (by omega)]

theorem mem_noteAll (b : Nat) : ∀ (n : Nat) (l : List (Nat × Nat)) (p : Nat × Nat), p ∈ noteAll b n l ↔ (p.1 = b ∧ p.2 < n) ∨ p ∈ l
  | 0, l, p => by simp [noteAll]
  | n + 1, l, p => by
    rw [noteAll, List.mem_cons, mem_noteAll b n]
    constructor
    · rintro (rfl | ⟨h1, h2⟩ | h)
      · exact .inl ⟨rfl, Nat.lt_succ_self _⟩
      · exact .inl ⟨h1, by omega⟩
      · exact .inr h
    · rintro (⟨h1, h2⟩ | h)
      · rcases Nat.lt_or_ge p.2 n with q | q
        · exact .inr (.inl ⟨h1, q⟩)
        · exact .inl (Prod.ext h1 (by simp only; omega))
      · exact .inr (.inr h)

theorem noteAll_append (b : Nat) : ∀ (n : Nat) (l : List (Nat × Nat)), noteAll b n l = noteAll b n [] ++ l
  | 0, l => rfl
  | n + 1, l => by rw [noteAll, noteAll, noteAll_append b n l]; rfl
@[simp] theorem XS.size_kill (S : XS) (base b n : Nat) : (S.kill base b n).size = S.size := by simp [XS.kill]
theorem XS.get_kill_same {S : XS} (base n : Nat) {b : Nat} (h : (S.get b).isGone = false) : (S.kill base b n).get b = .gone := XS.get_put_same (S := S) .gone h
theorem XS.get_kill_other (S : XS) (base n : Nat) {b c : Nat} (h : c ≠ b) : (S.kill base b n).get c = S.get c := XS.get_put_other .gone h
theorem XS.log_kill (S : XS) (base b n : Nat) : (S.kill base b n).log = (if b < base then noteAll b n [] else []) ++ S.log := by
  unfold XS.kill
  by_cases h : b < base
  · simp only [h, if_true]; exact noteAll_append b n S.log
  · simp [h]

/-! ### the worlds -/
theorem SameAt.of_block {w w' : World} {r : Nat} (h : w'.heap[r]? = w.heap[r]?) (o : Nat) : SameAt w w' r o :=
  ⟨World.cell?_of_block (w := w) (a := ⟨r, o, none⟩) h, World.frozen?_of_block (w := w) (a := ⟨r, o, none⟩) h⟩

theorem BlkR.move {ρ ρ' : Emb} {B : Nat} {w w' : World} {e : Ent} {x : XBlk} (hl : ρ.le ρ') (hh : w'.heap[e.blk]? = w.heap[e.blk]?) (h : BlkR ρ B w e x) : BlkR ρ' B w' e x := by
  have hs := SameAt.of_block hh
  cases x with
  | cells cs k =>
    obtain ⟨h1, h2⟩ := h
    refine ⟨?_, fun o v ho hv => ?_⟩
    · cases k with
      | ro => exact h1
      | own => exact h1
      | arr esz => exact ⟨h1.1, h1.2.1, h1.2.2.1, fun j hj => by rw [show e.at j = ⟨e.blk, j + e.sh, none⟩ from rfl, (hs _).1, (hs _).2]; exact h1.2.2.2 j hj⟩
      | loose esz n =>
        obtain ⟨a, b, l, f, rsz, c, m, d⟩ := h1
        exact ⟨a, b, l, f, rsz, c, m, fun j hj => by rw [(hs j).1, (hs j).2]; exact d j hj⟩
    · obtain ⟨u, hu, hr, hf⟩ := h2 o v ho hv
      exact ⟨u, (hs _).1.trans hu, hr.mono hl, fun hk => (hs _).2.trans (hf hk)⟩
  | iter s pos => exact ⟨h.1, hh.trans h.2⟩
  | gone => trivial

def Emb.set (ρ : Emb) (b : Nat) (e : Ent) : Emb := ⟨fun c => if c = b then some e else ρ c, ρ.z⟩
theorem Emb.set_same (ρ : Emb) (b : Nat) (e : Ent) : ρ.set b e b = some e := by simp [Emb.set]
theorem Emb.le_set {ρ : Emb} {b : Nat} {e : Ent} (h : ρ b = none) : ρ.le (ρ.set b e) := by
  refine ⟨?_, ZMap.le_refl _⟩
  intro c x hc
  unfold Emb.set
  simp only
  split
  · rename_i hq; subst hq; rw [h] at hc; cases hc
  · exact hc
theorem Rel.fresh {B : Nat} {w0 : World} {ρ : Emb} {S : XS} {w : World} (h : Rel B w0 ρ S w) : ρ S.size = none := by
  cases hq : ρ S.size with
  | none => rfl
  | some e => exact absurd (h.dom _ _ hq) (by omega)

/-- a new block on both sides -/
theorem rel_alloc {B : Nat} {w0 : World} {ρ : Emb} {S : XS} {w : World} (h : Rel B w0 ρ S w) (base : Nat) (hb : base ≤ S.size) (x : XBlk) (o : Obj) (l : Option (Nat × Nat × Nat))
    (hx : BlkR ρ B (w.alloc o) ⟨w.heap.size, 0, l⟩ x) :
    Rel B w0 (ρ.set S.size ⟨w.heap.size, 0, l⟩) (S.push x) (w.alloc o) ∧ Ev base ρ S w (ρ.set S.size ⟨w.heap.size, 0, l⟩) (S.push x) (w.alloc o) [] := by
  have hf := h.fresh
  have hl : ρ.le (ρ.set S.size ⟨w.heap.size, 0, l⟩) := Emb.le_set hf
  have hB : B ≤ w.heap.size := Nat.le_trans h.Bw h.below.size
  have cases_ : ∀ b e, ρ.set S.size ⟨w.heap.size, 0, l⟩ b = some e → (b = S.size ∧ e = ⟨w.heap.size, 0, l⟩) ∨ (b ≠ S.size ∧ ρ b = some e) := by
    intro b e he
    unfold Emb.set at he
    simp only at he
    split at he
    · rename_i hq; exact .inl ⟨hq, by injection he with he; exact he.symm⟩
    · rename_i hq; exact .inr ⟨hq, he⟩
  have hold : ∀ r, r < w.heap.size → (w.alloc o).heap[r]? = w.heap[r]? := fun r hr => Below.heap_alloc w o r hr
  have hfz : Froz B (ρ.set S.size ⟨w.heap.size, 0, l⟩) (w.alloc o) := by
    have hk := h.fz.block (w' := w.alloc o) hold
    refine ⟨hk.ok, hk.zc, fun b e he hBe t o' => ?_⟩
    rcases cases_ b e he with ⟨_, rfl⟩ | ⟨_, he⟩
    · cases hq : ρ.z t w.heap.size o' with
      | none => exact hq
      | some v => have := h.fz.lt hq; omega
    · exact h.fz.zd b e he hBe t o'
  refine ⟨⟨h.below.alloc hB o, h.Bw, ?_, ?_, ?_, ?_, hfz⟩, ⟨hl, ?_, by simp, by simp, ?_, ?_, (fun p hp => by cases hp), ?_, ?_, ?_, keep_block hold, (fun p hp => by cases hp), (fun p hp => by cases hp), fun _ _ _ _ q _ => q⟩⟩
  · intro b e he
    rcases cases_ b e he with ⟨rfl, _⟩ | ⟨_, he⟩
    · simp
    · have := h.dom b e he; simp; omega
  · intro b e he
    rcases cases_ b e he with ⟨rfl, rfl⟩ | ⟨hne, he⟩
    · rw [XS.get_push_new]
      cases x with
      | cells cs k =>
        obtain ⟨h1, h2⟩ := hx
        refine ⟨h1, fun o' v ho hv => ?_⟩
        obtain ⟨u, hu, hr, hz⟩ := h2 o' v ho hv
        exact ⟨u, hu, hr.mono hl, hz⟩
      | iter s pos => exact hx
      | gone => trivial
    · rw [XS.get_push_old _ _ hne]
      exact (h.blk b e he).move hl (hold _ (h.lt b e he))
  · intro b b' e e' he he' hq hne
    rcases cases_ b e he with ⟨rfl, rfl⟩ | ⟨hn, he⟩
    · rcases cases_ b' e' he' with ⟨rfl, rfl⟩ | ⟨hn', he'⟩
      · exact absurd rfl hne
      · have := h.lt b' e' he'; simp at hq; omega
    · rcases cases_ b' e' he' with ⟨rfl, rfl⟩ | ⟨hn', he'⟩
      · have := h.lt b e he; simp at hq; omega
      · rw [XS.get_push_old _ _ hn, XS.get_push_old _ _ hn']
        exact h.inj b b' e e' he he' hq hne
  · intro b e he
    rcases cases_ b e he with ⟨rfl, rfl⟩ | ⟨hne, he⟩
    · simp
    · have := h.lt b e he; simp; omega
  · intro b e he hlt
    rcases cases_ b e he with ⟨rfl, rfl⟩ | ⟨hne, he⟩
    · omega
    · exact he
  · intro b hlt
    rw [XS.get_push_old _ _ (by omega)]
    exact BlkFrame.refl _ _ _
  · intro b hg hlt
    rw [XS.get_push_old _ _ (by omega)]
    exact hg
  · intro b e he hlt
    rcases cases_ b e he with ⟨rfl, rfl⟩ | ⟨hne, he⟩
    · exact .inl (Nat.le_refl _)
    · exact .inr (.inl ⟨b, e, hlt, he, rfl⟩)
  · intro r o' hr
    exact .inl (SameAt.of_block (hold r hr) o')
  · intro r hr
    exact .inl (hold r hr)

/-- a draw -/
theorem rel_drew {B : Nat} {w0 : World} {ρ : Emb} {S : XS} {w : World} (h : Rel B w0 ρ S w) : Rel B w0 ρ S w.drew :=
  ⟨h.below.drew, h.Bw, h.dom, fun b e he => (h.blk b e he).move (Emb.le_refl ρ) rfl, h.inj, h.lt, h.fz.block fun _ _ => rfl⟩
theorem ev_drew {base : Nat} {ρ : Emb} {S : XS} {w : World} : Ev base ρ S w ρ S w.drew [] where
  ext := Emb.le_refl ρ
  old := fun _ _ h _ => h
  size := Nat.le_refl _
  wsize := Nat.le_refl _
  canon := fun b _ => BlkFrame.refl _ _ _
  gone := fun _ h _ => h
  wb := fun p h => by cases h
  new := fun b e h hb => .inr (.inl ⟨b, e, hb, h, rfl⟩)
  frame := fun r o h => .inl ⟨rfl, rfl⟩
  frameI := fun r h => .inl rfl
  keep := fun r o h k => ⟨h, k⟩
  wd := fun p h => by cases h
  wl := fun p h => by cases h
  zold := fun _ _ _ _ q _ => q

theorem setCell_block {w : World} {a : Addr} {v : Value} {r : Nat} (h : r ≠ a.block) : (w.setCell a v).heap[r]? = w.heap[r]? := Below.heap_setCell w a v r h

/-- one cell stored -/
theorem rel_store1 {B : Nat} {w0 : World} {ρ : Emb} {S S' : XS} {w : World} (h : Rel B w0 ρ S w) {base b o : Nat} {v : XV} {u : Value} {e : Ent} (he : ρ b = some e)
    (hs : S.store1 base b o v = some S') (hv : VR ρ v u) :
    (∃ u0, w.cell? (e.at o) = some u0) ∧ w.frozen? (e.at o) = false ∧ v.oneCell = true ∧
    Rel B w0 ρ S' (w.setCell (e.at o) u) ∧ Ev base ρ S w ρ S' (w.setCell (e.at o) u) (if b < base then [(b, o)] else []) ∧
    S'.log = (if b < base then [(b, o)] else []) ++ S.log := by
  unfold XS.store1 at hs
  split at hs
  case h_2 => cases hs
  case h_1 cs k hg =>
  split at hs
  · cases hs
  rename_i hk
  split at hs
  case h_2 => cases hs
  case h_1 c hc =>
  split at hs
  case isFalse => cases hs
  rename_i h1f
  have h1 : v.oneCell = true := by unfold XV.fits at h1f; simp only [Bool.and_eq_true] at h1f; exact h1f.1
  have h1u : k.flat = true → v.under 0 = true := fun hfl => by unfold XV.fits at h1f; rw [hfl] at h1f; simpa using (Bool.and_eq_true _ _ ▸ h1f).2
  injection hs with hs
  subst hs
  obtain ⟨hco, hcl⟩ : cs[o]? = some c ∧ c.live = true := by
    unfold cellAt at hc
    split at hc
    · rename_i v' hv'
      split at hc
      · rename_i hl; injection hc with hc; subst hc; exact ⟨hv', hl⟩
      · cases hc
    · cases hc
  have hblk := h.blk b e he
  rw [hg] at hblk
  obtain ⟨hk1, hk2⟩ := hblk
  obtain ⟨u0, hu0, hr0, hf0⟩ := hk2 o c hco hcl
  have hfz := hf0 hk
  have hng : (S.get b).isGone = false := by rw [hg]; rfl
  have hbS := XS.get_lt hng
  have hBe : B ≤ e.blk := by
    cases k with
    | ro => exact absurd rfl hk
    | own => exact hk1.1
    | arr esz => exact hk1.1.1
    | loose esz n => exact hk1.1
  have hsame : ((S.put b (.cells (cs.set o v) k)).note base b o).get b = .cells (cs.set o v) k := by rw [XS.get_note, XS.get_put_same _ hng]
  have hother : ∀ c, c ≠ b → ((S.put b (.cells (cs.set o v) k)).note base b o).get c = S.get c := fun c hc => by rw [XS.get_note, XS.get_put_other _ hc]
  have hgo : ∀ c, (((S.put b (.cells (cs.set o v) k)).note base b o).get c).isGone = (S.get c).isGone := fun c => by
    by_cases hc : c = b
    · subst hc; rw [hsame, hg]; rfl
    · rw [hother c hc]
  have hro : ∀ c, (((S.put b (.cells (cs.set o v) k)).note base b o).get c).isRo = (S.get c).isRo := fun c => by
    by_cases hc : c = b
    · subst hc; rw [hsame, hg]; cases k <;> rfl
    · rw [hother c hc]
  have hol : o < cs.length := by
    rcases Nat.lt_or_ge o cs.length with hq | hq
    · exact hq
    · rw [List.getElem?_eq_none hq] at hco; cases hco
  refine ⟨⟨u0, hu0⟩, hfz, h1, ⟨h.below.setCell hBe u, h.Bw, ?_, ?_, ?_, ?_, h.fz.but he hBe fun r hr => setCell_block hr⟩, ⟨Emb.le_refl ρ, fun _ _ q _ => q, by simp, by simp, ?_, ?_, ?_, fun c e' hc hq => .inr (.inl ⟨c, e', hq, hc, rfl⟩), ?_, ?_, (fun r o' h1 h2 => ?_), (fun p hp => ?_), (fun p hp => ?_), fun _ _ _ _ q _ => q⟩, ?_⟩
  · intro c e' hc; simpa using h.dom c e' hc
  · intro c e' hc
    by_cases hcb : c = b
    · subst hcb
      rw [he] at hc
      injection hc with hc
      subst hc
      rw [hsame]
      refine ⟨?_, fun o' v' ho' hv' => ?_⟩
      · cases k with
        | ro => exact absurd rfl hk
        | own => exact hk1
        | arr esz =>
          refine ⟨hk1.1, hk1.2.1, hk1.2.2.1.set o h1 (h1u rfl), fun j hj => ?_⟩
          rw [World.frozen?_setCell]
          refine ⟨?_, (hk1.2.2.2 j (by simpa using hj)).2⟩
          by_cases hje : (e.at o) = e.at j
          · rw [← hje, World.cell?_setCell_same _ _ _ hu0]; rfl
          · rw [World.cell?_setCell_other _ _ _ _ hje]; exact (hk1.2.2.2 j (by simpa using hj)).1
        | loose esz n =>
          obtain ⟨a1, a2, al, af, rsz, a3, am, a4⟩ := hk1
          refine ⟨a1, a2, by simpa using al, af.set o h1 (h1u rfl), rsz, a3, am, fun j hj => ?_⟩
          rw [World.frozen?_setCell]
          refine ⟨?_, (a4 j hj).2⟩
          by_cases hje : (e.at o) = ⟨e.blk, j, none⟩
          · rw [← hje, World.cell?_setCell_same _ _ _ hu0]; rfl
          · rw [World.cell?_setCell_other _ _ _ _ hje]; exact (a4 j hj).1
      · rw [World.frozen?_setCell]
        by_cases hoo : o' = o
        · subst hoo
          rw [List.getElem?_set_self hol] at ho'
          injection ho' with ho'
          subst ho'
          exact ⟨u, World.cell?_setCell_same _ _ _ hu0, hv, fun _ => hfz⟩
        · rw [List.getElem?_set_ne (by omega)] at ho'
          obtain ⟨u', hu', hr', hf'⟩ := hk2 o' v' ho' hv'
          refine ⟨u', ?_, hr', hf'⟩
          rw [World.cell?_setCell_other _ _ _ _ (by simp [Ent.at] <;> omega)]
          exact hu'
    · rw [hother c hcb]
      by_cases hgc : (S.get c).isGone = true
      · revert hgc; cases S.get c <;> simp [XBlk.isGone, BlkR]
      · refine (h.blk c e' hc).move (Emb.le_refl ρ) (setCell_block ?_)
        intro hq
        rcases h.inj c b e' e hc he hq hcb with hq1 | hq1 | hq1
        · have := hq1.2; rw [hg] at this; cases k <;> simp [XBlk.isRo] at this; exact hk rfl
        · exact hgc hq1
        · rw [hng] at hq1; cases hq1
  · intro c c' e1 e2 hc hc' hq hne
    rw [hro, hro, hgo, hgo]
    exact h.inj c c' e1 e2 hc hc' hq hne
  · intro c e' hc; simpa using h.lt c e' hc
  · intro c hlt
    by_cases hcb : c = b
    · subst hcb
      rw [hsame, hg, if_pos hlt]
      refine ⟨rfl, by simp, fun o' ho' => ?_, fun o' ho' => ?_⟩
      · rw [List.getElem?_set_ne]
        intro hq; subst hq; exact ho' (by simp)
      · by_cases hoo : o' = o
        · subst hoo; rw [hco] at ho'; injection ho' with ho'; subst ho'; cases hcl
        · rw [List.getElem?_set_ne (by omega)]; exact ho'
    · rw [hother c hcb]; exact BlkFrame.refl _ _ _
  · intro c hgc hlt; rw [hgo]; exact hgc
  · intro p hp
    split at hp
    · simp at hp; subst hp; assumption
    · cases hp
  · intro r o' hr
    by_cases hro' : r = e.blk
    · subst hro'
      rcases Nat.lt_or_ge b base with hlt | hge
      · by_cases hoo : o' = o + e.sh
        · exact .inr (.inl ⟨(b, o), by simp [hlt], e, he, rfl, .inl hoo⟩)
        · exact .inl ⟨World.cell?_setCell_other _ _ _ _ (by simp [Ent.at] <;> omega), World.frozen?_setCell _ _ _ _⟩
      · exact .inr (.inr ⟨b, e, hge, he, rfl⟩)
    · exact .inl (SameAt.of_block (setCell_block hro') o')
  · intro r hr
    by_cases hro' : r = e.blk
    · subst hro'
      rcases Nat.lt_or_ge b base with hlt | hge
      · exact .inr (.inl ⟨(b, o), by simp [hlt], e, he, rfl⟩)
      · exact .inr (.inr ⟨b, e, hge, he, rfl⟩)
    · exact .inl (setCell_block hro')
  · rw [World.frozen?_setCell]
    refine ⟨?_, h2⟩
    by_cases hje : (e.at o) = ⟨r, o', none⟩
    · rw [← hje, World.cell?_setCell_same _ _ _ hu0]; rfl
    · rw [World.cell?_setCell_other _ _ _ _ hje]; exact h1
  · split at hp
    · simp at hp; subst hp; exact ⟨e, he⟩
    · cases hp
  · split at hp
    · simp at hp; subst hp; simp only; rw [hg]; exact ⟨Nat.lt_of_lt_of_le hol (room_le _ _), hk⟩
    · cases hp
  · rw [XS.log_note, XS.log_put]

end Go.XM

namespace Go.XM
set_option linter.unusedVariables false
set_option linter.unusedSimpArgs false
open Go.RowKit
set_option linter.unusedVariables false

theorem XV.one_of {ρ : Emb} {v : XV} {u : Value} (h : VR ρ v u) (ho : v.oneCell = true) : u.oneCell' = true := by
  cases h with
  | row t m cs len _ h1 => cases h1 <;> rfl
  | rptr t cs o _ h1 => cases h1; rfl
  | _ => simp_all [XV.oneCell, Value.oneCell']

theorem cells_of {ρ : Emb} {v : XV} {u : Value} (h : VR ρ v u) : VRs ρ v.cells u.cells.toList := by
  cases h with
  | row t m cs len _ h1 =>
    cases h1 with
    | rowNil => exact .cons _ _ _ _ (.row _ _ _ _ _ (.rowNil _ _ _)) .nil
    | row _ _ _ _ _ us a cap q1 q2 q3 q4 q5 q6 => exact .cons _ _ _ _ (.row _ _ _ _ _ (.row _ _ _ _ _ us a cap q1 q2 q3 q4 q5 q6)) .nil
  | rptr t cs o _ h1 =>
    cases h1 with
    | rptr _ _ _ _ us r off q1 q2 => exact .cons _ _ _ _ (.rptr _ _ _ _ (.rptr _ _ _ _ us r off q1 q2)) .nil
  | agg cs ds hs => simpa [XV.cells, Value.cells] using hs
  | sl b cap' e esz n rsz h1 h2 h3 h4 => exact .cons _ _ _ _ (.sl _ _ _ _ _ _ h1 h2 h3 h4) .nil
  | _ => refine .cons _ _ _ _ ?_ .nil; constructor <;> assumption

theorem size_cells {ρ : Emb} {v : XV} {u : Value} (h : VR ρ v u) : u.cells.size = v.cells.length := by
  have := (cells_of h).length
  simpa using this.symm

/-! ### reading -/
theorem cell_read {B : Nat} {w0 : World} {ρ : Emb} {S : XS} {w : World} (h : Rel B w0 ρ S w) {b o : Nat} {e : Ent} (he : ρ b = some e) {v : XV} (hv : S.cell b o = some v) :
    ∃ u, w.cell? (e.at o) = some u ∧ VR ρ v u := by
  unfold XS.cell at hv
  split at hv
  case h_2 => cases hv
  case h_1 cs k hg =>
  unfold cellAt at hv
  split at hv
  case h_2 => cases hv
  case h_1 v' hv' =>
  split at hv
  case isFalse => cases hv
  rename_i hl
  injection hv with hv
  subst hv
  have hb := h.blk b e he
  rw [hg] at hb
  obtain ⟨u, hu, hr, _⟩ := hb.2 o v' hv' hl
  exact ⟨u, hu, hr⟩

theorem at_add (e : Ent) (o j : Nat) : (e.at o).add j = e.at (o + j) := by
  unfold Addr.add Ent.at
  split
  · simp_all
  · simp only [Addr.mk.injEq, true_and, and_true]; omega

theorem cells_read {B : Nat} {w0 : World} {ρ : Emb} {S : XS} {w : World} (h : Rel B w0 ρ S w) {b : Nat} {e : Ent} (he : ρ b = some e) :
    ∀ (n o : Nat) (vs : List XV), S.cellsFrom b o n = some vs → ∃ us, VRs ρ vs us ∧ us.length = n ∧ ∀ j u, us[j]? = some u → w.cell? ((e.at o).add j) = some u
  | 0, o, vs, hv => by
    simp only [XS.cellsFrom] at hv
    injection hv with hv
    subst hv
    exact ⟨[], .nil, rfl, fun j u hu => by simp at hu⟩
  | n + 1, o, vs, hv => by
    simp only [XS.cellsFrom] at hv
    split at hv
    case h_2 => cases hv
    case h_1 v hv1 =>
    split at hv
    case h_2 => cases hv
    case h_1 r hr =>
    injection hv with hv
    subst hv
    obtain ⟨u, hu, hvr⟩ := cell_read h he hv1
    obtain ⟨us, h1, h2, h3⟩ := cells_read h he n (o + 1) r hr
    refine ⟨u :: us, .cons _ _ _ _ hvr h1, by simp [h2], fun j x hx => ?_⟩
    cases j with
    | zero => simp at hx; subst hx; rw [at_add]; exact hu
    | succ j =>
      simp at hx
      have := h3 j x hx
      rw [at_add] at this ⊢
      rwa [show o + (j + 1) = o + 1 + j by omega]

theorem cellsFrom_len {S : XS} {b : Nat} : ∀ (n o : Nat) (vs : List XV), S.cellsFrom b o n = some vs → vs.length = n
  | 0, o, vs, h => by simp only [XS.cellsFrom] at h; injection h with h; subst h; rfl
  | n + 1, o, vs, h => by
    simp only [XS.cellsFrom] at h
    split at h
    case h_2 => cases h
    split at h
    case h_2 => cases h
    case h_1 r hr =>
    injection h with h
    subst h
    simp [cellsFrom_len n _ r hr]

/-! ### storing -/
def setCells (w : World) (r : Nat) : Nat → List Value → World
  | _, [] => w
  | o, v :: vs => setCells (w.setCell ⟨r, o, none⟩ v) r (o + 1) vs

theorem setCells_size (r : Nat) : ∀ (vs : List Value) (o : Nat) (w : World), (setCells w r o vs).heap.size = w.heap.size
  | [], o, w => rfl
  | v :: vs, o, w => by rw [setCells, setCells_size r vs]; simp
theorem setCells_other (r : Nat) {k : Nat} (hk : k ≠ r) : ∀ (vs : List Value) (o : Nat) (w : World), (setCells w r o vs).heap[k]? = w.heap[k]?
  | [], o, w => rfl
  | v :: vs, o, w => by rw [setCells, setCells_other r hk vs]; exact setCell_block hk
theorem setCells_frozen (r : Nat) (a : Addr) : ∀ (vs : List Value) (o : Nat) (w : World), (setCells w r o vs).frozen? a = w.frozen? a
  | [], o, w => rfl
  | v :: vs, o, w => by rw [setCells, setCells_frozen r a vs]; simp
theorem setCells_out (r i : Nat) : ∀ (vs : List Value) (o : Nat) (w : World), (i < o ∨ o + vs.length ≤ i) → (setCells w r o vs).cell? ⟨r, i, none⟩ = w.cell? ⟨r, i, none⟩
  | [], o, w, h => rfl
  | v :: vs, o, w, h => by
    have hl : (v :: vs).length = vs.length + 1 := rfl
    rw [hl] at h
    rw [setCells, setCells_out r i vs (o + 1) _ (by omega)]
    exact World.cell?_setCell_other _ _ _ _ (by simp <;> omega)
theorem setCells_in (r : Nat) : ∀ (vs : List Value) (o : Nat) (w : World), (∀ j, j < vs.length → (w.cell? ⟨r, o + j, none⟩).isSome = true) →
    ∀ j u, vs[j]? = some u → (setCells w r o vs).cell? ⟨r, o + j, none⟩ = some u
  | [], o, w, h, j, u, hu => by simp at hu
  | v :: vs, o, w, h, j, u, hu => by
    cases j with
    | zero =>
      simp at hu
      subst hu
      rw [setCells, setCells_out r _ vs (o + 1) _ (by omega)]
      have := h 0 (by simp)
      obtain ⟨u0, hu0⟩ := Option.isSome_iff_exists.1 this
      exact World.cell?_setCell_same _ _ _ hu0
    | succ j =>
      simp at hu
      rw [setCells, show o + (j + 1) = o + 1 + j by omega]
      refine setCells_in r vs (o + 1) _ (fun i hi => ?_) j u hu
      rw [World.cell?_setCell_other _ _ _ _ (by simp <;> omega)]
      have := h (i + 1) (by simp <;> omega)
      rwa [show o + (i + 1) = o + 1 + i by omega] at this
theorem setCells_some (r i : Nat) : ∀ (vs : List Value) (o : Nat) (w : World), (w.cell? ⟨r, i, none⟩).isSome = true → ((setCells w r o vs).cell? ⟨r, i, none⟩).isSome = true
  | [], o, w, h => h
  | v :: vs, o, w, h => by
    rw [setCells]
    refine setCells_some r i vs (o + 1) _ ?_
    by_cases hq : (⟨r, o, none⟩ : Addr) = ⟨r, i, none⟩
    · obtain ⟨u0, hu0⟩ := Option.isSome_iff_exists.1 h
      rw [← hq] at hu0 ⊢
      rw [World.cell?_setCell_same _ _ _ hu0]; rfl
    · rw [World.cell?_setCell_other _ _ _ _ hq]; exact h
theorem setCells_below {B : Nat} {w0 : World} (r : Nat) (hr : B ≤ r) : ∀ (vs : List Value) (o : Nat) (w : World), Below B w0 w → Below B w0 (setCells w r o vs)
  | [], o, w, h => h
  | v :: vs, o, w, h => setCells_below r hr vs (o + 1) _ (h.setCell hr v)

theorem run_storeCells (P : Program) (r : Nat) : ∀ (vs : List Value) (i o : Nat) (w : World), (∀ v, v ∈ vs → v.oneCell' = true) →
    (∀ j, j < vs.length → (w.cell? ⟨r, o + i + j, none⟩).isSome = true ∧ w.frozen? ⟨r, o + i + j, none⟩ = false) →
    (storeCells ⟨r, o, none⟩ vs i).run P w = .ok () (setCells w r (o + i) vs)
  | [], i, o, w, h1, h => rfl
  | v :: vs, i, o, w, h1, h => by
    have hadd : (⟨r, o, none⟩ : Addr).add i = ⟨r, o + i, none⟩ := by unfold Addr.add; split <;> simp_all
    have h0 := h 0 (by simp)
    simp only [Nat.add_zero] at h0
    obtain ⟨u0, hu0⟩ := Option.isSome_iff_exists.1 h0.1
    simp only [storeCells, Sem.run_bind, hadd, run_store P w _ v _ (h1 v (by simp)), hu0, h0.2, Bool.false_eq_true, if_false, Result.andThen_ok]
    rw [run_storeCells P r vs (i + 1) o _ (fun x hx => h1 x (by simp [hx])) (fun j hj => ?_)]
    · rw [setCells]; rfl
    · rw [World.frozen?_setCell, World.cell?_setCell_other _ _ _ _ (by simp <;> omega)]
      have := h (j + 1) (by simp <;> omega)
      rwa [show o + i + (j + 1) = o + (i + 1) + j by omega] at this

/-- many cells stored -/
theorem rel_storeN {B : Nat} {w0 : World} {ρ : Emb} {base b : Nat} {e : Ent} (he : ρ b = some e) :
    ∀ (vs : List XV) (us : List Value) (o : Nat) (S S' : XS) (w : World), Rel B w0 ρ S w → base ≤ S.size → S.storeN base b o vs = some S' → VRs ρ vs us →
    (∀ u, u ∈ us → u.oneCell' = true) ∧ (∀ j, j < us.length → (w.cell? ⟨e.blk, o + e.sh + j, none⟩).isSome = true ∧ w.frozen? ⟨e.blk, o + e.sh + j, none⟩ = false) ∧
    ∃ W, Rel B w0 ρ S' (setCells w e.blk (o + e.sh) us) ∧ Ev base ρ S w ρ S' (setCells w e.blk (o + e.sh) us) W ∧ S'.log = W ++ S.log ∧ S'.size = S.size
  | [], us, o, S, S', w, h, hbs, hs, hv => by
    cases hv
    simp only [XS.storeN] at hs
    injection hs with hs
    subst hs
    exact ⟨fun u hu => by simp at hu, fun j hj => by simp at hj, [], h, Ev.refl, rfl, rfl⟩
  | v :: vs, us, o, S, S', w, h, hbs, hs, hv => by
    cases hv with
    | cons _ u _ us hv1 hv2 =>
    simp only [XS.storeN] at hs
    split at hs
    case h_2 => cases hs
    case h_1 S1 hs1 =>
    obtain ⟨⟨u0, hu0⟩, hf, h1, hr1, he1, hl1⟩ := rel_store1 h (base := base) he hs1 hv1
    have hsz : S.size = S1.size := by
      unfold XS.store1 at hs1
      split at hs1
      · split at hs1
        · cases hs1
        · split at hs1
          · split at hs1
            · injection hs1 with hs1
              subst hs1
              simp
            · cases hs1
          · cases hs1
      · cases hs1
    obtain ⟨q1, q2, W, q3, q4, q5, q6⟩ := rel_storeN he vs us (o + 1) S1 S' _ hr1 (by omega) hs hv2
    have hat : e.at o = ⟨e.blk, o + e.sh, none⟩ := rfl
    rw [hat] at hu0 hf q2 q3 q4 he1
    refine ⟨fun x hx => ?_, fun j hj => ?_, W ++ (if b < base then [(b, o)] else []), ?_, ?_, ?_, by omega⟩
    · rcases List.mem_cons.1 hx with rfl | hx
      · exact XV.one_of hv1 h1
      · exact q1 x hx
    · cases j with
      | zero => simp [hu0, hf]
      | succ j =>
        have hj' : j < us.length := by simpa using hj
        have := q2 j hj'
        rw [World.frozen?_setCell, World.cell?_setCell_other _ _ _ _ (by simp <;> omega)] at this
        rwa [show o + 1 + e.sh + j = o + e.sh + (j + 1) by omega] at this
    · rw [setCells, show o + e.sh + 1 = o + 1 + e.sh by omega]; exact q3
    · rw [setCells, show o + e.sh + 1 = o + 1 + e.sh by omega]; exact he1.trans hbs q4
    · rw [q5, hl1, List.append_assoc]

/-- what could be stored lives -/
theorem storeN_live {base b : Nat} : ∀ (vs : List XV) (o : Nat) (S S' : XS), S.storeN base b o vs = some S' → ∀ v, v ∈ vs → v.live = true
  | [], _, _, _, _, v, hv => by cases hv
  | x :: vs, o, S, S', hs, v, hv => by
    simp only [XS.storeN] at hs
    split at hs
    case h_2 => cases hs
    case h_1 S1 hs1 =>
    rcases List.mem_cons.1 hv with rfl | hv
    · unfold XS.store1 at hs1
      split at hs1
      · split at hs1
        · cases hs1
        · split at hs1
          · split at hs1
            · rename_i hf
              unfold XV.fits at hf
              simp only [Bool.and_eq_true] at hf
              cases v <;> first | rfl | (exact absurd hf.1 (by simp [XV.oneCell]))
            · cases hs1
          · cases hs1
      · cases hs1
    · exact storeN_live vs (o + 1) S1 S' hs v hv

theorem VLs.vrs {ρ : Emb} {xs : List XV} {us : List Value} (h : VLs ρ xs us) (hl : ∀ v, v ∈ xs → v.live = true) : VRs ρ xs us :=
  VRs.of_get h.1 fun i x v hx hv => h.2 i x v hx hv (hl x (List.mem_of_getElem? hx))
theorem VRs.vls {ρ : Emb} {xs : List XV} {us : List Value} (h : VRs ρ xs us) : VLs ρ xs us :=
  ⟨h.length, fun i x v hx hv _ => by
    obtain ⟨u, hu, hr⟩ := h.get hx
    rw [hv] at hu
    injection hu with hu
    subst hu
    exact hr⟩
theorem VLs.nil {ρ : Emb} : VLs ρ [] [] := ⟨rfl, fun i x v hx => by simp at hx⟩
theorem VLs.append {ρ : Emb} {xs ys : List XV} {us vs : List Value} (h : VLs ρ xs us) (k : VLs ρ ys vs) : VLs ρ (xs ++ ys) (us ++ vs) := by
  refine ⟨by simp [h.1, k.1], fun i x v hx hv hl => ?_⟩
  rcases Nat.lt_or_ge i xs.length with q | q
  · rw [List.getElem?_append_left q] at hx
    rw [List.getElem?_append_left (by rw [← h.1]; exact q)] at hv
    exact h.2 i x v hx hv hl
  · rw [List.getElem?_append_right q] at hx
    rw [List.getElem?_append_right (by rw [← h.1]; exact q), ← h.1] at hv
    exact k.2 _ x v hx hv hl
theorem VLs.mono {ρ ρ' : Emb} (hl : ρ.le ρ') {xs : List XV} {us : List Value} (h : VLs ρ xs us) : VLs ρ' xs us :=
  ⟨h.1, fun i x v hx hv q => (h.2 i x v hx hv q).mono hl⟩

end Go.XM

namespace Go.XM
set_option linter.unusedVariables false
set_option linter.unusedSimpArgs false
open Go.RowKit
set_option linter.unusedVariables false

theorem blk_own {ρ : Emb} {B : Nat} {w : World} (hB : B ≤ w.heap.size) (cs : List XV) (arr : Array Value) (t : TypeId)
    (h : ∀ (i : Nat) (v : XV), cs[i]? = some v → v.live = true → ∃ u, arr[i]? = some u ∧ VR ρ v u) :
    BlkR ρ B (w.alloc (.cells arr t)) ⟨w.heap.size, 0, none⟩ (.cells cs .own) := by
  refine ⟨⟨hB, rfl⟩, fun o v ho hv => ?_⟩
  obtain ⟨u, hu, hr⟩ := h o v ho hv
  exact ⟨u, by rw [show Ent.at ⟨w.heap.size, 0, none⟩ o = ⟨w.heap.size, o, none⟩ from rfl, World.cell?_alloc_new]; exact hu, hr, fun _ => by
    rw [show Ent.at ⟨w.heap.size, 0, none⟩ o = ⟨w.heap.size, o, none⟩ from rfl, World.frozen?_alloc_new]⟩

theorem blk_arr {ρ : Emb} {B : Nat} {w : World} (hB : B ≤ w.heap.size) (cs : List XV) (arr : Array Value) (t : TypeId) {esz : Nat} (hz : 0 < esz) (hfl : Flat cs) (hlen : cs.length ≤ arr.size)
    (h : ∀ (i : Nat) (v : XV), cs[i]? = some v → v.live = true → ∃ u, arr[i]? = some u ∧ VR ρ v u) :
    BlkR ρ B (w.alloc (.cells arr t)) ⟨w.heap.size, 0, none⟩ (.cells cs (.arr esz)) := by
  obtain ⟨h1, h2⟩ := blk_own (B := B) hB cs arr t h
  refine ⟨⟨h1, hz, hfl, fun j hj => ?_⟩, fun o v ho hv => ?_⟩
  · rw [show Ent.at ⟨w.heap.size, 0, none⟩ j = ⟨w.heap.size, j, none⟩ from rfl, World.cell?_alloc_new, World.frozen?_alloc_new]
    refine ⟨?_, rfl⟩
    simp; omega
  · obtain ⟨u, q1, q2, q3⟩ := h2 o v ho hv
    exact ⟨u, q1, q2, fun _ => q3 (by simp)⟩

/-- a row is given up -/
theorem rel_kill {B : Nat} {w0 : World} {ρ : Emb} {S : XS} {w : World} (h : Rel B w0 ρ S w) (base b : Nat) {e0 : Ent} (he0 : ρ b = some e0) (cs : List XV) (k : XKind) (hk : k ≠ .ro) (hg : S.get b = .cells cs k) (hne : 0 < k.room cs) :
    Rel B w0 ρ (S.kill base b (k.room cs)) w ∧ Ev base ρ S w ρ (S.kill base b (k.room cs)) w (if b < base then noteAll b (k.room cs) [] else []) := by
  have hng : (S.get b).isGone = false := by rw [hg]; rfl
  have hsame : (S.kill base b (k.room cs)).get b = .gone := XS.get_kill_same _ _ hng
  have hother : ∀ c, c ≠ b → (S.kill base b (k.room cs)).get c = S.get c := fun c hc => XS.get_kill_other S base _ hc
  refine ⟨⟨h.below, h.Bw, fun c e hc => by simpa using h.dom c e hc, fun c e hc => ?_, fun c c' e e' hc hc' hq hn => ?_, h.lt, h.fz⟩,
    ⟨Emb.le_refl ρ, fun _ _ q _ => q, by simp, Nat.le_refl _, fun c hlt => ?_, fun c hgc hlt => ?_, fun p hp => ?_, fun c e' hc hq => .inr (.inl ⟨c, e', hq, hc, rfl⟩), fun r o hr => .inl (SameAt.refl _ _ _), fun r hr => .inl rfl, fun r o q1 q2 => ⟨q1, q2⟩, fun p hp => ?_, fun p hp => ?_, fun _ _ _ _ q _ => q⟩⟩
  · by_cases hcb : c = b
    · subst hcb; rw [hsame]; trivial
    · rw [hother c hcb]; exact h.blk c e hc
  · by_cases hcb : c = b
    · subst hcb; rw [hsame]; exact .inr (.inl rfl)
    · by_cases hcb' : c' = b
      · subst hcb'; rw [hsame]; exact .inr (.inr rfl)
      · rw [hother c hcb, hother c' hcb']; exact h.inj c c' e e' hc hc' hq hn
  · by_cases hcb : c = b
    · subst hcb
      rw [hsame, hg, if_pos hlt]
      exact ⟨hne, fun o ho => (mem_noteAll _ _ _ _).2 (.inl ⟨rfl, ho⟩)⟩
    · rw [hother c hcb]; exact BlkFrame.refl _ _ _
  · by_cases hcb : c = b
    · subst hcb; rw [hsame]; rfl
    · rw [hother c hcb]; exact hgc
  · split at hp
    · rcases (mem_noteAll _ _ _ _).1 hp with ⟨q, _⟩ | q
      · rw [q]; assumption
      · cases q
    · cases hp
  · split at hp
    · rcases (mem_noteAll _ _ _ _).1 hp with ⟨q, _⟩ | q
      · rw [q]; exact ⟨e0, he0⟩
      · cases q
    · cases hp
  · split at hp
    · rcases (mem_noteAll _ _ _ _).1 hp with ⟨q, q2⟩ | q
      · rw [q, hg]; exact ⟨q2, hk⟩
      · cases q
    · cases hp

/-- what was appended went into the row's own spare room -/
theorem rel_inplace {B : Nat} {w0 : World} {ρ : Emb} {S : XS} {w : World} (h : Rel B w0 ρ S w) (base : Nat) (hbase : base ≤ S.size) {b : Nat} {e : Ent} (he : ρ b = some e) {cs : List XV} {esz n m rsz : Nat}
    (hg : S.get b = .cells cs (.loose esz n)) (hl : e.loose = some (esz, n, rsz)) {new : List XV} {us : List Value} (hnew : VLs ρ new us) (hfl : Flat new) (hnl : new.length = m * esz)
    (hroom : e.sh + (n + m) * esz ≤ rsz) :
    Rel B w0 (ρ.set S.size ⟨e.blk, e.sh, some (esz, n + m, rsz)⟩) ((S.kill base b (cs.length + 1)).push (.cells (cs ++ new) (.loose esz (n + m)))) (setCells w e.blk (e.sh + n * esz) us) ∧
    Ev base ρ S w (ρ.set S.size ⟨e.blk, e.sh, some (esz, n + m, rsz)⟩) ((S.kill base b (cs.length + 1)).push (.cells (cs ++ new) (.loose esz (n + m)))) (setCells w e.blk (e.sh + n * esz) us)
      (if b < base then noteAll b (cs.length + 1) [] else []) := by
  have hf := h.fresh
  obtain ⟨hrk, hek⟩ := rel_kill h base b he cs (.loose esz n) (by simp) hg (by simp [XKind.room])
  change Rel B w0 ρ (S.kill base b (cs.length + 1)) w at hrk
  change Ev base ρ S w ρ (S.kill base b (cs.length + 1)) w (if b < base then noteAll b (cs.length + 1) [] else []) at hek
  generalize hE : (⟨e.blk, e.sh, some (esz, n + m, rsz)⟩ : Ent) = E at *
  generalize hX : (XBlk.cells (cs ++ new) (.loose esz (n + m))) = X at *
  generalize hK : S.kill base b (cs.length + 1) = K at *
  have hKs : K.size = S.size := by rw [← hK]; simp
  have hle : ρ.le (ρ.set S.size E) := Emb.le_set hf
  have hblk := h.blk b e he
  rw [hg] at hblk
  obtain ⟨⟨hBe, hz, hcl, hcf, rsz', hl', hin, hroomy⟩, hcells⟩ := hblk
  rw [hl] at hl'
  injection hl' with hl'
  simp only [Prod.mk.injEq, true_and] at hl'
  subst hl'
  have hmul : (n + m) * esz = n * esz + m * esz := Nat.add_mul ..
  have hng : (S.get b).isGone = false := by rw [hg]; rfl
  have hKb : K.get b = .gone := by rw [← hK]; exact XS.get_kill_same _ _ hng
  have hKo : ∀ c, c ≠ b → K.get c = S.get c := fun c hc => by rw [← hK]; exact XS.get_kill_other S base _ hc
  have hbS := h.dom b e he
  have cases_ : ∀ c x, ρ.set S.size E c = some x → (c = S.size ∧ x = E) ∨ (c ≠ S.size ∧ ρ c = some x) := by
    intro c x hx
    unfold Emb.set at hx
    simp only at hx
    split at hx
    · rename_i hq; exact .inl ⟨hq, by injection hx with hx; exact hx.symm⟩
    · rename_i hq; exact .inr ⟨hq, hx⟩
  have hKlen : (K.push X).get S.size = X := by rw [← hKs]; exact XS.get_push_new K X
  have hKp : ∀ c, c ≠ S.size → (K.push X).get c = K.get c := fun c hc => XS.get_push_old K X (by omega)
  -- every other block of that real row is gone
  have hgone : ∀ c x, ρ c = some x → x.blk = e.blk → (K.get c).isGone = true := by
    intro c x hx hq
    by_cases hcb : c = b
    · subst hcb; rw [hKb]; rfl
    · rw [hKo c hcb]
      rcases h.inj c b x e hx he hq hcb with hq1 | hq1 | hq1
      · have := hq1.2; rw [hg] at this; simp [XBlk.isRo] at this
      · exact hq1
      · rw [hng] at hq1; cases hq1
  have hEb : E.blk = e.blk := by rw [← hE]
  have hEs : E.sh = e.sh := by rw [← hE]
  have hcell : ∀ i, (setCells w e.blk (e.sh + n * esz) us).frozen? ⟨e.blk, i, none⟩ = w.frozen? ⟨e.blk, i, none⟩ := fun i => setCells_frozen _ _ _ _ _
  have hfz : Froz B (ρ.set S.size E) (setCells w e.blk (e.sh + n * esz) us) := by
    have hk := h.fz.but he hBe (w' := setCells w e.blk (e.sh + n * esz) us) fun r hr => setCells_other _ hr _ _ _
    refine ⟨hk.ok, hk.zc, fun c x hx hBx t o' => ?_⟩
    rcases cases_ c x hx with ⟨_, rfl⟩ | ⟨_, hx⟩
    · rw [hEb]; exact h.fz.zd b e he hBe t o'
    · exact h.fz.zd c x hx hBx t o'
  refine ⟨⟨setCells_below _ hBe _ _ _ h.below, h.Bw, ?_, ?_, ?_, ?_, hfz⟩, ⟨hle, ?_, ?_, ?_, ?_, ?_, hek.wb, ?_, ?_, ?_, fun r i q1 q2 => ⟨?_, (setCells_frozen _ _ _ _ _).trans q2⟩, hek.wd, hek.wl, fun _ _ _ _ q _ => q⟩⟩
  · intro c x hx
    rcases cases_ c x hx with ⟨rfl, _⟩ | ⟨_, hx⟩
    · simp [hKs]
    · have := h.dom c x hx; simp [hKs]; omega
  · intro c x hx
    rcases cases_ c x hx with ⟨rfl, rfl⟩ | ⟨hne', hx⟩
    · rw [hKlen, ← hX]
      refine ⟨⟨by rw [hEb]; exact hBe, hz, by simp [hcl, hnl, hmul], hcf.append hfl, rsz, by rw [← hE], by rw [hEs]; exact hroom, fun j hj => ?_⟩, fun i v hi hv => ?_⟩
      · rw [hEb]
        exact ⟨setCells_some _ _ _ _ _ (hroomy j hj).1, (hcell j).trans (hroomy j hj).2⟩
      · have hat : Ent.at x i = ⟨e.blk, i + e.sh, none⟩ := by unfold Ent.at; rw [hEb, hEs]
        rw [hat]
        have hul := hnew.1
        rcases Nat.lt_or_ge i cs.length with him | him
        · rw [List.getElem?_append_left him] at hi
          obtain ⟨u, hu, hr, _⟩ := hcells i v hi hv
          refine ⟨u, ?_, hr.mono hle, fun _ => ?_⟩
          · rw [setCells_out _ _ _ _ _ (.inl (by omega))]; exact hu
          · rw [hcell]; exact (hroomy _ (by omega)).2
        · rw [List.getElem?_append_right him] at hi
          have hlt : i - cs.length < new.length := by
            rcases Nat.lt_or_ge (i - cs.length) new.length with q | q
            · exact q
            · rw [List.getElem?_eq_none q] at hi; cases hi
          have hu := List.getElem?_eq_getElem (l := us) (i := i - cs.length) (by omega)
          refine ⟨us[i - cs.length]'(by omega), ?_, (hnew.2 _ v _ hi hu hv).mono hle, fun _ => ?_⟩
          · have := setCells_in e.blk us (e.sh + n * esz) w (fun j hj => (hroomy _ (by omega)).1) (i - cs.length) _ hu
            rwa [show e.sh + n * esz + (i - cs.length) = i + e.sh by omega] at this
          · rw [hcell]; exact (hroomy _ (by omega)).2
    · rw [hKp c hne']
      by_cases hq : x.blk = e.blk
      · have := hgone c x hx hq
        revert this; cases K.get c <;> simp [XBlk.isGone, BlkR]
      · have := hrk.blk c x hx
        exact this.move hle (setCells_other _ hq _ _ _)
  · intro c c' x x' hx hx' hq hn
    rcases cases_ c x hx with ⟨q1, q2⟩ | ⟨hne1, hx1⟩
    · rcases cases_ c' x' hx' with ⟨q3, q4⟩ | ⟨hne2, hx2⟩
      · exact absurd (q1.trans q3.symm) hn
      · refine .inr (.inr ?_)
        rw [hKp c' hne2]
        exact hgone c' x' hx2 (by rw [← hq, q2, hEb])
    · rcases cases_ c' x' hx' with ⟨q3, q4⟩ | ⟨hne2, hx2⟩
      · refine .inr (.inl ?_)
        rw [hKp c hne1]
        exact hgone c x hx1 (by rw [hq, q4, hEb])
      · rw [hKp c hne1, hKp c' hne2]
        exact hrk.inj c c' x x' hx1 hx2 hq hn
  · intro c x hx
    rw [setCells_size]
    rcases cases_ c x hx with ⟨rfl, rfl⟩ | ⟨_, hx⟩
    · rw [hEb]; exact h.lt b e he
    · exact h.lt c x hx
  · intro c x hx hlt
    rcases cases_ c x hx with ⟨rfl, rfl⟩ | ⟨_, hx⟩
    · omega
    · exact hx
  · simp [hKs]
  · rw [setCells_size]; exact Nat.le_refl _
  · intro c hlt
    rw [hKp c (by omega)]
    exact hek.canon c hlt
  · intro c hgc hlt
    rw [hKp c (by omega)]
    exact hek.gone c hgc hlt
  · intro c x hx hlt
    rcases cases_ c x hx with ⟨rfl, rfl⟩ | ⟨_, hx⟩
    · rcases Nat.lt_or_ge b base with hb | hb
      · refine .inr (.inr ⟨(b, 0), ?_, e, he, hEb.symm, ?_⟩)
        · rw [if_pos hb]
          exact (mem_noteAll _ _ _ _).2 (.inl ⟨rfl, by simp⟩)
        · rw [hKp b (by omega), hKb]; rfl
      · exact .inr (.inl ⟨b, e, hb, he, hEb.symm⟩)
    · exact .inr (.inl ⟨c, x, hlt, hx, rfl⟩)
  · intro r i hr
    by_cases hre : r = e.blk
    · rcases Nat.lt_or_ge b base with hb | hb
      · refine .inr (.inl ⟨(b, 0), ?_, e, he, hre.symm, .inr ?_⟩)
        · rw [if_pos hb]
          exact (mem_noteAll _ _ _ _).2 (.inl ⟨rfl, by simp⟩)
        · rw [hKp b (by omega), hKb]; rfl
      · exact .inr (.inr ⟨b, e, hb, he, hre.symm⟩)
    · exact .inl (SameAt.of_block (setCells_other _ hre _ _ _) i)
  · intro r hr
    by_cases hre : r = e.blk
    · rcases Nat.lt_or_ge b base with hb | hb
      · refine .inr (.inl ⟨(b, 0), ?_, e, he, hre.symm⟩)
        rw [if_pos hb]
        exact (mem_noteAll _ _ _ _).2 (.inl ⟨rfl, by simp⟩)
      · exact .inr (.inr ⟨b, e, hb, he, hre.symm⟩)
    · exact .inl (setCells_other _ hre _ _ _)
  · by_cases hre : r = e.blk
    · subst hre; exact setCells_some _ _ _ _ _ q1
    · rw [(SameAt.of_block (setCells_other _ hre _ _ _) i).1]; exact q1

/-- an iterator goes on -/
theorem rel_iter {B : Nat} {w0 : World} {ρ : Emb} {S : XS} {w : World} (h : Rel B w0 ρ S w) (base : Nat) {b : Nat} {e : Ent} (he : ρ b = some e) {s : List UInt8} {pos pos' : Nat} (hg : S.get b = .iter s pos) :
    Rel B w0 ρ ((S.put b (.iter s pos')).note base b 0) { w with heap := w.heap.setIfInBounds e.blk (.stringIter ⟨s.toArray⟩ pos') } ∧
    Ev base ρ S w ρ ((S.put b (.iter s pos')).note base b 0) { w with heap := w.heap.setIfInBounds e.blk (.stringIter ⟨s.toArray⟩ pos') } (if b < base then [(b, 0)] else []) := by
  have hng : (S.get b).isGone = false := by rw [hg]; rfl
  have hblk := h.blk b e he
  rw [hg] at hblk
  obtain ⟨⟨hBe, hsh0, hlo0⟩, hobj⟩ := hblk
  generalize hw' : ({ w with heap := w.heap.setIfInBounds e.blk (.stringIter ⟨s.toArray⟩ pos') } : World) = w' at *
  have hsz : w'.heap.size = w.heap.size := by rw [← hw']; simp
  have hoth : ∀ r, r ≠ e.blk → w'.heap[r]? = w.heap[r]? := fun r hr => by rw [← hw']; simp [Array.getElem?_setIfInBounds]; omega
  have hhere : w'.heap[e.blk]? = some (.stringIter ⟨s.toArray⟩ pos') := by
    rw [← hw']
    have : e.blk < w.heap.size := h.lt b e he
    simp [this]
  have hsame : ((S.put b (.iter s pos')).note base b 0).get b = .iter s pos' := by rw [XS.get_note, XS.get_put_same _ hng]
  have hother : ∀ c, c ≠ b → ((S.put b (.iter s pos')).note base b 0).get c = S.get c := fun c hc => by rw [XS.get_note, XS.get_put_other _ hc]
  have hbel : Below B w0 w' := h.below.trans (by
    rw [← hw']
    refine ⟨rfl, rfl, rfl, by simp, fun k hk => ?_⟩
    simp [Array.getElem?_setIfInBounds]; omega)
  refine ⟨⟨hbel, h.Bw, fun c x hx => by simpa using h.dom c x hx, fun c x hx => ?_, fun c c' x x' hx hx' hq hn => ?_, fun c x hx => by rw [hsz]; exact h.lt c x hx, h.fz.but he hBe hoth⟩,
    ⟨Emb.le_refl ρ, fun _ _ q _ => q, by simp, by omega, fun c hlt => ?_, fun c hgc hlt => ?_, fun p hp => ?_, fun c e' hc hq => .inr (.inl ⟨c, e', hq, hc, rfl⟩), fun r o hr => ?_, fun r hr => ?_, fun r o q1 q2 => ?_, fun p hp => ?_, fun p hp => ?_, fun _ _ _ _ q _ => q⟩⟩
  · by_cases hcb : c = b
    · subst hcb; rw [he] at hx; injection hx with hx; subst hx; rw [hsame]; exact ⟨⟨hBe, hsh0, hlo0⟩, hhere⟩
    · rw [hother c hcb]
      by_cases hgc : (S.get c).isGone = true
      · revert hgc; cases S.get c <;> simp [XBlk.isGone, BlkR]
      · refine (h.blk c x hx).move (Emb.le_refl ρ) (hoth _ fun hq => ?_)
        rcases h.inj c b x e hx he hq hcb with hq1 | hq1 | hq1
        · have := hq1.2; rw [hg] at this; simp [XBlk.isRo] at this
        · exact hgc hq1
        · rw [hng] at hq1; cases hq1
  · have hgo : ∀ d, (((S.put b (.iter s pos')).note base b 0).get d).isGone = (S.get d).isGone ∧ (((S.put b (.iter s pos')).note base b 0).get d).isRo = (S.get d).isRo := fun d => by
      by_cases hd : d = b
      · subst hd; rw [hsame, hg]; exact ⟨rfl, rfl⟩
      · rw [hother d hd]; exact ⟨rfl, rfl⟩
    rw [(hgo c).1, (hgo c').1, (hgo c).2, (hgo c').2]
    exact h.inj c c' x x' hx hx' hq hn
  · by_cases hcb : c = b
    · subst hcb
      rw [hsame, hg, if_pos hlt]
      exact ⟨rfl, fun hm => absurd (by simp) hm⟩
    · rw [hother c hcb]; exact BlkFrame.refl _ _ _
  · by_cases hcb : c = b
    · subst hcb; rw [hng] at hgc; cases hgc
    · rw [hother c hcb]; exact hgc
  · split at hp
    · simp at hp; subst hp; assumption
    · cases hp
  · by_cases hre : r = e.blk
    · subst hre
      rcases Nat.lt_or_ge b base with hb | hb
      · refine .inl ⟨?_, ?_⟩
        · unfold World.cell?; rw [hhere, hobj]
        · unfold World.frozen?; rw [hhere, hobj]
      · exact .inr (.inr ⟨b, e, hb, he, rfl⟩)
    · exact .inl (SameAt.of_block (hoth r hre) o)
  · by_cases hre : r = e.blk
    · subst hre
      rcases Nat.lt_or_ge b base with hb | hb
      · exact .inr (.inl ⟨(b, 0), by simp [hb], e, he, rfl⟩)
      · exact .inr (.inr ⟨b, e, hb, he, rfl⟩)
    · exact .inl (hoth r hre)
  · by_cases hre : r = e.blk
    · subst hre; unfold World.cell? at q1; rw [hobj] at q1; simp at q1
    · have hs := SameAt.of_block (hoth r hre) o
      exact ⟨by rw [hs.1]; exact q1, by rw [hs.2]; exact q2⟩
  · split at hp
    · simp at hp; subst hp; exact ⟨e, he⟩
    · cases hp
  · split at hp
    · simp at hp; subst hp; simp only; rw [hg]; rfl
    · cases hp

end Go.XM

namespace Go.XM
set_option linter.unusedVariables false
set_option linter.unusedSimpArgs false
open Go.RowKit
set_option linter.unusedVariables false

/-! ### operands -/
def TR (ρ : Emb) (T : Tmps) (tmps : Array Value) : Prop := ∀ t, (tget T t).live = true → VR ρ (tget T t) (tmps.getD t undef)

theorem bytes_eta (s : ByteArray) : (⟨s.data.toList.toArray⟩ : ByteArray) = s := by cases s; simp

theorem ofCell_vr {ρ : Emb} {c : Value} {v : XV} (h : XV.ofCell c = some v) : VR ρ v c := by
  unfold XV.ofCell at h
  split at h <;> first | cases h | skip
  all_goals constructor

theorem ofCells_vr {ρ : Emb} : ∀ {cs : List Value} {vs : List XV}, ofCells cs = some vs → VRs ρ vs cs
  | [], vs, h => by simp only [ofCells] at h; injection h with h; subst h; exact .nil
  | c :: cs, vs, h => by
    simp only [ofCells] at h
    split at h
    · rename_i a b ha hb
      injection h with h
      subst h
      exact .cons _ _ _ _ (ofCell_vr ha) (ofCells_vr hb)
    · cases h

theorem ofValue_vr {ρ : Emb} {c : Value} {v : XV} (h : XV.ofValue c = some v) : VR ρ v c := by
  unfold XV.ofValue at h
  split at h
  · rename_i cs
    split at h
    · rename_i l hl
      injection h with h
      subst h
      have := VR.agg (ρ := ρ) _ _ (ofCells_vr hl)
      simpa using this
    · cases h
  · rename_i vs
    split at h
    · rename_i he
      injection h with h
      subst h
      have he' : vs.toList = [] := by simpa using he
      have : vs = #[] := by simpa using he'
      subst this
      exact VR.tuple [] [] .nil
    · cases h
  · exact ofCell_vr h

theorem evalX_vr {ρ : Emb} {T : Tmps} {a : Act} (hT : TR ρ T a.tmps) {x : Operand} {v : XV} (h : evalX T x = some v) : VR ρ v (a.eval x) := by
  cases x with
  | tmp t =>
    simp only [evalX] at h
    split at h
    · rename_i hl; injection h with h; subst h; exact hT t hl
    · cases h
  | const c => exact ofValue_vr h
  | global g => cases h
  | func f => simp only [evalX] at h; injection h with h; subst h; exact VR.func f [] [] .nil

theorem evalAll_vr {ρ : Emb} {T : Tmps} {a : Act} (hT : TR ρ T a.tmps) : ∀ {xs : List Operand} {vs : List XV}, evalAll T xs = some vs → VRs ρ vs (xs.map a.eval)
  | [], vs, h => by simp only [evalAll] at h; injection h with h; subst h; exact .nil
  | x :: xs, vs, h => by
    simp only [evalAll] at h
    split at h
    · rename_i v l hv hl
      injection h with h
      subst h
      exact .cons _ _ _ _ (evalX_vr hT hv) (evalAll_vr hT hl)
    · cases h

/-- the parts of a literal -/
def PR (ρ : Emb) : List (Nat × XV) → List (Nat × Value) → Prop
  | [], [] => True
  | (i, v) :: l, (j, u) :: m => i = j ∧ VR ρ v u ∧ PR ρ l m
  | _, _ => False

theorem evalParts_vr {ρ : Emb} {T : Tmps} {a : Act} (hT : TR ρ T a.tmps) : ∀ {xs : List (Nat × Operand)} {vs : List (Nat × XV)}, evalParts T xs = some vs → PR ρ vs (xs.map fun p => (p.1, a.eval p.2))
  | [], vs, h => by simp only [evalParts] at h; injection h with h; subst h; trivial
  | (i, x) :: xs, vs, h => by
    simp only [evalParts] at h
    split at h
    · rename_i v l hv hl
      injection h with h
      subst h
      exact ⟨rfl, evalX_vr hT hv, evalParts_vr hT hl⟩
    · cases h

/-! ### what the tables say -/
section
variable {P : Program}
theorem run_info {t : TypeId} {i : TypeInfo} (h : P.info? t = some i) (w : World) : (typeInfo t).run P w = .ok i w := by simp [typeInfo, h]
theorem run_size {t : TypeId} {n : Nat} (h : tsize P t = some n) (w : World) : (sizeOf t).run P w = .ok n w := by
  unfold tsize at h
  split at h
  · rename_i i hi; injection h with h; simp [sizeOf, run_info hi, h]
  · cases h
theorem run_agg {t : TypeId} {b : Bool} (h : tagg P t = some b) (w : World) : (isAgg t).run P w = .ok b w := by
  unfold tagg at h
  split at h
  · rename_i fs hd; injection h with h; subst h; simp [isAgg, run_underlying hd]
  · rename_i n e hd; injection h with h; subst h; simp [isAgg, run_underlying hd]
  · rename_i d h1 h2 hd
    injection h with h
    subst h
    simp only [isAgg, Sem.run_bind, run_underlying hd, Result.andThen_ok]
    rfl
  · cases h
theorem run_zero {t : TypeId} {z : List XV} (h : zeroCells P t = some z) {ρ : Emb} (w : World) : ∃ u, (zeroValue t).run P w = .ok u w ∧ VRs ρ z u.cells.toList := by
  unfold zeroCells at h
  split at h
  · rename_i i hi
    split at h
    · rename_i c hc
      split at h
      · rename_i v hv
        injection h with h
        subst h
        exact ⟨c, by simp [zeroValue, run_info hi, hc], cells_of (ofValue_vr hv)⟩
      · cases h
    · cases h
  · cases h
theorem slice_elem {t e : TypeId} (h : sliceElem P t = some e) : P.underlying t = some (.slice e) := by
  unfold sliceElem at h
  split at h
  · rename_i e' he; injection h with h; subst h; exact he
  · cases h
theorem is_str {t : TypeId} (h : isStrT P t = true) : P.underlying t = some .string := by
  unfold isStrT at h
  split at h
  · assumption
  · cases h
theorem is_u8 {t : TypeId} (h : isU8 P t = true) : P.underlying t = some (.int .u8) := by
  unfold isU8 at h
  split at h
  · assumption
  · cases h
theorem is_i32 {t : TypeId} (h : isI32 P t = true) : P.underlying t = some (.int .i32) := by
  unfold isI32 at h
  split at h
  · assumption
  · cases h
theorem int_t {t : TypeId} {k : IntKind} (h : intT P t = some k) : P.underlying t = some (.int k) := by
  unfold intT at h
  split at h
  · injection h with h; subst h; assumption
  · cases h
end

/-- what an operation comes to -/
def Sim (P : Program) (B : Nat) (w0 : World) (base : Nat) (ρ : Emb) (S : XS) (w : World) (s : Sem Value) (v : XV) (S' : XS) : Prop :=
  ∃ u w' ρ' W, s.run P w = .ok u w' ∧ VR ρ' v u ∧ Rel B w0 ρ' S' w' ∧ Ev base ρ S w ρ' S' w' W ∧ S'.log = W ++ S.log

theorem Sim.pure {P : Program} {B : Nat} {w0 : World} {base : Nat} {ρ : Emb} {S : XS} {w : World} (h : Rel B w0 ρ S w) {s : Sem Value} {v : XV} {u : Value} (hs : s.run P w = .ok u w) (hv : VR ρ v u) :
    Sim P B w0 base ρ S w s v S := ⟨u, w, ρ, [], hs, hv, h, Ev.refl, rfl⟩

section
variable {P : Program} {B : Nat} {w0 : World} {base : Nat} {ρ : Emb} {S : XS} {w : World}

theorem cellsL_get {cs : List XV} : ∀ (n o : Nat) (l : List XV), cellsL cs o n = some l → l.length = n ∧ ∀ i v, l[i]? = some v → cs[o + i]? = some v ∧ v.live = true
  | 0, o, l, h => by simp only [cellsL] at h; injection h with h; subst h; exact ⟨rfl, fun i v hi => by simp at hi⟩
  | n + 1, o, l, h => by
    simp only [cellsL] at h
    split at h
    case h_2 => cases h
    case h_1 v hv =>
    split at h
    case h_2 => cases h
    case h_1 r hr =>
    injection h with h
    subst h
    obtain ⟨h1, h2⟩ := cellsL_get n (o + 1) r hr
    have hv' : cs[o]? = some v ∧ v.live = true := by
      unfold cellAt at hv
      split at hv
      · rename_i x hx
        split at hv
        · rename_i hl; injection hv with hv; subst hv; exact ⟨hx, hl⟩
        · cases hv
      · cases hv
    refine ⟨by simp [h1], fun i x hi => ?_⟩
    cases i with
    | zero => simp at hi; subst hi; exact hv'
    | succ i =>
      simp at hi
      have := h2 i x hi
      rwa [show o + 1 + i = o + (i + 1) by omega] at this

/-- reading a plain row -/
theorem rptr_read (h : Rel B w0 ρ S w) {t : Bool} {cs : List XV} {o : Nat} {q : Value} (hp : VR ρ (.rptr t cs o) q) :
    ∃ a : Addr, q = .pointer (some a) ∧ ∀ i v, cs[o + i]? = some v → v.live = true → ∃ u, w.cell? (a.add i) = some u ∧ VR ρ v u := by
  cases hp with
  | rptr _ _ _ _ h1 =>
  cases h1 with
  | rptr _ _ _ _ us r off q1 q2 =>
  refine ⟨_, rfl, fun i v hi hl => ?_⟩
  obtain ⟨u, hu, hr⟩ := q1.get hi hl
  have hz := h.fz.zc _ _ _ _ (q2 _ _ hu)
  refine ⟨u, ?_, DR.vr (hr.mono (h.fz.ok.cut t))⟩
  unfold Addr.add
  split
  · rename_i h0; subst h0
    rw [show o + off = off + (o + 0) by omega]; exact hz
  · show w.cell? ⟨r, o + off + i, none⟩ = some u
    rw [show o + off + i = off + (o + i) by omega]; exact hz

theorem rptr_cells (h : Rel B w0 ρ S w) {t : Bool} {cs : List XV} {o n : Nat} {q : Value} (hp : VR ρ (.rptr t cs o) q) {l : List XV} (hl : cellsL cs o n = some l) :
    ∃ (a : Addr) (us : List Value), q = .pointer (some a) ∧ VRs ρ l us ∧ us.length = n ∧ ∀ j u, us[j]? = some u → w.cell? (a.add j) = some u := by
  obtain ⟨a, rfl, hr⟩ := rptr_read h hp
  obtain ⟨h1, h2⟩ := cellsL_get n o l hl
  have hex : ∀ i, ∃ u, ∀ v, l[i]? = some v → w.cell? (a.add i) = some u ∧ VR ρ v u := fun i => by
    cases hq : l[i]? with
    | none => exact ⟨undef, fun v hv => by cases hv⟩
    | some v =>
      obtain ⟨q1, q2⟩ := h2 i v hq
      obtain ⟨u, hu, hvr⟩ := hr i v q1 q2
      exact ⟨u, fun v' hv' => by injection hv' with hv'; subst hv'; exact ⟨hu, hvr⟩⟩
  obtain ⟨f, hf⟩ := Classical.axiomOfChoice hex
  refine ⟨a, (List.range n).map f, rfl, VRs.of_get (by simp [h1]) fun i x v hx hv => ?_, by simp, fun j u hj => ?_⟩
  · have hi : i < n := by
      rcases Nat.lt_or_ge i n with q | q
      · exact q
      · rw [List.getElem?_eq_none (by omega)] at hx; cases hx
    simp [hi] at hv
    subst hv
    exact (hf i x hx).2
  · have hi : j < n := by
      rcases Nat.lt_or_ge j n with q | q
      · exact q
      · rw [List.getElem?_eq_none (by simpa using q)] at hj; cases hj
    simp [hi] at hj
    subst hj
    exact (hf j _ (List.getElem?_eq_getElem (by omega))).1

theorem cellAt_get {cs : List XV} {o : Nat} {v : XV} (h : cellAt cs o = some v) : cs[o]? = some v ∧ v.live = true := by
  unfold cellAt at h
  split at h
  · rename_i x hx
    split at h
    · rename_i hl; injection h with h; subst h; exact ⟨hx, hl⟩
    · cases h
  · cases h

theorem xload_sound (h : Rel B w0 ρ S w) {t : TypeId} {p v : XV} {q : Value} (hp : VR ρ p q) (hx : xload P S t p = some v) : Sim P B w0 base ρ S w (Instr.loadAt t q) v S := by
  unfold xload at hx
  split at hx
  case h_3 => cases hx
  case h_1 tg cs o =>
    split at hx
    case h_3 => cases hx
    case h_1 hag =>
      split at hx
      case h_2 => cases hx
      case h_1 n hn =>
      split at hx
      case h_2 => cases hx
      case h_1 l hl =>
      injection hx with hx
      subst hx
      obtain ⟨a, us, rfl, h1, h2, h3⟩ := rptr_cells h hp hl
      refine Sim.pure h (u := .agg us.toArray) ?_ (.agg _ _ h1)
      have := run_loadCells_list (P := P) w a us h3
      rw [h2] at this
      simp [Instr.loadAt, Instr.sureAddr, loadVar, run_agg hag, run_size hn, this]
    case h_2 hag =>
      obtain ⟨a, rfl, hr⟩ := rptr_read h hp
      obtain ⟨q1, q2⟩ := cellAt_get hx
      obtain ⟨u, hu, hvr⟩ := hr 0 v (by simpa using q1) q2
      refine Sim.pure h (u := u) ?_ hvr
      have h0 : a.add 0 = a := by simp [Addr.add]
      rw [h0] at hu
      simp [Instr.loadAt, Instr.sureAddr, loadVar, run_agg hag, hu]
  case h_2 b o =>
  cases hp with
  | ptr _ _ e he =>
  split at hx
  case h_3 => cases hx
  case h_1 hag =>
    split at hx
    case h_2 => cases hx
    case h_1 n hn =>
    split at hx
    case h_2 => cases hx
    case h_1 cs hcs =>
    injection hx with hx
    subst hx
    obtain ⟨us, h1, h2, h3⟩ := cells_read h he n o cs hcs
    refine Sim.pure h (u := .agg us.toArray) ?_ (.agg _ _ h1)
    have := run_loadCells_list (P := P) w (e.at o) us h3
    rw [h2] at this
    simp [Instr.loadAt, Instr.sureAddr, loadVar, run_agg hag, run_size hn, this]
  case h_2 hag =>
    obtain ⟨u, hu, hr⟩ := cell_read h he hx
    refine Sim.pure h (u := u) ?_ hr
    simp [Instr.loadAt, Instr.sureAddr, loadVar, run_agg hag, hu]

theorem xstore_sound (h : Rel B w0 ρ S w) (hb : base ≤ S.size) {t : TypeId} {p x : XV} {q y : Value} {S' : XS} (hp : VR ρ p q) (hv : VR ρ x y) (hx : xstore P base S t p x = some S') :
    ∃ w' W, (Instr.storeAt t q y).run P w = .ok () w' ∧ Rel B w0 ρ S' w' ∧ Ev base ρ S w ρ S' w' W ∧ S'.log = W ++ S.log := by
  unfold xstore at hx
  split at hx
  case h_2 => cases hx
  case h_1 b o =>
  split at hx
  case isFalse => cases hx
  rename_i hsz
  cases hp with
  | ptr _ _ e he =>
  obtain ⟨h1, h2, W, h3, h4, h5, h6⟩ := rel_storeN he x.cells y.cells.toList o S S' w h hb hx (cells_of hv)
  refine ⟨_, W, ?_, h3, h4, h5⟩
  have hn := size_cells hv
  have := run_storeCells P e.blk y.cells.toList 0 (o + e.sh) w h1 h2
  simp only [Nat.add_zero] at this
  simp [Instr.storeAt, Instr.sureAddr, storeVar, run_size hsz, hn, Ent.at, this]

theorem alloc_own (h : Rel B w0 ρ S w) (hb : base ≤ S.size) (cs : List XV) (us : Array Value) (t : TypeId) (hv : VRs ρ cs us.toList) :
    ∃ ρ', Rel B w0 ρ' (S.push (.cells cs .own)) (w.alloc (.cells us t)) ∧ Ev base ρ S w ρ' (S.push (.cells cs .own)) (w.alloc (.cells us t)) [] ∧ ρ' S.size = some ⟨w.heap.size, 0, none⟩ := by
  have hB : B ≤ w.heap.size := Nat.le_trans h.Bw h.below.size
  obtain ⟨h1, h2⟩ := rel_alloc h base hb (.cells cs .own) (.cells us t) none (blk_own hB cs us t fun i v hi _ => by
    obtain ⟨u, hu, hr⟩ := hv.get hi
    exact ⟨u, by simpa using hu, hr⟩)
  exact ⟨_, h1, h2, Emb.set_same _ _ _⟩

/-- a row of known size: plain cells alone, or whatever -/
theorem alloc_row (h : Rel B w0 ρ S w) (hb : base ≤ S.size) (cs : List XV) (us : Array Value) (t : TypeId) (hv : VRs ρ cs us.toList) {esz : Nat} (hz : 0 < esz) :
    ∃ ρ', Rel B w0 ρ' (S.push (.cells cs (if cs.all (XV.fits (.arr esz)) then .arr esz else .own))) (w.alloc (.cells us t)) ∧ Ev base ρ S w ρ' (S.push (.cells cs (if cs.all (XV.fits (.arr esz)) then .arr esz else .own))) (w.alloc (.cells us t)) [] ∧ ρ' S.size = some ⟨w.heap.size, 0, none⟩ := by
  split
  · rename_i hfit
    have hB : B ≤ w.heap.size := Nat.le_trans h.Bw h.below.size
    have hfl : Flat cs := fun v hv _ => by
      have := List.all_eq_true.1 hfit v hv
      simpa [XV.fits, XKind.flat] using this
    obtain ⟨h1, h2⟩ := rel_alloc h base hb (.cells cs (.arr esz)) (.cells us t) none (blk_arr hB cs us t hz hfl (by have := hv.length; simp at this; omega) fun i v hi _ => by
      obtain ⟨u, hu, hr⟩ := hv.get hi
      exact ⟨u, by simpa using hu, hr⟩)
    exact ⟨_, h1, h2, Emb.set_same _ _ _⟩
  · exact alloc_own h hb cs us t hv

theorem sim_ptr {ρ' : Emb} {S' : XS} {w' : World} {s : Sem Value} {W : List (Nat × Nat)} (hr : Rel B w0 ρ' S' w') (he : Ev base ρ S w ρ' S' w' W) (hlog : S'.log = W ++ S.log) (hk : ρ' S.size = some ⟨w.heap.size, 0, none⟩)
    (hs : s.run P w = .ok (.pointer (some ⟨w.heap.size, 0, none⟩)) w') : Sim P B w0 base ρ S w s (.ptr S.size 0) S' :=
  ⟨_, w', ρ', W, hs, by have := VR.ptr (ρ := ρ') S.size 0 _ hk; simpa [Ent.at] using this, hr, he, hlog⟩

end
end Go.XM

namespace Go.XM
set_option linter.unusedVariables false
set_option linter.unusedSimpArgs false
open Go.RowKit
set_option linter.unusedVariables false

theorem foldl_set_list (off : Nat) : ∀ (l : List Value) (k : Nat) (cs : Array Value), off + k + l.length ≤ cs.size →
    ((l.zipIdx k).foldl (fun cs (p : Value × Nat) => cs.setIfInBounds (off + p.2) p.1) cs).toList = cs.toList.take (off + k) ++ l ++ cs.toList.drop (off + k + l.length)
  | [], k, cs, h => by simp
  | v :: l, k, cs, h => by
    simp only [List.zipIdx_cons, List.foldl_cons]
    simp only [List.length_cons] at h ⊢
    rw [foldl_set_list off l (k + 1) _ (by simp; omega)]
    simp only [Array.toList_setIfInBounds]
    have hlt : off + k < cs.toList.length := by simp; omega
    have e1 : (cs.toList.set (off + k) v).take (off + (k + 1)) = cs.toList.take (off + k) ++ [v] := by
      rw [show off + (k + 1) = off + k + 1 by omega, List.take_add_one, List.take_set_of_le (Nat.le_refl _), List.getElem?_set_self hlt]
      rfl
    have e2 : (cs.toList.set (off + k) v).drop (off + (k + 1) + l.length) = cs.toList.drop (off + (k + 1) + l.length) := List.drop_set_of_lt (by omega)
    rw [e1, e2, show off + (k + 1) + l.length = off + k + (l.length + 1) by omega]
    simp

theorem toList_foldl_set (off : Nat) (v cs : Array Value) (h : off + v.size ≤ cs.size) :
    (v.zipIdx.foldl (fun cs (p : Value × Nat) => cs.setIfInBounds (off + p.2) p.1) cs).toList = cs.toList.take off ++ v.toList ++ cs.toList.drop (off + v.size) := by
  rw [← Array.foldl_toList, Array.toList_zipIdx]
  have := foldl_set_list off v.toList 0 cs (by simpa using h)
  simpa using this

theorem VRs.take {ρ : Emb} {xs : List XV} {vs : List Value} (h : VRs ρ xs vs) (n : Nat) : VRs ρ (xs.take n) (vs.take n) := by
  refine VRs.of_get (by simp [h.length]) fun i x v hx hv => ?_
  rw [List.getElem?_take] at hx hv
  split at hx
  · rename_i hi
    rw [if_pos hi] at hv
    obtain ⟨u, hu, hr⟩ := h.get hx
    rw [hv] at hu; injection hu with hu; subst hu; exact hr
  · cases hx
theorem VRs.drop {ρ : Emb} {xs : List XV} {vs : List Value} (h : VRs ρ xs vs) (n : Nat) : VRs ρ (xs.drop n) (vs.drop n) := by
  refine VRs.of_get (by simp [h.length]) fun i x v hx hv => ?_
  rw [List.getElem?_drop] at hx hv
  obtain ⟨u, hu, hr⟩ := h.get hx
  rw [hv] at hu; injection hu with hu; subst hu; exact hr

theorem fill_sound {ρ : Emb} (place : Nat → Option (Nat × Nat)) : ∀ (ps : List (Nat × XV)) (qs : List (Nat × Value)) (cs cs' : List XV) (arr : Array Value), PR ρ ps qs → VRs ρ cs arr.toList →
    xfill place cs ps = some cs' → ∃ arr', Instr.fill place arr qs = some arr' ∧ VRs ρ cs' arr'.toList
  | [], [], cs, cs', arr, _, h, hx => by simp only [xfill] at hx; injection hx with hx; subst hx; exact ⟨arr, rfl, h⟩
  | (i, v) :: ps, (j, u) :: qs, cs, cs', arr, hp, h, hx => by
    obtain ⟨rfl, hv, hp⟩ := hp
    simp only [xfill] at hx
    split at hx
    · cases hx
    rename_i off size hpl
    split at hx
    case isFalse => cases hx
    rename_i hc
    have hn := size_cells hv
    have hlen := h.length
    simp only [Array.length_toList] at hlen
    have e := toList_foldl_set off u.cells arr (by omega)
    have hnew : VRs ρ (cs.take off ++ v.cells ++ cs.drop (off + size)) (u.cells.zipIdx.foldl (fun cs (p : Value × Nat) => cs.setIfInBounds (off + p.2) p.1) arr).toList := by
      rw [e, hn, hc.1]
      exact ((h.take off).append (cells_of hv)).append (h.drop _)
    obtain ⟨arr', h1, h2⟩ := fill_sound place ps qs _ cs' _ hp hnew hx
    refine ⟨arr', ?_, h2⟩
    simp only [Instr.fill, hpl]
    rw [if_neg (by simp [hn, hc.1]; omega)]
    exact h1
  | [], _ :: _, _, _, _, hp, _, _ => hp.elim
  | _ :: _, [], _, _, _, hp, _, _ => hp.elim

section
variable {P : Program} {B : Nat} {w0 : World} {base : Nat} {ρ : Emb} {S : XS} {w : World}

def placeOf (f : Field) : Sem (Nat × Nat) := do pure (f.offset, ← sizeOf f.type)
theorem places_run : ∀ (fs : List Field) (pl : List (Nat × Nat)), places P fs = some pl → (fs.mapM placeOf).run P w = .ok pl w
  | [], pl, h => by simp only [places] at h; injection h with h; subst h; simp
  | f :: fs, pl, h => by
    simp only [places] at h
    split at h
    · rename_i n l hn hl
      injection h with h
      subst h
      have := places_run fs l hl
      simp [placeOf, run_size hn, this]
    · cases h

theorem xbuild_sound (h : Rel B w0 ρ S w) {t : TypeId} {ps : List (Nat × XV)} {qs : Array (Nat × Value)} {v : XV} (hp : PR ρ ps qs.toList) (hx : xbuild P t ps = some v) : Sim P B w0 base ρ S w (Instr.build t qs) v S := by
  unfold xbuild at hx
  split at hx
  case h_3 => cases hx
  case h_1 fs hu =>
    split at hx
    case h_2 => cases hx
    case h_1 z pl hz hpl =>
    split at hx
    case h_2 => cases hx
    case h_1 cs hcs =>
    injection hx with hx
    subst hx
    obtain ⟨zv, hzr, hzv⟩ := run_zero (ρ := ρ) hz w
    obtain ⟨arr', h1, h2⟩ := fill_sound (fun i => pl[i]?) ps qs.toList z cs zv.cells hp hzv hcs
    have hpr := places_run (w := w) fs.toList pl hpl
    refine Sim.pure h (u := .agg arr') ?_ (by have := VR.agg (ρ := ρ) _ _ h2; simpa using this)
    have hm : (fs.mapM placeOf).run P w = .ok pl.toArray w := by
      rw [Array.mapM_eq_mapM_toList]
      simp [hpr]
    have h1' : Instr.fill (fun x => pl.toArray[x]?) zv.cells qs.toList = some arr' := by simpa using h1
    have hm' : (fs.mapM fun f => (do pure (f.offset, ← sizeOf f.type) : Sem (Nat × Nat))).run P w = .ok pl.toArray w := hm
    simp only [Instr.build, Sem.run_bind, hzr, run_underlying hu, hm', h1', Result.andThen_ok, Sem.run_pure]
  case h_2 n e hu =>
    split at hx
    case h_2 => cases hx
    case h_1 z sz hz hsz =>
    split at hx
    case h_2 => cases hx
    case h_1 cs hcs =>
    injection hx with hx
    subst hx
    obtain ⟨zv, hzr, hzv⟩ := run_zero (ρ := ρ) hz w
    obtain ⟨arr', h1, h2⟩ := fill_sound _ ps qs.toList z cs zv.cells hp hzv hcs
    refine Sim.pure h (u := .agg arr') ?_ (by have := VR.agg (ρ := ρ) _ _ h2; simpa using this)
    simp [Instr.build, hzr, run_underlying hu, run_size hsz, h1]

theorem repeatL_all {z : List XV} (f : XV → Bool) (h : z.all f = true) : ∀ n, (repeatL z n).all f = true
  | 0 => rfl
  | n + 1 => by rw [repeatL, List.all_append, h, repeatL_all f h n]; rfl

theorem repeatL_length (z : List XV) : ∀ n, (repeatL z n).length = n * z.length
  | 0 => by simp [repeatL]
  | n + 1 => by simp [repeatL, repeatL_length z n, Nat.succ_mul]; omega

theorem repeatL_get (z : List XV) (hz : 0 < z.length) : ∀ (n i : Nat), i < n * z.length → (repeatL z n)[i]? = z[i % z.length]?
  | 0, i, h => by simp at h
  | n + 1, i, h => by
    rw [repeatL]
    rcases Nat.lt_or_ge i z.length with hi | hi
    · rw [List.getElem?_append_left hi, Nat.mod_eq_of_lt hi]
    · rw [List.getElem?_append_right hi, repeatL_get z hz n (i - z.length) (by rw [Nat.succ_mul] at h; omega)]
      congr 1
      conv => rhs; rw [show i = (i - z.length) + z.length by omega]
      rw [Nat.add_mod_right]

theorem zeros_vr {ρ : Emb} {z : List XV} {zv : Value} (hz : VRs ρ z zv.cells.toList) (h0 : 0 < z.length) (n m : Nat) (hm : m = n * z.length) :
    VRs ρ (repeatL z n) ((Array.range m).map (zv.cells[· % zv.cells.size]!)).toList := by
  have hl := hz.length
  simp only [Array.length_toList] at hl
  subst hm
  refine VRs.of_get (by simp [repeatL_length]) fun i x v hx hv => ?_
  have hi : i < n * z.length := by
    rcases Nat.lt_or_ge i (n * z.length) with hq | hq
    · exact hq
    · rw [List.getElem?_eq_none (by rw [repeatL_length]; exact hq)] at hx; cases hx
  rw [repeatL_get z h0 n i hi] at hx
  obtain ⟨u, hu, hr⟩ := hz.get hx
  have hlt : i % z.length < zv.cells.size := by rw [← hl]; exact Nat.mod_lt _ h0
  have : v = u := by
    simp [hi] at hv
    rw [← hl] at hv
    have hu' : zv.cells[i % z.length]? = some u := by simpa using hu
    rw [getElem!_pos zv.cells _ hlt] at hv
    rw [Array.getElem?_eq_getElem hlt] at hu'
    injection hu' with hu'
    rw [← hv, ← hu']
  rw [this]; exact hr

theorem sim_slice {ρ' : Emb} {S' : XS} {w' : World} {s : Sem Value} {W : List (Nat × Nat)} (hr : Rel B w0 ρ' S' w') (he : Ev base ρ S w ρ' S' w' W) (hlog : S'.log = W ++ S.log) (hk : ρ' S.size = some ⟨w.heap.size, 0, none⟩) (len cap : Nat) (hlc : len ≤ cap)
    (hs : s.run P w = .ok (.slice (some ⟨w.heap.size, 0, none⟩) len cap) w') : Sim P B w0 base ρ S w s (.slice S.size 0 len cap) S' :=
  ⟨_, w', ρ', W, hs, by have := VR.slice (ρ := ρ') S.size 0 len cap _ hk hlc; simpa [Ent.at] using this, hr, he, hlog⟩

theorem xbuildSlice_sound (h : Rel B w0 ρ S w) (hb : base ≤ S.size) {t : TypeId} {len : Nat} {ps : List (Nat × XV)} {qs : Array (Nat × Value)} {v : XV} {S' : XS} (hp : PR ρ ps qs.toList)
    (hx : xbuildSlice P S t len ps = some (v, S')) : Sim P B w0 base ρ S w (Instr.buildSlice t len qs) v S' := by
  unfold xbuildSlice at hx
  split at hx
  case h_2 => cases hx
  case h_1 e he =>
  split at hx
  case h_2 => cases hx
  case h_1 z n hz hn =>
  split at hx
  case isFalse => cases hx
  rename_i hc
  obtain ⟨hc1, hc2, hc3⟩ := hc
  split at hx
  case h_2 => cases hx
  case h_1 cs hcs =>
  injection hx with hx
  simp only [Prod.mk.injEq] at hx
  obtain ⟨rfl, rfl⟩ := hx
  obtain ⟨zv, hzr, hzv⟩ := run_zero (ρ := ρ) hz w
  have hzeros := zeros_vr hzv (by omega) len (len * n) (by rw [hc1])
  by_cases hz0 : len * n = 0
  · have hl0 : len = 0 := by rcases Nat.mul_eq_zero.1 hz0 with q | q <;> omega
    subst hl0
    obtain ⟨arr', h1, h2⟩ := fill_sound _ ps qs.toList _ cs #[] hp (by simpa [repeatL] using VRs.nil) hcs
    obtain ⟨ρ', r1, r2, r3⟩ := alloc_row h hb cs arr' e h2 (esz := n) hc2
    refine sim_slice r1 r2 rfl r3 0 0 (Nat.le_refl _) ?_
    simp [Instr.buildSlice, run_underlying (slice_elem he), run_size hn, h1, newRow, Array.range_zero']
  · obtain ⟨arr', h1, h2⟩ := fill_sound _ ps qs.toList _ cs _ hp hzeros hcs
    obtain ⟨ρ', r1, r2, r3⟩ := alloc_row h hb cs arr' e h2 (esz := n) hc2
    refine sim_slice r1 r2 rfl r3 len len (Nat.le_refl _) ?_
    have hle : ¬ (16777216 < len * n) := by omega
    simp [Instr.buildSlice, run_underlying (slice_elem he), run_size hn, hle, hz0, hzr, h1, newRow]

theorem xmakeSlice_sound (h : Rel B w0 ρ S w) (hb : base ≤ S.size) {t : TypeId} {l c : XV} {x y : Value} {v : XV} {S' : XS} (hl : VR ρ l x) (hcp : VR ρ c y)
    (hx : xmakeSlice P S t l c = some (v, S')) : Sim P B w0 base ρ S w (Instr.makeSlice t x y) v S' := by
  unfold xmakeSlice at hx
  split at hx
  case h_2 => cases hx
  case h_1 e kl l kc c he =>
  split at hx
  case h_2 => cases hx
  case h_1 i hi =>
  split at hx
  case h_2 => cases hx
  case h_1 z hz =>
  split at hx
  case isFalse => cases hx
  rename_i hc
  obtain ⟨c1, c2, c3, c4, c5, c6⟩ := hc
  injection hx with hx
  simp only [Prod.mk.injEq] at hx
  obtain ⟨rfl, rfl⟩ := hx
  cases hl
  cases hcp
  unfold zeroCells at hz
  rw [hi] at hz
  simp only at hz
  split at hz
  case h_2 => cases hz
  case h_1 zc hzc =>
  split at hz
  case h_2 => cases hz
  case h_1 zv hzv =>
  injection hz with hz
  have hcell := cells_of (ofValue_vr (ρ := ρ) hzv)
  rw [hz] at hcell
  have hcb : c ≤ 35184372088832 := by
    have h1 : c * 1 ≤ c * (i.bytes : Int) := Int.mul_le_mul_of_nonneg_left (by omega) (by omega)
    omega
  have hrun := run_make (P := P) w t e i zc (slice_elem he) hi hzc kl kc l c c1 c2 (by rw [Int.mul_comm]; omega) (by omega)
  have hzeros := zeros_vr hcell (by omega) c.toNat (c.toNat * i.size) (by rw [c5])
  have hex : ∃ ρ', Rel B w0 ρ' (S.push (.cells (repeatL z c.toNat) (if z.all (XV.fits (.arr i.size)) then .arr i.size else .own))) (w.alloc (.cells (madeCells zc.cells (c.toNat * i.size)) e)) ∧ Ev base ρ S w ρ' (S.push (.cells (repeatL z c.toNat) (if z.all (XV.fits (.arr i.size)) then .arr i.size else .own))) (w.alloc (.cells (madeCells zc.cells (c.toNat * i.size)) e)) [] ∧ ρ' S.size = some ⟨w.heap.size, 0, none⟩ := by
    split
    · rename_i hzf
      have := alloc_row (esz := i.size) h hb (repeatL z c.toNat) (madeCells zc.cells (c.toNat * i.size)) e hzeros c6
      rwa [if_pos (repeatL_all _ hzf _)] at this
    · exact alloc_own h hb (repeatL z c.toNat) (madeCells zc.cells (c.toNat * i.size)) e hzeros
  obtain ⟨ρ', r1, r2, r3⟩ := hex
  exact sim_slice r1 r2 rfl r3 l.toNat c.toNat (by omega) hrun

end
end Go.XM
