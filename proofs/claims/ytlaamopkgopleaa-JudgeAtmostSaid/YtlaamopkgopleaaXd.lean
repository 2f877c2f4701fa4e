/- A plain machine beside the model, and that what it tells the model does: part Xd. Conditions: those of each theorem below. -/
import Derived.Test.YtlaamopkgopleaaXc
import Derived.Below
import Derived.WalkKit
namespace Go.XM
set_option linter.unusedVariables false
set_option linter.unusedSimpArgs false
open Go.RowKit
set_option linter.unusedVariables false

/-- memory that stays as it is: what stands at a place; true: what a caller lent -/
abbrev ZMap := Bool → Nat → Nat → Option Value
def ZMap.le (z z' : ZMap) : Prop := ∀ t r o v, z t r o = some v → z' t r o = some v
theorem ZMap.le_refl (z : ZMap) : z.le z := fun _ _ _ _ h => h
theorem ZMap.le_trans {a b c : ZMap} (h : a.le b) (k : b.le c) : a.le c := fun t r o v q => k t r o v (h t r o v q)
def zcut (t : Bool) (z : ZMap) : ZMap := fun t' => if t then z t' else z false
theorem zcut_le {z z' : ZMap} (h : z.le z') (t : Bool) : (zcut t z).le (zcut t z') := fun t' r o v q => by
  unfold zcut at q ⊢
  cases t with
  | true => exact h _ _ _ _ q
  | false => exact h _ _ _ _ q

/-- where a block of the plain heap lies: the real block, the shift; of a loose one: element size, elements, cells of the real block -/
structure Ent where
  blk : Nat
  sh : Nat
  loose : Option (Nat × Nat × Nat)

structure Emb where
  m : Nat → Option Ent
  z : ZMap
instance : CoeFun Emb (fun _ => Nat → Option Ent) := ⟨Emb.m⟩

def Ent.at (e : Ent) (o : Nat) : Addr := ⟨e.blk, o + e.sh, none⟩

def oneLive (cs : List XV) : Prop := ∀ v, v ∈ cs → v.live = true → v.oneCell = true

mutual
/-- plain data: what it reads, in memory that stays as it is -/
inductive DR : ZMap → XV → Value → Prop
  | bool (z : ZMap) (b : Bool) : DR z (.bool b) (.bool b)
  | int (z : ZMap) (k : IntKind) (n : Int) : DR z (.int k n) (.int k n)
  | str (z : ZMap) (s : List UInt8) : DR z (.str s) (.string ⟨s.toArray⟩)
  | nilPtr (z : ZMap) : DR z .nilPtr (.pointer none)
  | nilSlice (z : ZMap) : DR z .nilSlice (.slice none 0 0)
  | nilMap (z : ZMap) : DR z .nilMap (.map none)
  | nilFunc (z : ZMap) : DR z .nilFunc .nilFunc
  | nilIface (z : ZMap) : DR z .nilIface .nilIface
  | row (z : ZMap) (t m : Bool) (cs : List XV) (len : Nat) (us : List Value) (a : Addr) (cap : Nat) : DLs (zcut t z) cs us → (∀ i u, us[i]? = some u → z t a.block (a.off + i) = some u) →
      (len = 0 ∨ a.spot = none) → len ≤ cap → (m = true → cap = len) → oneLive cs → DR z (.row t m cs len) (.slice (some a) len cap)
  | rowNil (z : ZMap) (t m : Bool) : DR z (.row t m [] 0) (.slice none 0 0)
  | rptr (z : ZMap) (t : Bool) (cs : List XV) (o : Nat) (us : List Value) (r off : Nat) : DLs (zcut t z) cs us → (∀ i u, us[i]? = some u → z t r (off + i) = some u) →
      DR z (.rptr t cs o) (.pointer (some ⟨r, o + off, none⟩))
  | func (z : ZMap) (f : FuncId) (cs : List XV) (ds : List Value) : DRs z cs ds → DR z (.func f cs) (.func (.func f) #[] ds.toArray)
  | iface (z : ZMap) (t : TypeId) (x : XV) (v : Value) : DR z x v → DR z (.iface t x) (.iface t v)
  | agg (z : ZMap) (cs : List XV) (ds : List Value) : DRs z cs ds → DR z (.agg cs) (.agg ds.toArray)
  | tuple (z : ZMap) (cs : List XV) (ds : List Value) : DRs z cs ds → DR z (.tuple cs) (.tuple ds.toArray)
inductive DRs : ZMap → List XV → List Value → Prop
  | nil (z : ZMap) : DRs z [] []
  | cons (z : ZMap) (x : XV) (v : Value) (xs : List XV) (vs : List Value) : DR z x v → DRs z xs vs → DRs z (x :: xs) (v :: vs)
inductive DLs : ZMap → List XV → List Value → Prop
  | nil (z : ZMap) : DLs z [] []
  | cons (z : ZMap) (x : XV) (v : Value) (xs : List XV) (vs : List Value) : DR z x v → DLs z xs vs → DLs z (x :: xs) (v :: vs)
  | dead (z : ZMap) (v : Value) (xs : List XV) (vs : List Value) : DLs z xs vs → DLs z (.dead :: xs) (v :: vs)
end

mutual
theorem DR.mono {z z' : ZMap} (hl : z.le z') {x : XV} {v : Value} (h : DR z x v) : DR z' x v := by
  cases h with
  | bool _ b => exact .bool _ b
  | int _ k n => exact .int _ k n
  | str _ s => exact .str _ s
  | nilPtr _ => exact .nilPtr _
  | nilSlice _ => exact .nilSlice _
  | nilMap _ => exact .nilMap _
  | nilFunc _ => exact .nilFunc _
  | nilIface _ => exact .nilIface _
  | row _ t m cs len us a cap h1 h2 h3 h4 h5 h6 => exact .row _ t m cs len us a cap (DLs.mono (zcut_le hl t) h1) (fun i u q => hl _ _ _ _ (h2 i u q)) h3 h4 h5 h6
  | rowNil _ t m => exact .rowNil _ t m
  | rptr _ t cs o us r off h1 h2 => exact .rptr _ t cs o us r off (DLs.mono (zcut_le hl t) h1) (fun i u q => hl _ _ _ _ (h2 i u q))
  | func _ f cs ds h1 => exact .func _ f cs ds (DRs.mono hl h1)
  | iface _ t x v h1 => exact .iface _ t x v (DR.mono hl h1)
  | agg _ cs ds h1 => exact .agg _ cs ds (DRs.mono hl h1)
  | tuple _ cs ds h1 => exact .tuple _ cs ds (DRs.mono hl h1)
theorem DRs.mono {z z' : ZMap} (hl : z.le z') {xs : List XV} {vs : List Value} (h : DRs z xs vs) : DRs z' xs vs := by
  cases h with
  | nil _ => exact .nil _
  | cons _ x v xs vs h1 h2 => exact .cons _ x v xs vs (DR.mono hl h1) (DRs.mono hl h2)
theorem DLs.mono {z z' : ZMap} (hl : z.le z') {xs : List XV} {vs : List Value} (h : DLs z xs vs) : DLs z' xs vs := by
  cases h with
  | nil _ => exact .nil _
  | cons _ x v xs vs h1 h2 => exact .cons _ x v xs vs (DR.mono hl h1) (DLs.mono hl h2)
  | dead _ v xs vs h1 => exact .dead _ v xs vs (DLs.mono hl h1)
end

mutual
/-- what was lent to nobody is told by the lasting memory alone -/
theorem DR.lasts : ∀ {z : ZMap} {x : XV} {v : Value}, DR z x v → ∀ {z' : ZMap}, (∀ r o v, z false r o = some v → z' false r o = some v) → x.lent = false → DR z' x v
  | _, _, _, .bool _ b, _, hl, hx => .bool _ b
  | _, _, _, .int _ k n, _, hl, hx => .int _ k n
  | _, _, _, .str _ s, _, hl, hx => .str _ s
  | _, _, _, .nilPtr _, _, hl, hx => .nilPtr _
  | _, _, _, .nilSlice _, _, hl, hx => .nilSlice _
  | _, _, _, .nilMap _, _, hl, hx => .nilMap _
  | _, _, _, .nilFunc _, _, hl, hx => .nilFunc _
  | _, _, _, .nilIface _, _, hl, hx => .nilIface _
  | _, _, _, .row _ t m cs len us a cap h1 h2 h3 h4 h5 h6, _, hl, hx => by
    simp only [XV.lent] at hx
    subst hx
    exact .row _ false m cs len us a cap (h1.mono fun t' r o v q => hl _ _ _ q) (fun i u q => hl _ _ _ (h2 i u q)) h3 h4 h5 h6
  | _, _, _, .rowNil _ t m, _, hl, hx => .rowNil _ t m
  | _, _, _, .rptr _ t cs o us r off h1 h2, _, hl, hx => by
    simp only [XV.lent] at hx
    subst hx
    exact .rptr _ false cs o us r off (h1.mono fun t' r o v q => hl _ _ _ q) (fun i u q => hl _ _ _ (h2 i u q))
  | _, _, _, .func _ f cs ds h1, _, hl, hx => .func _ f cs ds (DRs.lasts h1 hl (by simpa [XV.lent] using hx))
  | _, _, _, .iface _ t x v h1, _, hl, hx => .iface _ t x v (DR.lasts h1 hl (by simpa [XV.lent] using hx))
  | _, _, _, .agg _ cs ds h1, _, hl, hx => .agg _ cs ds (DRs.lasts h1 hl (by simpa [XV.lent] using hx))
  | _, _, _, .tuple _ cs ds h1, _, hl, hx => .tuple _ cs ds (DRs.lasts h1 hl (by simpa [XV.lent] using hx))
theorem DRs.lasts : ∀ {z : ZMap} {xs : List XV} {vs : List Value}, DRs z xs vs → ∀ {z' : ZMap}, (∀ r o v, z false r o = some v → z' false r o = some v) → lentAny xs = false → DRs z' xs vs
  | _, _, _, .nil _, _, hl, hx => .nil _
  | _, _, _, .cons _ x v xs vs h1 h2, _, hl, hx => by
    simp only [lentAny, Bool.or_eq_false_iff] at hx
    exact .cons _ x v xs vs (DR.lasts h1 hl hx.1) (DRs.lasts h2 hl hx.2)
end

mutual
inductive VR (ρ : Emb) : XV → Value → Prop
  | bool (b : Bool) : VR ρ (.bool b) (.bool b)
  | int (k : IntKind) (n : Int) : VR ρ (.int k n) (.int k n)
  | str (s : List UInt8) : VR ρ (.str s) (.string ⟨s.toArray⟩)
  | nilPtr : VR ρ .nilPtr (.pointer none)
  | ptr (b o : Nat) (e : Ent) : ρ b = some e → VR ρ (.ptr b o) (.pointer (some (e.at o)))
  | nilSlice : VR ρ .nilSlice (.slice none 0 0)
  | slice (b o len cap : Nat) (e : Ent) : ρ b = some e → len ≤ cap → VR ρ (.slice b o len cap) (.slice (some (e.at o)) len cap)
  | sliceZ (b o : Nat) (e : Ent) (a : Addr) : ρ b = some e → VR ρ (.slice b o 0 0) (.slice (some a) 0 0)
  | sl (b cap' : Nat) (e : Ent) (esz n rsz : Nat) : ρ b = some e → e.loose = some (esz, n, rsz) → n ≤ cap' → e.sh + cap' * esz ≤ rsz → VR ρ (.sl b) (.slice (some (e.at 0)) n cap')
  | part (b o len cap' : Nat) (e : Ent) : ρ b = some e → len ≤ cap' → VR ρ (.part b o len) (.slice (some (e.at o)) len cap')
  | partZ (b o cap' : Nat) (e : Ent) (a : Addr) : ρ b = some e → VR ρ (.part b o 0) (.slice (some a) 0 cap')
  | row (t m : Bool) (cs : List XV) (len : Nat) (u : Value) : DR ρ.z (.row t m cs len) u → VR ρ (.row t m cs len) u
  | rptr (t : Bool) (cs : List XV) (o : Nat) (u : Value) : DR ρ.z (.rptr t cs o) u → VR ρ (.rptr t cs o) u
  | nilMap : VR ρ .nilMap (.map none)
  | func (f : FuncId) (cs : List XV) (ds : List Value) : VRs ρ cs ds → VR ρ (.func f cs) (.func (.func f) #[] ds.toArray)
  | nilFunc : VR ρ .nilFunc .nilFunc
  | iface (t : TypeId) (x : XV) (v : Value) : VR ρ x v → VR ρ (.iface t x) (.iface t v)
  | nilIface : VR ρ .nilIface .nilIface
  | agg (cs : List XV) (ds : List Value) : VRs ρ cs ds → VR ρ (.agg cs) (.agg ds.toArray)
  | tuple (cs : List XV) (ds : List Value) : VRs ρ cs ds → VR ρ (.tuple cs) (.tuple ds.toArray)
inductive VRs (ρ : Emb) : List XV → List Value → Prop
  | nil : VRs ρ [] []
  | cons (x : XV) (v : Value) (xs : List XV) (vs : List Value) : VR ρ x v → VRs ρ xs vs → VRs ρ (x :: xs) (v :: vs)
end

/-- a wider embedding -/
structure Emb.le (ρ ρ' : Emb) : Prop where
  m : ∀ b e, ρ b = some e → ρ' b = some e
  z : ρ.z.le ρ'.z
theorem Emb.le_refl (ρ : Emb) : ρ.le ρ := ⟨fun _ _ h => h, ZMap.le_refl _⟩
theorem Emb.le_trans {a b c : Emb} (h : a.le b) (k : b.le c) : a.le c := ⟨fun x e hx => k.m x e (h.m x e hx), ZMap.le_trans h.z k.z⟩

mutual
theorem VR.mono {ρ ρ' : Emb} (hl : ρ.le ρ') {x : XV} {v : Value} (h : VR ρ x v) : VR ρ' x v := by
  cases h with
  | bool b => exact .bool b
  | int k n => exact .int k n
  | str s => exact .str s
  | nilPtr => exact .nilPtr
  | ptr b o e he => exact .ptr b o e (hl.m _ _ he)
  | nilSlice => exact .nilSlice
  | slice b o len cap e he hlc => exact .slice b o len cap e (hl.m _ _ he) hlc
  | sliceZ b o e a he => exact .sliceZ b o e a (hl.m _ _ he)
  | sl b cap' e esz n rsz he h1 h2 h3 => exact .sl b cap' e esz n rsz (hl.m _ _ he) h1 h2 h3
  | part b o len cap' e he h1 => exact .part b o len cap' e (hl.m _ _ he) h1
  | partZ b o cap' e a he => exact .partZ b o cap' e a (hl.m _ _ he)
  | row t m cs len u h1 => exact .row t m cs len _ (h1.mono hl.z)
  | rptr t cs o u h1 => exact .rptr t cs o _ (h1.mono hl.z)
  | nilMap => exact .nilMap
  | func f cs ds hs => exact .func f cs ds (VRs.mono hl hs)
  | nilFunc => exact .nilFunc
  | iface t x v hv => exact .iface t x v (VR.mono hl hv)
  | nilIface => exact .nilIface
  | agg cs ds hs => exact .agg cs ds (VRs.mono hl hs)
  | tuple cs ds hs => exact .tuple cs ds (VRs.mono hl hs)
theorem VRs.mono {ρ ρ' : Emb} (hl : ρ.le ρ') {xs : List XV} {vs : List Value} (h : VRs ρ xs vs) : VRs ρ' xs vs := by
  cases h with
  | nil => exact .nil
  | cons x v xs vs h1 h2 => exact .cons x v xs vs (VR.mono hl h1) (VRs.mono hl h2)
end

mutual
/-- a value without addresses from n on is told so under whatever agrees below n -/
theorem VR.under {ρ ρ' : Emb} {n : Nat} (hl : ∀ b e, b < n → ρ' b = some e → ρ b = some e) (hz : ρ'.z.le ρ.z) {x : XV} {v : Value} (hx : x.under n = true) (h : VR ρ' x v) : VR ρ x v := by
  cases h with
  | bool b => exact .bool b
  | int k n => exact .int k n
  | str s => exact .str s
  | nilPtr => exact .nilPtr
  | ptr b o e he => exact .ptr b o e (hl _ _ (by simpa [XV.under] using hx) he)
  | nilSlice => exact .nilSlice
  | slice b o len cap e he hlc => exact .slice b o len cap e (hl _ _ (by simpa [XV.under] using hx) he) hlc
  | sliceZ b o e a he => exact .sliceZ b o e a (hl _ _ (by simpa [XV.under] using hx) he)
  | sl b cap' e esz n rsz he h1 h2 h3 => exact .sl b cap' e esz n rsz (hl _ _ (by simpa [XV.under] using hx) he) h1 h2 h3
  | part b o len cap' e he h1 => exact .part b o len cap' e (hl _ _ (by simpa [XV.under] using hx) he) h1
  | partZ b o cap' e a he => exact .partZ b o cap' e a (hl _ _ (by simpa [XV.under] using hx) he)
  | row t m cs len u h1 => exact .row t m cs len _ (h1.mono hz)
  | rptr t cs o u h1 => exact .rptr t cs o _ (h1.mono hz)
  | nilMap => exact .nilMap
  | func f cs ds hs => exact .func f cs ds (VRs.under hl hz (by simpa [XV.under] using hx) hs)
  | nilFunc => exact .nilFunc
  | iface t x v hv => exact .iface t x v (VR.under hl hz (by simpa [XV.under] using hx) hv)
  | nilIface => exact .nilIface
  | agg cs ds hs => exact .agg cs ds (VRs.under hl hz (by simpa [XV.under] using hx) hs)
  | tuple cs ds hs => exact .tuple cs ds (VRs.under hl hz (by simpa [XV.under] using hx) hs)
theorem VRs.under {ρ ρ' : Emb} {n : Nat} (hl : ∀ b e, b < n → ρ' b = some e → ρ b = some e) (hz : ρ'.z.le ρ.z) {xs : List XV} {vs : List Value} (hx : underAll n xs = true) (h : VRs ρ' xs vs) : VRs ρ xs vs := by
  cases h with
  | nil => exact .nil
  | cons x v xs vs h1 h2 =>
    simp only [underAll, Bool.and_eq_true] at hx
    exact .cons x v xs vs (VR.under hl hz hx.1 h1) (VRs.under hl hz hx.2 h2)
end

mutual
/-- a value without addresses is plain data -/
theorem VR.plain {ρ : Emb} {x : XV} {v : Value} (hx : x.under 0 = true) (h : VR ρ x v) : DR ρ.z x v := by
  cases h with
  | bool b => exact .bool _ b
  | int k n => exact .int _ k n
  | str s => exact .str _ s
  | nilPtr => exact .nilPtr _
  | ptr b o e he => simp [XV.under] at hx
  | nilSlice => exact .nilSlice _
  | slice b o len cap e he hlc => simp [XV.under] at hx
  | sliceZ b o e a he => simp [XV.under] at hx
  | sl b cap' e esz n rsz he h1 h2 h3 => simp [XV.under] at hx
  | part b o len cap' e he h1 => simp [XV.under] at hx
  | partZ b o cap' e a he => simp [XV.under] at hx
  | row t m cs len u h1 => exact h1
  | rptr t cs o u h1 => exact h1
  | nilMap => exact .nilMap _
  | func f cs ds hs => exact .func _ f cs ds (VRs.plain (by simpa [XV.under] using hx) hs)
  | nilFunc => exact .nilFunc _
  | iface t x v hv => exact .iface _ t x v (VR.plain (by simpa [XV.under] using hx) hv)
  | nilIface => exact .nilIface _
  | agg cs ds hs => exact .agg _ cs ds (VRs.plain (by simpa [XV.under] using hx) hs)
  | tuple cs ds hs => exact .tuple _ cs ds (VRs.plain (by simpa [XV.under] using hx) hs)
theorem VRs.plain {ρ : Emb} {xs : List XV} {vs : List Value} (hx : underAll 0 xs = true) (h : VRs ρ xs vs) : DRs ρ.z xs vs := by
  cases h with
  | nil => exact .nil _
  | cons x v xs vs h1 h2 =>
    simp only [underAll, Bool.and_eq_true] at hx
    exact .cons _ x v xs vs (VR.plain hx.1 h1) (VRs.plain hx.2 h2)
end

mutual
theorem DR.vr {ρ : Emb} {x : XV} {v : Value} (h : DR ρ.z x v) : VR ρ x v := by
  cases h with
  | bool _ b => exact .bool b
  | int _ k n => exact .int k n
  | str _ s => exact .str s
  | nilPtr _ => exact .nilPtr
  | nilSlice _ => exact .nilSlice
  | nilMap _ => exact .nilMap
  | nilFunc _ => exact .nilFunc
  | nilIface _ => exact .nilIface
  | row _ t m cs len us a cap h1 h2 h3 h4 h5 h6 => exact .row _ _ _ _ _ (.row _ t m cs len us a cap h1 h2 h3 h4 h5 h6)
  | rowNil _ t m => exact .row _ _ _ _ _ (.rowNil _ t m)
  | rptr _ t cs o us r off h1 h2 => exact .rptr _ _ _ _ (.rptr _ t cs o us r off h1 h2)
  | func _ f cs ds h1 => exact .func f cs ds (DRs.vr h1)
  | iface _ t x v h1 => exact .iface t x v (DR.vr h1)
  | agg _ cs ds h1 => exact .agg cs ds (DRs.vr h1)
  | tuple _ cs ds h1 => exact .tuple cs ds (DRs.vr h1)
theorem DRs.vr {ρ : Emb} {xs : List XV} {vs : List Value} (h : DRs ρ.z xs vs) : VRs ρ xs vs := by
  cases h with
  | nil _ => exact .nil
  | cons _ x v xs vs h1 h2 => exact .cons x v xs vs (DR.vr h1) (DRs.vr h2)
end

mutual
theorem DR.plain : ∀ {z : ZMap} {x : XV} {v : Value}, DR z x v → x.under 0 = true
  | _, _, _, .bool _ b => rfl
  | _, _, _, .int _ k n => rfl
  | _, _, _, .str _ s => rfl
  | _, _, _, .nilPtr _ => rfl
  | _, _, _, .nilSlice _ => rfl
  | _, _, _, .nilMap _ => rfl
  | _, _, _, .nilFunc _ => rfl
  | _, _, _, .nilIface _ => rfl
  | _, _, _, .row _ t m cs len us a cap h1 h2 h3 h4 h5 h6 => rfl
  | _, _, _, .rowNil _ t m => rfl
  | _, _, _, .rptr _ t cs o us r off h1 h2 => rfl
  | _, _, _, .func _ f cs ds h1 => by simpa [XV.under] using DRs.plain h1
  | _, _, _, .iface _ t x v h1 => by simpa [XV.under] using DR.plain h1
  | _, _, _, .agg _ cs ds h1 => by simpa [XV.under] using DRs.plain h1
  | _, _, _, .tuple _ cs ds h1 => by simpa [XV.under] using DRs.plain h1
theorem DRs.plain : ∀ {z : ZMap} {xs : List XV} {vs : List Value}, DRs z xs vs → underAll 0 xs = true
  | _, _, _, .nil _ => rfl
  | _, _, _, .cons _ x v xs vs h1 h2 => by simp only [underAll, Bool.and_eq_true]; exact ⟨DR.plain h1, DRs.plain h2⟩
end

theorem DLs.length {z : ZMap} : ∀ {xs : List XV} {vs : List Value}, DLs z xs vs → xs.length = vs.length
  | _, _, .nil _ => rfl
  | _, _, .cons _ _ _ _ _ _ h => by simp [h.length]
  | _, _, .dead _ _ _ _ h => by simp [h.length]

theorem DLs.get {z : ZMap} : ∀ {xs : List XV} {vs : List Value}, DLs z xs vs → ∀ {i : Nat} {x : XV}, xs[i]? = some x → x.live = true → ∃ v, vs[i]? = some v ∧ DR z x v
  | _, _, .nil _, i, x, h, _ => by simp at h
  | _, _, .cons _ a v xs vs h1 h2, i, x, h, hl => by
    cases i with
    | zero => simp at h; subst h; exact ⟨v, by simp, h1⟩
    | succ i => simp at h; obtain ⟨u, hu, hr⟩ := h2.get h hl; exact ⟨u, by simpa using hu, hr⟩
  | _, _, .dead _ v xs vs h2, i, x, h, hl => by
    cases i with
    | zero => simp at h; subst h; cases hl
    | succ i => simp at h; obtain ⟨u, hu, hr⟩ := h2.get h hl; exact ⟨u, by simpa using hu, hr⟩

theorem DLs.of_get {z : ZMap} : ∀ {xs : List XV} {vs : List Value}, xs.length = vs.length → (∀ (i : Nat) (x : XV) (v : Value), xs[i]? = some x → vs[i]? = some v → x.live = true → DR z x v) → DLs z xs vs
  | [], [], _, _ => .nil _
  | x :: xs, v :: vs, hl, h => by
    have ih := DLs.of_get (z := z) (xs := xs) (vs := vs) (by simpa using hl) (fun i a b ha hb => h (i + 1) a b (by simpa using ha) (by simpa using hb))
    cases hx : x.live with
    | true => exact .cons _ _ _ _ _ (h 0 x v (by simp) (by simp) hx) ih
    | false =>
      have : x = .dead := by cases x <;> simp [XV.live] at hx ⊢
      subst this
      exact .dead _ _ _ _ ih
  | [], _ :: _, hl, _ => by simp at hl
  | _ :: _, [], hl, _ => by simp at hl

theorem DLs.cut {z : ZMap} {xs : List XV} {vs : List Value} (h : DLs z xs vs) (a b : Nat) : DLs z ((xs.drop a).take b) ((vs.drop a).take b) := by
  have hl := h.length
  refine DLs.of_get (by simp [hl]) fun i x v hx hv hlv => ?_
  by_cases q : i < b
  · rw [List.getElem?_take_of_lt q, List.getElem?_drop] at hx hv
    obtain ⟨u, hu, hr⟩ := h.get hx hlv
    rw [hv] at hu
    injection hu with hu
    subst hu
    exact hr
  · rw [List.getElem?_eq_none (by simp; omega)] at hx
    cases hx

/-- rows: what lives of them is told -/
def VLs (ρ : Emb) (xs : List XV) (vs : List Value) : Prop := xs.length = vs.length ∧ ∀ (i : Nat) (x : XV) (v : Value), xs[i]? = some x → vs[i]? = some v → x.live = true → VR ρ x v

/-- what lasts is among what is lent -/
def ZMap.ok (z : ZMap) : Prop := ∀ r o v, z false r o = some v → z true r o = some v
theorem ZMap.ok.cut {z : ZMap} (h : z.ok) (t : Bool) : (zcut t z).le z := fun t' r o v q => by
  unfold zcut at q
  cases t with
  | true => exact q
  | false => cases t' with
    | true => exact h _ _ _ q
    | false => exact q

theorem DLs.vls {ρ : Emb} (hz : ρ.z.ok) {xs : List XV} {vs : List Value} {t : Bool} (h : DLs (zcut t ρ.z) xs vs) : VLs ρ xs vs :=
  ⟨h.length, fun i x v hx hv hl => by
    obtain ⟨u, hu, hr⟩ := h.get hx hl
    rw [hv] at hu
    injection hu with hu
    subst hu
    exact DR.vr (hr.mono (hz.cut t))⟩


theorem VRs.length {ρ : Emb} : ∀ {xs : List XV} {vs : List Value}, VRs ρ xs vs → xs.length = vs.length
  | _, _, .nil => rfl
  | _, _, .cons _ _ _ _ _ h => by simp [h.length]

theorem VRs.get {ρ : Emb} : ∀ {xs : List XV} {vs : List Value}, VRs ρ xs vs → ∀ {i : Nat} {x : XV}, xs[i]? = some x → ∃ v, vs[i]? = some v ∧ VR ρ x v
  | _, _, .nil, i, x, h => by simp at h
  | _, _, .cons a v xs vs h1 h2, i, x, h => by
    cases i with
    | zero => simp at h; subst h; exact ⟨v, by simp, h1⟩
    | succ i => simp at h; obtain ⟨u, hu, hr⟩ := h2.get h; exact ⟨u, by simpa using hu, hr⟩

theorem VRs.of_get {ρ : Emb} : ∀ {xs : List XV} {vs : List Value}, xs.length = vs.length → (∀ (i : Nat) (x : XV) (v : Value), xs[i]? = some x → vs[i]? = some v → VR ρ x v) → VRs ρ xs vs
  | [], [], _, _ => .nil
  | x :: xs, v :: vs, hl, h => .cons x v xs vs (h 0 x v (by simp) (by simp)) (VRs.of_get (by simpa using hl) (fun i a b ha hb => h (i + 1) a b (by simpa using ha) (by simpa using hb)))
  | [], _ :: _, hl, _ => by simp at hl
  | _ :: _, [], hl, _ => by simp at hl

theorem VRs.append {ρ : Emb} : ∀ {xs : List XV} {vs : List Value} {ys : List XV} {us : List Value}, VRs ρ xs vs → VRs ρ ys us → VRs ρ (xs ++ ys) (vs ++ us)
  | _, _, _, _, .nil, k => k
  | _, _, _, _, .cons x v xs vs h1 h2, k => .cons x v _ _ h1 (h2.append k)

/-- plain cells alone -/
def Flat (cs : List XV) : Prop := ∀ v, v ∈ cs → v.live = true → v.oneCell = true ∧ v.under 0 = true
theorem Flat.one {cs : List XV} (h : Flat cs) : oneLive cs := fun v hv hl => (h v hv hl).1
theorem Flat.append {cs ds : List XV} (h : Flat cs) (k : Flat ds) : Flat (cs ++ ds) := fun v hv hl => by
  rcases List.mem_append.1 hv with q | q
  · exact h v q hl
  · exact k v q hl
theorem Flat.set {cs : List XV} (h : Flat cs) (o : Nat) {v : XV} (h1 : v.oneCell = true) (h2 : v.under 0 = true) : Flat (cs.set o v) := fun x hx hl => by
  rcases List.mem_or_eq_of_mem_set hx with q | q
  · exact h x q hl
  · subst q; exact ⟨h1, h2⟩

/-- the blocks of the two heaps -/
def BlkR (ρ : Emb) (B : Nat) (w : World) (e : Ent) : XBlk → Prop
  | .cells cs k =>
    (match k with
      | .ro => e.blk < B ∧ e.loose = none
      | .own => B ≤ e.blk ∧ e.loose = none
      | .arr esz => (B ≤ e.blk ∧ e.loose = none) ∧ 0 < esz ∧ Flat cs ∧ ∀ j, j < cs.length → (w.cell? (e.at j)).isSome = true ∧ w.frozen? (e.at j) = false
      | .loose esz n => B ≤ e.blk ∧ 0 < esz ∧ cs.length = n * esz ∧ Flat cs ∧ ∃ rsz, e.loose = some (esz, n, rsz) ∧ e.sh + n * esz ≤ rsz ∧ ∀ j, j < rsz → (w.cell? ⟨e.blk, j, none⟩).isSome = true ∧ w.frozen? ⟨e.blk, j, none⟩ = false) ∧
    ∀ o v, cs[o]? = some v → v.live = true → ∃ u, w.cell? (e.at o) = some u ∧ VR ρ v u ∧ (k ≠ .ro → w.frozen? (e.at o) = false)
  | .iter s pos => (B ≤ e.blk ∧ e.sh = 0 ∧ e.loose = none) ∧ w.heap[e.blk]? = some (.stringIter ⟨s.toArray⟩ pos)
  | .gone => True

def XBlk.isRo : XBlk → Bool
  | .cells _ .ro => true
  | _ => false
def XBlk.isGone : XBlk → Bool
  | .gone => true
  | _ => false

/-- memory that stays as it is -/
structure Froz (B : Nat) (ρ : Emb) (w : World) : Prop where
  ok : ρ.z.ok
  zc : ∀ t r o v, ρ.z t r o = some v → w.cell? ⟨r, o, none⟩ = some v
  zd : ∀ b e, ρ b = some e → B ≤ e.blk → ∀ t o, ρ.z t e.blk o = none

structure Rel (B : Nat) (w0 : World) (ρ : Emb) (S : XS) (w : World) : Prop where
  below : Below B w0 w
  Bw : B ≤ w0.heap.size
  dom : ∀ b e, ρ b = some e → b < S.size
  blk : ∀ b e, ρ b = some e → BlkR ρ B w e (S.get b)
  inj : ∀ b b' e e', ρ b = some e → ρ b' = some e' → e.blk = e'.blk → b ≠ b' →
    ((S.get b).isRo = true ∧ (S.get b').isRo = true) ∨ (S.get b).isGone = true ∨ (S.get b').isGone = true
  lt : ∀ b e, ρ b = some e → e.blk < w.heap.size
  fz : Froz B ρ w

theorem cell_lt {w : World} {r o : Nat} {v : Value} (h : w.cell? ⟨r, o, none⟩ = some v) : r < w.heap.size := by
  rcases Nat.lt_or_ge r w.heap.size with q | q
  · exact q
  · unfold World.cell? at h; simp [Array.getElem?_eq_none q] at h

theorem Froz.lt {B : Nat} {ρ : Emb} {w : World} (h : Froz B ρ w) {t : Bool} {r o : Nat} {v : Value} (q : ρ.z t r o = some v) : r < w.heap.size := cell_lt (h.zc _ _ _ _ q)

/-- the same memory stays as it is, elsewhere -/
theorem Froz.keep {B : Nat} {ρ : Emb} {w w' : World} (h : Froz B ρ w) (hc : ∀ t r o v, ρ.z t r o = some v → w'.cell? ⟨r, o, none⟩ = w.cell? ⟨r, o, none⟩) : Froz B ρ w' :=
  ⟨h.ok, fun t r o v q => (hc t r o v q).trans (h.zc t r o v q), h.zd⟩
theorem Froz.block {B : Nat} {ρ : Emb} {w w' : World} (h : Froz B ρ w) (hc : ∀ r, r < w.heap.size → w'.heap[r]? = w.heap[r]?) : Froz B ρ w' :=
  h.keep fun t r o v q => World.cell?_of_block (w := w) (a := ⟨r, o, none⟩) (hc r (h.lt q))
/-- all but one block of our own -/
theorem Froz.but {B : Nat} {ρ : Emb} {w w' : World} (h : Froz B ρ w) {b : Nat} {e : Ent} (he : ρ b = some e) (hB : B ≤ e.blk) (hc : ∀ r, r ≠ e.blk → w'.heap[r]? = w.heap[r]?) : Froz B ρ w' :=
  h.keep fun t r o v q => by
    refine World.cell?_of_block (w := w) (a := ⟨r, o, none⟩) (hc r ?_)
    rintro rfl
    have := h.zd b e he hB t o
    rw [this] at q
    cases q

theorem room_len {k : XKind} {cs ds : List XV} (h : cs.length = ds.length) : k.room cs = k.room ds := by unfold XKind.room; rw [h]
theorem room_le (k : XKind) (cs : List XV) : cs.length ≤ k.room cs := by unfold XKind.room; split <;> omega

/-- how a block of the plain heap has gone on, W having been written -/
def BlkFrame (W : List (Nat × Nat)) (b : Nat) : XBlk → XBlk → Prop
  | .cells cs k, .cells cs' k' => k' = k ∧ cs'.length = cs.length ∧ (∀ o : Nat, (b, o) ∉ W → cs'[o]? = cs[o]?) ∧ (∀ o : Nat, cs[o]? = some XV.dead → cs'[o]? = some XV.dead)
  | .cells cs k, .gone => 0 < k.room cs ∧ ∀ o, o < k.room cs → (b, o) ∈ W
  | .iter s pos, .iter s' pos' => s' = s ∧ ((b, 0) ∉ W → pos' = pos)
  | .gone, .gone => True
  | _, _ => False

theorem BlkFrame.refl (W : List (Nat × Nat)) (b : Nat) (x : XBlk) : BlkFrame W b x x := by
  cases x with
  | cells cs k => exact ⟨rfl, rfl, fun _ _ => rfl, fun _ h => h⟩
  | iter s pos => exact ⟨rfl, fun _ => rfl⟩
  | gone => trivial

theorem BlkFrame.mono {W W' : List (Nat × Nat)} (hW : ∀ p, p ∈ W → p ∈ W') {b : Nat} {x y : XBlk} (h : BlkFrame W b x y) : BlkFrame W' b x y := by
  cases x <;> cases y <;> simp only [BlkFrame] at h ⊢
  · exact ⟨h.1, h.2.1, fun o ho => h.2.2.1 o fun hm => ho (hW _ hm), h.2.2.2⟩
  · exact ⟨h.1, fun o ho => hW _ (h.2 o ho)⟩
  · exact ⟨h.1, fun hm => h.2 fun hq => hm (hW _ hq)⟩

theorem BlkFrame.filter {W W' : List (Nat × Nat)} {b : Nat} (hW : ∀ o, (b, o) ∈ W → (b, o) ∈ W') {x y : XBlk} (h : BlkFrame W b x y) : BlkFrame W' b x y := by
  cases x <;> cases y <;> simp only [BlkFrame] at h ⊢
  · exact ⟨h.1, h.2.1, fun o ho => h.2.2.1 o fun hm => ho (hW _ hm), h.2.2.2⟩
  · exact ⟨h.1, fun o ho => hW _ (h.2 o ho)⟩
  · exact ⟨h.1, fun hm => h.2 fun hq => hm (hW _ hq)⟩

theorem BlkFrame.trans {W1 W2 : List (Nat × Nat)} {b : Nat} {x y z : XBlk} (h : BlkFrame W1 b x y) (k : BlkFrame W2 b y z) : BlkFrame (W2 ++ W1) b x z := by
  cases x <;> cases y <;> simp only [BlkFrame] at h <;> cases z <;> simp only [BlkFrame] at k ⊢
  · refine ⟨k.1.trans h.1, k.2.1.trans h.2.1, fun o ho => ?_, fun o ho => k.2.2.2 o (h.2.2.2 o ho)⟩
    simp only [List.mem_append, not_or] at ho
    exact (k.2.2.1 o ho.1).trans (h.2.2.1 o ho.2)
  · rename_i cs kk cs' kk'
    have hr : kk'.room cs' = kk.room cs := by rw [h.1]; exact room_len h.2.1
    rw [hr] at k
    exact ⟨k.1, fun o ho => List.mem_append.2 (.inl (k.2 o ho))⟩
  · exact ⟨h.1, fun o ho => List.mem_append.2 (.inr (h.2 o ho))⟩
  · simp only [List.mem_append, not_or]
    exact ⟨k.1.trans h.1, fun hm => (k.2 hm.1).trans (h.2 hm.2)⟩

theorem BlkFrame.gone {W : List (Nat × Nat)} {b : Nat} {x y : XBlk} (h : BlkFrame W b x y) (hx : x.isGone = true) : y.isGone = true := by
  cases x <;> cases y <;> simp_all [BlkFrame, XBlk.isGone]

def SameAt (w w' : World) (r o : Nat) : Prop := w'.cell? ⟨r, o, none⟩ = w.cell? ⟨r, o, none⟩ ∧ w'.frozen? ⟨r, o, none⟩ = w.frozen? ⟨r, o, none⟩
theorem SameAt.refl (w : World) (r o : Nat) : SameAt w w r o := ⟨rfl, rfl⟩
theorem SameAt.trans {a b c : World} {r o : Nat} (h : SameAt a b r o) (k : SameAt b c r o) : SameAt a c r o := ⟨k.1.trans h.1, k.2.trans h.2⟩

/-- a cell that can be written -/
def WOk : XBlk → Nat → Prop
  | .cells cs k, o => o < k.room cs ∧ k ≠ .ro
  | .iter _ _, o => o = 0
  | .gone, _ => False

theorem WOk.back {W : List (Nat × Nat)} {b : Nat} {x y : XBlk} (h : BlkFrame W b x y) {o : Nat} (k : WOk y o) : WOk x o := by
  cases x <;> cases y <;> simp only [BlkFrame] at h <;> simp only [WOk] at k ⊢
  · rw [← room_len h.2.1, ← h.1]; exact k
  · exact k

/-- what has come of a state: W: cells below 'base' that were written -/
structure Ev (base : Nat) (ρ : Emb) (S : XS) (w : World) (ρ' : Emb) (S' : XS) (w' : World) (W : List (Nat × Nat)) : Prop where
  ext : ρ.le ρ'
  old : ∀ b e, ρ' b = some e → b < S.size → ρ b = some e
  size : S.size ≤ S'.size
  wsize : w.heap.size ≤ w'.heap.size
  canon : ∀ b, b < base → BlkFrame W b (S.get b) (S'.get b)
  gone : ∀ b, (S.get b).isGone = true → b < S.size → (S'.get b).isGone = true
  wb : ∀ p, p ∈ W → p.1 < base
  new : ∀ b e, ρ' b = some e → base ≤ b → w.heap.size ≤ e.blk ∨ (∃ b0 e0, base ≤ b0 ∧ ρ b0 = some e0 ∧ e0.blk = e.blk) ∨
    (∃ p, p ∈ W ∧ ∃ e0, ρ p.1 = some e0 ∧ e0.blk = e.blk ∧ (S'.get p.1).isGone = true)
  frame : ∀ r o, r < w.heap.size → SameAt w w' r o ∨
    (∃ p, p ∈ W ∧ ∃ e, ρ p.1 = some e ∧ e.blk = r ∧ (o = p.2 + e.sh ∨ (S'.get p.1).isGone = true)) ∨ (∃ b e, base ≤ b ∧ ρ b = some e ∧ e.blk = r)
  frameI : ∀ r, r < w.heap.size → w'.heap[r]? = w.heap[r]? ∨ (∃ p, p ∈ W ∧ ∃ e, ρ p.1 = some e ∧ e.blk = r) ∨ (∃ b e, base ≤ b ∧ ρ b = some e ∧ e.blk = r)
  keep : ∀ r o, (w.cell? ⟨r, o, none⟩).isSome = true → w.frozen? ⟨r, o, none⟩ = false → (w'.cell? ⟨r, o, none⟩).isSome = true ∧ w'.frozen? ⟨r, o, none⟩ = false
  wd : ∀ p, p ∈ W → ∃ e, ρ p.1 = some e
  wl : ∀ p, p ∈ W → WOk (S.get p.1) p.2
  zold : ∀ t r o v, ρ'.z t r o = some v → r < w.heap.size → ρ.z t r o = some v

theorem Ev.refl {base : Nat} {ρ : Emb} {S : XS} {w : World} : Ev base ρ S w ρ S w [] where
  ext := Emb.le_refl ρ
  old := fun _ _ h _ => h
  size := Nat.le_refl _
  wsize := Nat.le_refl _
  canon := fun b _ => BlkFrame.refl _ _ _
  gone := fun _ h _ => h
  wb := fun p h => by cases h
  new := fun b e h hb => .inr (.inl ⟨b, e, hb, h, rfl⟩)
  frame := fun r o h => .inl (SameAt.refl _ _ _)
  frameI := fun r h => .inl rfl
  keep := fun r o h k => ⟨h, k⟩
  wd := fun p h => by cases h
  wl := fun p h => by cases h
  zold := fun _ _ _ _ h _ => h

theorem Ev.trans {base : Nat} {ρ1 ρ2 ρ3 : Emb} {S1 S2 S3 : XS} {w1 w2 w3 : World} {W1 W2 : List (Nat × Nat)} (hb : base ≤ S1.size)
    (h : Ev base ρ1 S1 w1 ρ2 S2 w2 W1) (k : Ev base ρ2 S2 w2 ρ3 S3 w3 W2) : Ev base ρ1 S1 w1 ρ3 S3 w3 (W2 ++ W1) := by
  have hg : ∀ p, p ∈ W1 ∨ p ∈ W2 → (S2.get p.1).isGone = true → (S3.get p.1).isGone = true := fun p hp hq => by
    refine k.gone _ hq ?_
    have := h.size
    rcases hp with hp | hp
    · have := h.wb p hp; omega
    · have := k.wb p hp; omega
  have back : ∀ b e, b < base → ρ2 b = some e → ρ1 b = some e := fun b e hlt he => h.old b e he (by omega)
  refine ⟨Emb.le_trans h.ext k.ext, fun b e he hlt => h.old b e (k.old b e he (by have := h.size; omega)) hlt, Nat.le_trans h.size k.size, Nat.le_trans h.wsize k.wsize,
    fun b hlt => (h.canon b hlt).trans (k.canon b hlt), fun b hg hlt => k.gone b (h.gone b hg hlt) (by have := h.size; omega), ?_, ?_, ?_, ?_,
    fun r o q1 q2 => k.keep r o (h.keep r o q1 q2).1 (h.keep r o q1 q2).2, fun p hp => ?_, fun p hp => ?_,
    fun t r o v q hr => h.zold t r o v (k.zold t r o v q (Nat.lt_of_lt_of_le hr h.wsize)) hr⟩
  · intro p hp
    rcases List.mem_append.1 hp with hp | hp
    · exact k.wb p hp
    · exact h.wb p hp
  · intro b e he hlt
    rcases k.new b e he hlt with hn | ⟨b0, e0, q1, q2, q3⟩ | ⟨p, hp, e0, q1, q2, q3⟩
    · exact .inl (Nat.le_trans h.wsize hn)
    · rcases h.new b0 e0 q2 q1 with hn | ⟨b1, e1, r1, r2, r3⟩ | ⟨p, hp, e1, r1, r2, r3⟩
      · exact .inl (by omega)
      · exact .inr (.inl ⟨b1, e1, r1, r2, r3.trans q3⟩)
      · exact .inr (.inr ⟨p, List.mem_append.2 (.inr hp), e1, r1, r2.trans q3, hg p (.inl hp) r3⟩)
    · exact .inr (.inr ⟨p, List.mem_append.2 (.inl hp), e0, back _ _ (k.wb p hp) q1, q2, q3⟩)
  · intro r o hr
    have key : ∀ b e, base ≤ b → ρ2 b = some e → e.blk = r → (∃ p, p ∈ W2 ++ W1 ∧ ∃ e, ρ1 p.1 = some e ∧ e.blk = r ∧ (o = p.2 + e.sh ∨ (S3.get p.1).isGone = true)) ∨ (∃ b e, base ≤ b ∧ ρ1 b = some e ∧ e.blk = r) := by
      intro b e q1 q2 q3
      rcases h.new b e q2 q1 with hn | ⟨b1, e1, r1, r2, r3⟩ | ⟨p, hp, e1, r1, r2, r3⟩
      · omega
      · exact .inr ⟨b1, e1, r1, r2, r3.trans q3⟩
      · exact .inl ⟨p, List.mem_append.2 (.inr hp), e1, r1, r2.trans q3, .inr (hg p (.inl hp) r3)⟩
    rcases k.frame r o (by have := h.wsize; omega) with hs2 | ⟨p, hp, e, q1, q2, q3⟩ | ⟨b, e, q1, q2, q3⟩
    · rcases h.frame r o hr with hs1 | ⟨p, hp, e, q1, q2, q3⟩ | ⟨b, e, q1, q2, q3⟩
      · exact .inl (hs1.trans hs2)
      · refine .inr (.inl ⟨p, List.mem_append.2 (.inr hp), e, q1, q2, ?_⟩)
        rcases q3 with q3 | q3
        · exact .inl q3
        · exact .inr (hg p (.inl hp) q3)
      · exact .inr (.inr ⟨b, e, q1, q2, q3⟩)
    · exact .inr (.inl ⟨p, List.mem_append.2 (.inl hp), e, back _ _ (k.wb p hp) q1, q2, q3⟩)
    · exact .inr (key b e q1 q2 q3)
  · intro r hr
    rcases k.frameI r (by have := h.wsize; omega) with hs2 | ⟨p, hp, e, q1, q2⟩ | ⟨b, e, q1, q2, q3⟩
    · rcases h.frameI r hr with hs1 | ⟨p, hp, e, q1, q2⟩ | ⟨b, e, q1, q2, q3⟩
      · exact .inl (hs2.trans hs1)
      · exact .inr (.inl ⟨p, List.mem_append.2 (.inr hp), e, q1, q2⟩)
      · exact .inr (.inr ⟨b, e, q1, q2, q3⟩)
    · exact .inr (.inl ⟨p, List.mem_append.2 (.inl hp), e, back _ _ (k.wb p hp) q1, q2⟩)
    · rcases h.new b e q2 q1 with hn | ⟨b1, e1, r1, r2, r3⟩ | ⟨p, hp, e1, r1, r2, r3⟩
      · omega
      · exact .inr (.inr ⟨b1, e1, r1, r2, r3.trans q3⟩)
      · exact .inr (.inl ⟨p, List.mem_append.2 (.inr hp), e1, r1, r2.trans q3⟩)
  · rcases List.mem_append.1 hp with hp | hp
    · obtain ⟨e, he⟩ := k.wd p hp; exact ⟨e, back _ _ (k.wb p hp) he⟩
    · exact h.wd p hp
  · rcases List.mem_append.1 hp with hp | hp
    · exact (k.wl p hp).back (h.canon p.1 (k.wb p hp))
    · exact h.wl p hp

/-- from a call's own base to its caller's -/
theorem Ev.lower {base base' : Nat} {ρ ρ' : Emb} {S S' : XS} {w w' : World} {W W' : List (Nat × Nat)} (hb : base' ≤ base) (hS : base ≤ S.size)
    (hW : ∀ p, p ∈ W' ↔ p ∈ W ∧ p.1 < base') (h : Ev base ρ S w ρ' S' w' W) : Ev base' ρ S w ρ' S' w' W' where
  ext := h.ext
  old := h.old
  size := h.size
  wsize := h.wsize
  canon := fun b hlt => (h.canon b (by omega)).filter fun o ho => (hW _).2 ⟨ho, hlt⟩
  gone := h.gone
  wb := fun p hp => ((hW p).1 hp).2
  new := fun b e he hlt => by
    rcases Nat.lt_or_ge b base with hq | hq
    · exact .inr (.inl ⟨b, e, hlt, h.old b e he (by omega), rfl⟩)
    · rcases h.new b e he hq with hn | ⟨b0, e0, q1, q2, q3⟩ | ⟨p, hp, e0, q1, q2, q3⟩
      · exact .inl hn
      · exact .inr (.inl ⟨b0, e0, by omega, q2, q3⟩)
      · rcases Nat.lt_or_ge p.1 base' with hl | hl
        · exact .inr (.inr ⟨p, (hW p).2 ⟨hp, hl⟩, e0, q1, q2, q3⟩)
        · exact .inr (.inl ⟨p.1, e0, hl, q1, q2⟩)
  frame := fun r o hr => by
    rcases h.frame r o hr with hs | ⟨p, hp, e, q1, q2, q3⟩ | ⟨b, e, q1, q2, q3⟩
    · exact .inl hs
    · rcases Nat.lt_or_ge p.1 base' with hl | hl
      · exact .inr (.inl ⟨p, (hW p).2 ⟨hp, hl⟩, e, q1, q2, q3⟩)
      · exact .inr (.inr ⟨p.1, e, hl, q1, q2⟩)
    · exact .inr (.inr ⟨b, e, by omega, q2, q3⟩)
  frameI := fun r hr => by
    rcases h.frameI r hr with hs | ⟨p, hp, e, q1, q2⟩ | ⟨b, e, q1, q2, q3⟩
    · exact .inl hs
    · rcases Nat.lt_or_ge p.1 base' with hl | hl
      · exact .inr (.inl ⟨p, (hW p).2 ⟨hp, hl⟩, e, q1, q2⟩)
      · exact .inr (.inr ⟨p.1, e, hl, q1, q2⟩)
    · exact .inr (.inr ⟨b, e, by omega, q2, q3⟩)
  keep := h.keep
  wd := fun p hp => h.wd p ((hW p).1 hp).1
  wl := fun p hp => h.wl p ((hW p).1 hp).1
  zold := h.zold

theorem keep_block {w w' : World} (h : ∀ r, r < w.heap.size → w'.heap[r]? = w.heap[r]?) (r o : Nat) (hc : (w.cell? ⟨r, o, none⟩).isSome = true) (hf : w.frozen? ⟨r, o, none⟩ = false) :
    (w'.cell? ⟨r, o, none⟩).isSome = true ∧ w'.frozen? ⟨r, o, none⟩ = false := by
  have hr : r < w.heap.size := by
    rcases Nat.lt_or_ge r w.heap.size with q | q
    · exact q
    · unfold World.cell? at hc; simp [Array.getElem?_eq_none q] at hc
  unfold World.cell? World.frozen? at *
  rw [h r hr]
  exact ⟨hc, hf⟩

end Go.XM
