/- A plain machine beside the model, and that what it tells the model does: part Xh. Conditions: those of each theorem below. -/
import Derived.Test.YtlaamopkgopleaaXg
import Derived.Laws.StructEq
import Derived.Laws.Append
namespace Go.XM
set_option linter.unusedVariables false
set_option linter.unusedSimpArgs false
open Go.RowKit
set_option linter.unusedVariables false

/-! ### operands -/
def TR (ρ : Emb) (T : Tmps) (tmps : Array Value) : Prop := ∀ t, (tget T t).live = true → VR ρ (tget T t) (tmps.getD t undef)

theorem bytes_eta (s : ByteArray) : (⟨s.data.toList.toArray⟩ : ByteArray) = s := by cases s; simp

theorem ofCell_vr {ρ : Emb} {c : Value} {v : XV} (h : XV.ofCell c = some v) : VR ρ v c := by
  unfold XV.ofCell at h
  split at h <;> first | cases h | skip
  all_goals constructor

theorem ofCells_vr {ρ : Emb} : ∀ {cs : List Value} {vs : List XV}, ofCells cs = some vs → VRs ρ vs cs
  | [], vs, h => by simp only [ofCells] at h; injection h with h; subst h; exact .nil
  | c :: cs, vs, h => by
    simp only [ofCells] at h
    split at h
    · rename_i a b ha hb
      injection h with h
      subst h
      exact .cons _ _ _ _ (ofCell_vr ha) (ofCells_vr hb)
    · cases h

theorem ofValue_vr {ρ : Emb} {c : Value} {v : XV} (h : XV.ofValue c = some v) : VR ρ v c := by
  unfold XV.ofValue at h
  split at h
  · rename_i cs
    split at h
    · rename_i l hl
      injection h with h
      subst h
      have := VR.agg (ρ := ρ) _ _ (ofCells_vr hl)
      simpa using this
    · cases h
  · rename_i vs
    split at h
    · rename_i he
      injection h with h
      subst h
      have he' : vs.toList = [] := by simpa using he
      have : vs = #[] := by simpa using he'
      subst this
      exact VR.tuple [] [] .nil
    · cases h
  · exact ofCell_vr h

theorem evalX_vr {ρ : Emb} {T : Tmps} {a : Act} (hT : TR ρ T a.tmps) {x : Operand} {v : XV} (h : evalX T x = some v) : VR ρ v (a.eval x) := by
  cases x with
  | tmp t =>
    simp only [evalX] at h
    split at h
    · rename_i hl; injection h with h; subst h; exact hT t hl
    · cases h
  | const c => exact ofValue_vr h
  | global g => cases h
  | func f => simp only [evalX] at h; injection h with h; subst h; exact VR.func f [] [] .nil

theorem evalAll_vr {ρ : Emb} {T : Tmps} {a : Act} (hT : TR ρ T a.tmps) : ∀ {xs : List Operand} {vs : List XV}, evalAll T xs = some vs → VRs ρ vs (xs.map a.eval)
  | [], vs, h => by simp only [evalAll] at h; injection h with h; subst h; exact .nil
  | x :: xs, vs, h => by
    simp only [evalAll] at h
    split at h
    · rename_i v l hv hl
      injection h with h
      subst h
      exact .cons _ _ _ _ (evalX_vr hT hv) (evalAll_vr hT hl)
    · cases h

/-- the parts of a literal -/
def PR (ρ : Emb) : List (Nat × XV) → List (Nat × Value) → Prop
  | [], [] => True
  | (i, v) :: l, (j, u) :: m => i = j ∧ VR ρ v u ∧ PR ρ l m
  | _, _ => False

theorem evalParts_vr {ρ : Emb} {T : Tmps} {a : Act} (hT : TR ρ T a.tmps) : ∀ {xs : List (Nat × Operand)} {vs : List (Nat × XV)}, evalParts T xs = some vs → PR ρ vs (xs.map fun p => (p.1, a.eval p.2))
  | [], vs, h => by simp only [evalParts] at h; injection h with h; subst h; trivial
  | (i, x) :: xs, vs, h => by
    simp only [evalParts] at h
    split at h
    · rename_i v l hv hl
      injection h with h
      subst h
      exact ⟨rfl, evalX_vr hT hv, evalParts_vr hT hl⟩
    · cases h

/-! ### what the tables say -/
section
variable {P : Program}
theorem run_info {t : TypeId} {i : TypeInfo} (h : P.info? t = some i) (w : World) : (typeInfo t).run P w = .ok i w := by simp [typeInfo, h]
theorem run_size {t : TypeId} {n : Nat} (h : tsize P t = some n) (w : World) : (sizeOf t).run P w = .ok n w := by
  unfold tsize at h
  split at h
  · rename_i i hi; injection h with h; simp [sizeOf, run_info hi, h]
  · cases h
theorem run_agg {t : TypeId} {b : Bool} (h : tagg P t = some b) (w : World) : (isAgg t).run P w = .ok b w := by
  unfold tagg at h
  split at h
  · rename_i fs hd; injection h with h; subst h; simp [isAgg, run_underlying hd]
  · rename_i n e hd; injection h with h; subst h; simp [isAgg, run_underlying hd]
  · rename_i d h1 h2 hd
    injection h with h
    subst h
    simp only [isAgg, Sem.run_bind, run_underlying hd, Result.andThen_ok]
    rfl
  · cases h
theorem run_zero {t : TypeId} {z : List XV} (h : zeroCells P t = some z) {ρ : Emb} (w : World) : ∃ u, (zeroValue t).run P w = .ok u w ∧ VRs ρ z u.cells.toList := by
  unfold zeroCells at h
  split at h
  · rename_i i hi
    split at h
    · rename_i c hc
      split at h
      · rename_i v hv
        injection h with h
        subst h
        exact ⟨c, by simp [zeroValue, run_info hi, hc], cells_of (ofValue_vr hv)⟩
      · cases h
    · cases h
  · cases h
theorem slice_elem {t e : TypeId} (h : sliceElem P t = some e) : P.underlying t = some (.slice e) := by
  unfold sliceElem at h
  split at h
  · rename_i e' he; injection h with h; subst h; exact he
  · cases h
theorem is_str {t : TypeId} (h : isStrT P t = true) : P.underlying t = some .string := by
  unfold isStrT at h
  split at h
  · assumption
  · cases h
theorem is_u8 {t : TypeId} (h : isU8 P t = true) : P.underlying t = some (.int .u8) := by
  unfold isU8 at h
  split at h
  · assumption
  · cases h
theorem is_i32 {t : TypeId} (h : isI32 P t = true) : P.underlying t = some (.int .i32) := by
  unfold isI32 at h
  split at h
  · assumption
  · cases h
theorem int_t {t : TypeId} {k : IntKind} (h : intT P t = some k) : P.underlying t = some (.int k) := by
  unfold intT at h
  split at h
  · injection h with h; subst h; assumption
  · cases h
end

/-- what an operation comes to -/
def Sim (P : Program) (B : Nat) (w0 : World) (base : Nat) (ρ : Emb) (S : XS) (w : World) (s : Sem Value) (v : XV) (S' : XS) : Prop :=
  ∃ u w' ρ' W, s.run P w = .ok u w' ∧ VR ρ' v u ∧ Rel B w0 ρ' S' w' ∧ Ev base ρ S w ρ' S' w' W ∧ S'.log = W ++ S.log

theorem Sim.pure {P : Program} {B : Nat} {w0 : World} {base : Nat} {ρ : Emb} {S : XS} {w : World} (h : Rel B w0 ρ S w) {s : Sem Value} {v : XV} {u : Value} (hs : s.run P w = .ok u w) (hv : VR ρ v u) :
    Sim P B w0 base ρ S w s v S := ⟨u, w, ρ, [], hs, hv, h, Ev.refl, rfl⟩

section
variable {P : Program} {B : Nat} {w0 : World} {base : Nat} {ρ : Emb} {S : XS} {w : World}

theorem cellsL_get {cs : List XV} : ∀ (n o : Nat) (l : List XV), cellsL cs o n = some l → l.length = n ∧ ∀ i v, l[i]? = some v → cs[o + i]? = some v ∧ v.live = true
  | 0, o, l, h => by simp only [cellsL] at h; injection h with h; subst h; exact ⟨rfl, fun i v hi => by simp at hi⟩
  | n + 1, o, l, h => by
    simp only [cellsL] at h
    split at h
    case h_2 => cases h
    case h_1 v hv =>
    split at h
    case h_2 => cases h
    case h_1 r hr =>
    injection h with h
    subst h
    obtain ⟨h1, h2⟩ := cellsL_get n (o + 1) r hr
    have hv' : cs[o]? = some v ∧ v.live = true := by
      unfold cellAt at hv
      split at hv
      · rename_i x hx
        split at hv
        · rename_i hl; injection hv with hv; subst hv; exact ⟨hx, hl⟩
        · cases hv
      · cases hv
    refine ⟨by simp [h1], fun i x hi => ?_⟩
    cases i with
    | zero => simp at hi; subst hi; exact hv'
    | succ i =>
      simp at hi
      have := h2 i x hi
      rwa [show o + 1 + i = o + (i + 1) by omega] at this

/-- reading a plain row -/
theorem rptr_read (h : Rel B w0 ρ S w) {t : Bool} {cs : List XV} {o : Nat} {q : Value} (hp : VR ρ (.rptr t cs o) q) :
    ∃ a : Addr, q = .pointer (some a) ∧ ∀ i v, cs[o + i]? = some v → v.live = true → ∃ u, w.cell? (a.add i) = some u ∧ VR ρ v u := by
  cases hp with
  | rptr _ _ _ _ h1 =>
  cases h1 with
  | rptr _ _ _ _ us r off q1 q2 =>
  refine ⟨_, rfl, fun i v hi hl => ?_⟩
  obtain ⟨u, hu, hr⟩ := q1.get hi hl
  have hz := h.fz.zc _ _ _ _ (q2 _ _ hu)
  refine ⟨u, ?_, DR.vr (hr.mono (h.fz.ok.cut t))⟩
  unfold Addr.add
  split
  · rename_i h0; subst h0
    rw [show o + off = off + (o + 0) by omega]; exact hz
  · show w.cell? ⟨r, o + off + i, none⟩ = some u
    rw [show o + off + i = off + (o + i) by omega]; exact hz

theorem rptr_cells (h : Rel B w0 ρ S w) {t : Bool} {cs : List XV} {o n : Nat} {q : Value} (hp : VR ρ (.rptr t cs o) q) {l : List XV} (hl : cellsL cs o n = some l) :
    ∃ (a : Addr) (us : List Value), q = .pointer (some a) ∧ VRs ρ l us ∧ us.length = n ∧ ∀ j u, us[j]? = some u → w.cell? (a.add j) = some u := by
  obtain ⟨a, rfl, hr⟩ := rptr_read h hp
  obtain ⟨h1, h2⟩ := cellsL_get n o l hl
  have hex : ∀ i, ∃ u, ∀ v, l[i]? = some v → w.cell? (a.add i) = some u ∧ VR ρ v u := fun i => by
    cases hq : l[i]? with
    | none => exact ⟨undef, fun v hv => by cases hv⟩
    | some v =>
      obtain ⟨q1, q2⟩ := h2 i v hq
      obtain ⟨u, hu, hvr⟩ := hr i v q1 q2
      exact ⟨u, fun v' hv' => by injection hv' with hv'; subst hv'; exact ⟨hu, hvr⟩⟩
  obtain ⟨f, hf⟩ := Classical.axiomOfChoice hex
  refine ⟨a, (List.range n).map f, rfl, VRs.of_get (by simp [h1]) fun i x v hx hv => ?_, by simp, fun j u hj => ?_⟩
  · have hi : i < n := by
      rcases Nat.lt_or_ge i n with q | q
      · exact q
      · rw [List.getElem?_eq_none (by omega)] at hx; cases hx
    simp [hi] at hv
    subst hv
    exact (hf i x hx).2
  · have hi : j < n := by
      rcases Nat.lt_or_ge j n with q | q
      · exact q
      · rw [List.getElem?_eq_none (by simpa using q)] at hj; cases hj
    simp [hi] at hj
    subst hj
    exact (hf j _ (List.getElem?_eq_getElem (by omega))).1

theorem cellAt_get {cs : List XV} {o : Nat} {v : XV} (h : cellAt cs o = some v) : cs[o]? = some v ∧ v.live = true := by
  unfold cellAt at h
  split at h
  · rename_i x hx
    split at h
    · rename_i hl; injection h with h; subst h; exact ⟨hx, hl⟩
    · cases h
  · cases h

theorem xload_sound (h : Rel B w0 ρ S w) {t : TypeId} {p v : XV} {q : Value} (hp : VR ρ p q) (hx : xload P S t p = some v) : Sim P B w0 base ρ S w (Instr.loadAt t q) v S := by
  unfold xload at hx
  split at hx
  case h_3 => cases hx
  case h_1 tg cs o =>
    split at hx
    case h_3 => cases hx
    case h_1 hag =>
      split at hx
      case h_2 => cases hx
      case h_1 n hn =>
      split at hx
      case h_2 => cases hx
      case h_1 l hl =>
      injection hx with hx
      subst hx
      obtain ⟨a, us, rfl, h1, h2, h3⟩ := rptr_cells h hp hl
      refine Sim.pure h (u := .agg us.toArray) ?_ (.agg _ _ h1)
      have := run_loadCells_list (P := P) w a us h3
      rw [h2] at this
      simp [Instr.loadAt, Instr.sureAddr, loadVar, run_agg hag, run_size hn, this]
    case h_2 hag =>
      obtain ⟨a, rfl, hr⟩ := rptr_read h hp
      obtain ⟨q1, q2⟩ := cellAt_get hx
      obtain ⟨u, hu, hvr⟩ := hr 0 v (by simpa using q1) q2
      refine Sim.pure h (u := u) ?_ hvr
      have h0 : a.add 0 = a := by simp [Addr.add]
      rw [h0] at hu
      simp [Instr.loadAt, Instr.sureAddr, loadVar, run_agg hag, hu]
  case h_2 b o =>
  cases hp with
  | ptr _ _ e he =>
  split at hx
  case h_3 => cases hx
  case h_1 hag =>
    split at hx
    case h_2 => cases hx
    case h_1 n hn =>
    split at hx
    case h_2 => cases hx
    case h_1 cs hcs =>
    injection hx with hx
    subst hx
    obtain ⟨us, h1, h2, h3⟩ := cells_read h he n o cs hcs
    refine Sim.pure h (u := .agg us.toArray) ?_ (.agg _ _ h1)
    have := run_loadCells_list (P := P) w (e.at o) us h3
    rw [h2] at this
    simp [Instr.loadAt, Instr.sureAddr, loadVar, run_agg hag, run_size hn, this]
  case h_2 hag =>
    obtain ⟨u, hu, hr⟩ := cell_read h he hx
    refine Sim.pure h (u := u) ?_ hr
    simp [Instr.loadAt, Instr.sureAddr, loadVar, run_agg hag, hu]

theorem xstore_sound (h : Rel B w0 ρ S w) (hb : base ≤ S.size) {t : TypeId} {p x : XV} {q y : Value} {S' : XS} (hp : VR ρ p q) (hv : VR ρ x y) (hx : xstore P base S t p x = some S') :
    ∃ w' W, (Instr.storeAt t q y).run P w = .ok () w' ∧ Rel B w0 ρ S' w' ∧ Ev base ρ S w ρ S' w' W ∧ S'.log = W ++ S.log := by
  unfold xstore at hx
  split at hx
  case h_2 => cases hx
  case h_1 b o =>
  split at hx
  case isFalse => cases hx
  rename_i hsz
  cases hp with
  | ptr _ _ e he =>
  obtain ⟨h1, h2, W, h3, h4, h5, h6⟩ := rel_storeN he x.cells y.cells.toList o S S' w h hb hx (cells_of hv)
  refine ⟨_, W, ?_, h3, h4, h5⟩
  have hn := size_cells hv
  have := run_storeCells P e.blk y.cells.toList 0 (o + e.sh) w h1 h2
  simp only [Nat.add_zero] at this
  simp [Instr.storeAt, Instr.sureAddr, storeVar, run_size hsz, hn, Ent.at, this]

theorem alloc_own (h : Rel B w0 ρ S w) (hb : base ≤ S.size) (cs : List XV) (us : Array Value) (t : TypeId) (hv : VRs ρ cs us.toList) :
    ∃ ρ', Rel B w0 ρ' (S.push (.cells cs .own)) (w.alloc (.cells us t)) ∧ Ev base ρ S w ρ' (S.push (.cells cs .own)) (w.alloc (.cells us t)) [] ∧ ρ' S.size = some ⟨w.heap.size, 0, none⟩ := by
  have hB : B ≤ w.heap.size := Nat.le_trans h.Bw h.below.size
  obtain ⟨h1, h2⟩ := rel_alloc h base hb (.cells cs .own) (.cells us t) none (blk_own hB cs us t fun i v hi _ => by
    obtain ⟨u, hu, hr⟩ := hv.get hi
    exact ⟨u, by simpa using hu, hr⟩)
  exact ⟨_, h1, h2, Emb.set_same _ _ _⟩

/-- a row of known size: plain cells alone, or whatever -/
theorem alloc_row (h : Rel B w0 ρ S w) (hb : base ≤ S.size) (cs : List XV) (us : Array Value) (t : TypeId) (hv : VRs ρ cs us.toList) {esz : Nat} (hz : 0 < esz) :
    ∃ ρ', Rel B w0 ρ' (S.push (.cells cs (if cs.all (XV.fits (.arr esz)) then .arr esz else .own))) (w.alloc (.cells us t)) ∧ Ev base ρ S w ρ' (S.push (.cells cs (if cs.all (XV.fits (.arr esz)) then .arr esz else .own))) (w.alloc (.cells us t)) [] ∧ ρ' S.size = some ⟨w.heap.size, 0, none⟩ := by
  split
  · rename_i hfit
    have hB : B ≤ w.heap.size := Nat.le_trans h.Bw h.below.size
    have hfl : Flat cs := fun v hv _ => by
      have := List.all_eq_true.1 hfit v hv
      simpa [XV.fits, XKind.flat] using this
    obtain ⟨h1, h2⟩ := rel_alloc h base hb (.cells cs (.arr esz)) (.cells us t) none (blk_arr hB cs us t hz hfl (by have := hv.length; simp at this; omega) fun i v hi _ => by
      obtain ⟨u, hu, hr⟩ := hv.get hi
      exact ⟨u, by simpa using hu, hr⟩)
    exact ⟨_, h1, h2, Emb.set_same _ _ _⟩
  · exact alloc_own h hb cs us t hv

theorem sim_ptr {ρ' : Emb} {S' : XS} {w' : World} {s : Sem Value} {W : List (Nat × Nat)} (hr : Rel B w0 ρ' S' w') (he : Ev base ρ S w ρ' S' w' W) (hlog : S'.log = W ++ S.log) (hk : ρ' S.size = some ⟨w.heap.size, 0, none⟩)
    (hs : s.run P w = .ok (.pointer (some ⟨w.heap.size, 0, none⟩)) w') : Sim P B w0 base ρ S w s (.ptr S.size 0) S' :=
  ⟨_, w', ρ', W, hs, by have := VR.ptr (ρ := ρ') S.size 0 _ hk; simpa [Ent.at] using this, hr, he, hlog⟩

end
end Go.XM
