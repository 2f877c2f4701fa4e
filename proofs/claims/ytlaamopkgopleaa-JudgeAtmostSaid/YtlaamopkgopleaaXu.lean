/- A plain machine beside the model, and that what it tells the model does: part Xu. Conditions: those of each theorem below. -/
import Derived.Test.YtlaamopkgopleaaXs
namespace Go.XM
set_option linter.unusedVariables false
set_option linter.unusedSimpArgs false
open Go.RowKit
set_option linter.unusedVariables false
set_option linter.unusedSimpArgs false

section
variable {P : Program} {B : Nat} {w0 : World}

theorem Rel.relog {ρ : Emb} {S : XS} {w : World} (h : Rel B w0 ρ S w) (l : List (Nat × Nat)) : Rel B w0 ρ { S with log := l } w :=
  ⟨h.below, h.Bw, h.dom, h.blk, h.inj, h.lt, h.fz⟩
theorem Ev.relog {base : Nat} {ρ ρ' : Emb} {S S' : XS} {w w' : World} {W : List (Nat × Nat)} (h : Ev base ρ S w ρ' S' w' W) (l l' : List (Nat × Nat)) :
    Ev base ρ { S with log := l } w ρ' { S' with log := l' } w' W :=
  ⟨h.ext, h.old, h.size, h.wsize, h.canon, h.gone, h.wb, h.new, h.frame, h.frameI, h.keep, h.wd, h.wl, h.zold⟩

/-- new memory alone: nothing turns -/
theorem rel_below {ρ : Emb} {S : XS} {w w' : World} (h : Rel B w0 ρ S w) (hb : Below w.heap.size w w') (base : Nat) {z : ZMap} (hle : ρ.z.le z) (hok : z.ok) (hzc : ∀ t r o v, z t r o = some v → w'.cell? ⟨r, o, none⟩ = some v)
    (hold : ∀ t r o v, z t r o = some v → r < w.heap.size → ρ.z t r o = some v) : Rel B w0 ⟨ρ.m, z⟩ S w' ∧ Ev base ρ S w ⟨ρ.m, z⟩ S w' [] := by
  have hk : ∀ r, r < w.heap.size → w'.heap[r]? = w.heap[r]? := hb.block
  have hl : ρ.le ⟨ρ.m, z⟩ := ⟨fun _ _ q => q, hle⟩
  refine ⟨⟨h.below.trans (hb.mono (Nat.le_trans h.Bw h.below.size)), h.Bw, h.dom, fun b e he => (h.blk b e he).move hl (hk _ (h.lt b e he)), h.inj, fun b e he => Nat.lt_of_lt_of_le (h.lt b e he) hb.size, hok, hzc, fun b e he hB t o => ?_⟩,
    ⟨hl, fun _ _ q _ => q, Nat.le_refl _, hb.size, fun b _ => BlkFrame.refl _ _ _, fun _ q _ => q, fun p hp => (by cases hp), fun b e he hq => .inr (.inl ⟨b, e, hq, he, rfl⟩), fun r o hr => .inl (SameAt.of_block (hk r hr) o), fun r hr => .inl (hk r hr), keep_block hk, fun p hp => (by cases hp), fun p hp => (by cases hp), hold⟩⟩
  cases hq : z t e.blk o with
  | none => exact hq
  | some v =>
    have := hold t e.blk o v hq (h.lt b e he)
    rw [h.fz.zd b e he hB t o] at this
    cases this

/-- a function that only looks: of plain data it makes plain data, and turns nothing that is there -/
def Pure (P : Program) (f : FuncId) (g : List XV → Option XV) : Prop :=
  ∀ args v, g args = some v → ∀ (z : ZMap) (w : World) (args' : List Value), z.ok → (∀ t r o u, z t r o = some u → w.cell? ⟨r, o, none⟩ = some u) → DRs z args args' →
    Calls P f args'.toArray w fun e w' => ∃ u z', e = .returned u ∧ z.le z' ∧ z'.ok ∧ (∀ t r o u, z' t r o = some u → w'.cell? ⟨r, o, none⟩ = some u) ∧
      (∀ t r o u, z' t r o = some u → r < w.heap.size → z t r o = some u) ∧ DR z' v u ∧ Below w.heap.size w w'

def PrimOK (P : Program) (prim : XPrim) : Prop := ∀ f g, prim f = some g → Pure P f g

/-- all that is there now, and what lasts -/
def lentZ (ρ : Emb) (w : World) : ZMap := fun t r o => if t then w.cell? ⟨r, o, none⟩ else ρ.z false r o

theorem lentZ_le {ρ : Emb} {w : World} (h : Froz B ρ w) : ρ.z.le (lentZ ρ w) := fun t r o v q => by
  unfold lentZ
  cases t with
  | true => exact h.zc _ _ _ _ q
  | false => exact q

/-- a row of cells that are there -/
theorem lent_row {ρ : Emb} {S : XS} {w : World} (h : Rel B w0 ρ S w) {Z : ZMap} (hZ : ρ.z.le Z) {b : Nat} {e : Ent} (he : ρ b = some e) {cs : List XV} {k : XKind} (hg : S.get b = .cells cs k) (hfl : Flat cs) (hsome : ∀ j, j < cs.length → (w.cell? (e.at j)).isSome = true) :
    ∃ us : List Value, DLs Z cs us ∧ ∀ i u, us[i]? = some u → w.cell? (e.at i) = some u := by
  have hblk := h.blk b e he
  rw [hg] at hblk
  have hex : ∀ i, ∃ u, i < cs.length → w.cell? (e.at i) = some u := fun i => by
    by_cases q : i < cs.length
    · obtain ⟨u, hu⟩ := Option.isSome_iff_exists.1 (hsome i q)
      exact ⟨u, fun _ => hu⟩
    · exact ⟨undef, fun z => absurd z q⟩
  obtain ⟨f, hf⟩ := Classical.axiomOfChoice hex
  have hlt : ∀ {i : Nat} {u : Value}, ((List.range cs.length).map f)[i]? = some u → i < cs.length ∧ u = f i := fun {i u} hj => by
    have hi : i < cs.length := by
      rcases Nat.lt_or_ge i cs.length with q | q
      · exact q
      · rw [List.getElem?_eq_none (by simpa using q)] at hj; cases hj
    simp [hi] at hj
    exact ⟨hi, hj.symm⟩
  refine ⟨(List.range cs.length).map f, DLs.of_get (by simp) fun i x v hx hv hl => ?_, fun i u hu => ?_⟩
  · obtain ⟨hi, rfl⟩ := hlt hv
    obtain ⟨u, q1, q2, _⟩ := hblk.2 i x hx hl
    rw [hf i hi] at q1
    injection q1 with q1
    rw [q1]
    exact (q2.plain (hfl x (List.mem_of_getElem? hx) hl).2).mono hZ
  · obtain ⟨hi, rfl⟩ := hlt hu
    exact hf i hi

theorem lentAny_false {l : List XV} : lentAny l = false ↔ ∀ v, v ∈ l → v.lent = false := by
  induction l with
  | nil => simp [lentAny]
  | cons x r ih => simp [lentAny, Bool.or_eq_false_iff, ih]

theorem DLs.lasts {z z' : ZMap} (hl : ∀ r o v, z false r o = some v → z' false r o = some v) {xs : List XV} {vs : List Value} (h : DLs z xs vs) (hx : lentAny xs = false) : DLs z' xs vs :=
  DLs.of_get h.length fun i x v hxi hvi hlv => by
    obtain ⟨u, hu, hr⟩ := h.get hxi hlv
    rw [hvi] at hu
    injection hu with hu
    subst hu
    exact hr.lasts hl (lentAny_false.1 hx x (List.mem_of_getElem? hxi))

theorem DLs.cutT {z : ZMap} {t : Bool} {xs : List XV} {vs : List Value} (h : DLs z xs vs) (hx : (t || !lentAny xs) = true) : DLs (zcut t z) xs vs := by
  cases t with
  | true => exact h
  | false => exact DLs.lasts (z := z) (z' := zcut false z) (fun r o v q => q) h (by simpa using hx)

theorem DRs.dls {z : ZMap} : ∀ {xs : List XV} {vs : List Value}, DRs z xs vs → DLs z xs vs
  | _, _, .nil _ => .nil _
  | _, _, .cons _ x v xs vs h1 h2 => .cons _ x v xs vs h1 h2.dls

theorem DRs.of_get {z : ZMap} : ∀ {xs : List XV} {vs : List Value}, xs.length = vs.length → (∀ (i : Nat) (x : XV) (v : Value), xs[i]? = some x → vs[i]? = some v → DR z x v) → DRs z xs vs
  | [], [], _, _ => .nil _
  | x :: xs, v :: vs, hl, h => .cons _ x v xs vs (h 0 x v (by simp) (by simp)) (DRs.of_get (by simpa using hl) (fun i a b ha hb => h (i + 1) a b (by simpa using ha) (by simpa using hb)))
  | [], _ :: _, hl, _ => by simp at hl
  | _ :: _, [], hl, _ => by simp at hl

theorem hardAll_drs {ρ : Emb} {z : ZMap} {f : XV → Option XV} (hf : ∀ x y u, f x = some y → VR ρ x u → DR z y u) {xs ys : List XV} {us : List Value} (h : hardAll f xs = some ys) (hv : VRs ρ xs us) : DRs z ys us := by
  obtain ⟨h1, h2⟩ := hardAll_get h
  refine DRs.of_get (by rw [h1, hv.length]) fun i y u hy hu => ?_
  obtain ⟨x, q1, q2⟩ := h2 i y hy
  obtain ⟨u', q3, q4⟩ := hv.get q1
  rw [hu] at q3
  injection q3 with q3
  subst q3
  exact hf x y u q2 q4

/-- what was read out reads the same, where what there is stays as it is -/
theorem hard_dr {ρ : Emb} {S : XS} {w : World} (h : Rel B w0 ρ S w) {tg : Bool} {Z : ZMap} (hZ : ρ.z.le Z) (hnew : ∀ b e, ρ b = some e → B ≤ e.blk → ∀ o v, w.cell? (e.at o) = some v → Z tg e.blk (o + e.sh) = some v) :
    ∀ (n : Nat) (x y : XV) (u : Value), hard tg S n x = some y → VR ρ x u → DR Z y u
  | 0, x, y, u, hx, hv => by simp [hard] at hx
  | n + 1, x, y, u, hx, hv => by
    have ih := hard_dr h hZ hnew n
    have flatOf : ∀ {b : Nat} {e : Ent} {cs : List XV} {k : XKind}, ρ b = some e → S.get b = .cells cs k → k.flat = true → B ≤ e.blk ∧ Flat cs ∧ ∀ j, j < cs.length → (w.cell? (e.at j)).isSome = true := fun {b e cs k} he hg hk => by
      have hblk := h.blk b e he
      rw [hg] at hblk
      cases k with
      | ro => cases hk
      | own => cases hk
      | arr esz => exact ⟨hblk.1.1.1, hblk.1.2.2.1, fun j hj => (hblk.1.2.2.2 j hj).1⟩
      | loose esz m =>
        obtain ⟨⟨hB, hz, hl, hf, rsz, hlo, hin, hroom⟩, _⟩ := hblk
        exact ⟨hB, hf, fun j hj => (hroom (j + e.sh) (by omega)).1⟩
    have cut : ∀ {b o len esz cap : Nat} {e : Ent} {cs : List XV} {k : XKind} {a : Addr} {m : Bool}, ρ b = some e → S.get b = .cells cs k → k.flat = true → (a = e.at o ∨ len = 0) → len ≤ cap → (m = true → cap = len) → (tg || !lentAny cs) = true →
        DR Z (.row tg m ((cs.drop o).take (len * esz)) len) (.slice (some a) len cap) := fun {b o len esz cap e cs k a m} he hg hk ha hlc hm hle => by
      obtain ⟨hB, hf, hs⟩ := flatOf he hg hk
      obtain ⟨us, q1, q2⟩ := lent_row h hZ he hg hf hs
      have hone : oneLive ((cs.drop o).take (len * esz)) := fun v hv hl => (hf v (List.mem_of_mem_drop (List.mem_of_mem_take hv)) hl).1
      rcases ha with rfl | ha
      · refine .row _ _ _ _ _ ((us.drop o).take (len * esz)) _ _ ((q1.cutT hle).cut _ _) (fun i u hi => ?_) (.inr rfl) hlc hm hone
        rw [List.getElem?_take] at hi
        split at hi
        · rw [List.getElem?_drop] at hi
          have := hnew b e he hB _ _ (q2 _ _ hi)
          show Z tg e.blk (o + e.sh + i) = some u
          rw [show o + e.sh + i = o + i + e.sh by omega]
          exact this
        · cases hi
      · subst ha
        refine .row _ _ _ _ _ [] _ _ ?_ (fun i u hi => by simp at hi) (.inl rfl) hlc hm hone
        simp only [Nat.zero_mul, List.take_zero]
        exact .nil _
    unfold hard at hx
    split at hx
    · rename_i b o
      split at hx
      case h_2 => cases hx
      case h_1 cs k hg =>
      split at hx
      case h_2 => cases hx
      case h_1 l hl =>
      split at hx
      case isFalse => cases hx
      rename_i hc
      obtain ⟨hkro, hle⟩ := hc
      injection hx with hx
      subst hx
      cases hv with
      | ptr _ _ e he =>
      obtain ⟨l1, l2⟩ := hardAll_get hl
      have hblk := h.blk b e he
      rw [hg] at hblk
      have hB : B ≤ e.blk := by
        cases k with
        | ro => exact absurd rfl hkro
        | own => exact hblk.1.1
        | arr esz => exact hblk.1.1.1
        | loose esz m => exact hblk.1.1
      have hex : ∀ i, ∃ u, ∀ y, l[i]? = some y → w.cell? (e.at i) = some u ∧ DR Z y u := fun i => by
        cases hq : l[i]? with
        | none => exact ⟨undef, fun y hy => by cases hy⟩
        | some y =>
          obtain ⟨x, q1, q2⟩ := l2 i y hq
          have hlive : x.live = true := by
            cases x <;> first | rfl | skip
            cases n <;> simp [hard] at q2
          obtain ⟨u, r1, r2, _⟩ := hblk.2 i x q1 hlive
          exact ⟨u, fun y' hy' => by injection hy' with hy'; subst hy'; exact ⟨r1, ih x y u q2 r2⟩⟩
      obtain ⟨f, hf⟩ := Classical.axiomOfChoice hex
      have hgetf : ∀ {i : Nat} {v : Value}, ((List.range l.length).map f)[i]? = some v → i < l.length ∧ v = f i := fun {i v} hj => by
        have hi : i < l.length := by
          rcases Nat.lt_or_ge i l.length with q | q
          · exact q
          · rw [List.getElem?_eq_none (by simpa using q)] at hj; cases hj
        simp [hi] at hj
        exact ⟨hi, hj.symm⟩
      have hdl : DLs Z l ((List.range l.length).map f) := DRs.dls (DRs.of_get (by simp) fun i y v hy hv => by
        obtain ⟨hi, rfl⟩ := hgetf hv
        exact (hf i y hy).2)
      refine .rptr _ _ _ _ ((List.range l.length).map f) e.blk e.sh (hdl.cutT hle) fun i v hv => ?_
      obtain ⟨hi, rfl⟩ := hgetf hv
      have := hnew b e he hB _ _ (hf i _ (List.getElem?_eq_getElem hi)).1
      rw [Nat.add_comm]
      exact this
    · rename_i b
      split at hx
      case h_2 => cases hx
      case h_1 cs esz m hg =>
      split at hx
      case isFalse => cases hx
      rename_i hle
      injection hx with hx
      subst hx
      cases hv with
      | sl _ cap' e esz' n' rsz he hl hnc hroom =>
      obtain ⟨rsz2, hl2, _⟩ := loose_n h he hg
      rw [hl] at hl2
      injection hl2 with hl2
      simp only [Prod.mk.injEq] at hl2
      obtain ⟨rfl, rfl, rfl⟩ := hl2
      obtain ⟨hB, hf, hs⟩ := flatOf he hg rfl
      obtain ⟨us, q1, q2⟩ := lent_row h hZ he hg hf hs
      refine .row _ _ _ _ _ us _ _ (q1.cutT hle) (fun i u hi => ?_) (.inr rfl) hnc (fun q => by cases q) hf.one
      have := hnew b e he hB _ _ (q2 _ _ hi)
      show Z tg e.blk (0 + e.sh + i) = some u
      rw [show 0 + e.sh + i = i + e.sh by omega]
      exact this
    · rename_i b o len cap
      obtain ⟨a, en, hen, rfl, hlc, ha⟩ := slice_real hv
      split at hx
      case h_3 => cases hx
      case h_1 cs esz hg =>
        split at hx
        case isFalse => cases hx
        rename_i hle
        injection hx with hx
        subst hx
        exact cut hen hg rfl (ha.imp id (·.1)) hlc (fun q => by simp at q; exact q.symm) hle
      case h_2 cs esz m hg =>
        split at hx
        case isFalse => cases hx
        rename_i hle
        injection hx with hx
        subst hx
        exact cut hen hg rfl (ha.imp id (·.1)) hlc (fun q => by simp at q; exact q.symm) hle
    · rename_i b o len
      have real : ∃ a cap' en, ρ b = some en ∧ u = .slice (some a) len cap' ∧ len ≤ cap' ∧ (a = en.at o ∨ len = 0) := by
        cases hv with
        | part _ _ _ cap' en hen hlc => exact ⟨_, cap', en, hen, rfl, hlc, .inl rfl⟩
        | partZ _ _ cap' en a hen => exact ⟨a, cap', en, hen, rfl, Nat.zero_le _, .inr rfl⟩
      obtain ⟨a, cap', en, hen, rfl, hlc, ha⟩ := real
      split at hx
      case h_3 => cases hx
      case h_1 cs esz hg =>
        split at hx
        case isFalse => cases hx
        rename_i hle
        injection hx with hx
        subst hx
        exact cut hen hg rfl ha hlc (fun q => by cases q) hle
      case h_2 cs esz m hg =>
        split at hx
        case isFalse => cases hx
        rename_i hle
        injection hx with hx
        subst hx
        exact cut hen hg rfl ha hlc (fun q => by cases q) hle
    · split at hx
      case h_2 => cases hx
      case h_1 l hl =>
      injection hx with hx
      subst hx
      cases hv with
      | func _ _ ds hd => exact .func _ _ _ _ (hardAll_drs ih hl hd)
    · split at hx
      case h_2 => cases hx
      case h_1 y' hy =>
      injection hx with hx
      subst hx
      cases hv with
      | iface _ _ v' hv' => exact .iface _ _ _ _ (ih _ _ _ hy hv')
    · split at hx
      case h_2 => cases hx
      case h_1 l hl =>
      injection hx with hx
      subst hx
      cases hv with
      | agg _ ds hd => exact .agg _ _ _ (hardAll_drs ih hl hd)
    · split at hx
      case h_2 => cases hx
      case h_1 l hl =>
      injection hx with hx
      subst hx
      cases hv with
      | tuple _ ds hd => exact .tuple _ _ _ (hardAll_drs ih hl hd)
    · cases hx
    · injection hx with hx
      subst hx
      cases hv
      exact .rowNil _ _ _
    · split at hx
      case isFalse => cases hx
      rename_i hu
      injection hx with hx
      subst hx
      exact (hv.plain hu).mono hZ

def GoodProg (P : Program) (prim : XPrim) (good : Nat → Array Oper → Bool) : Prop :=
  ∀ f fn c, P.funcs[f]? = some fn → fn.body = some c → prim f = none → goodCode good fn.ntmps c = true

theorem xload_pure {ρ : Emb} {S : XS} {w : World} (h : Rel B w0 ρ S w) {t : TypeId} {p v : XV} {q : Value} (hp : VR ρ p q) (hx : xload P S t p = some v) : ∃ u, (do loadVar t (← asAddr q) : Sem Value).run P w = .ok u w ∧ VR ρ v u := by
  unfold xload at hx
  split at hx
  case h_3 => cases hx
  case h_1 tg cs o =>
    split at hx
    case h_3 => cases hx
    case h_1 hag =>
      split at hx
      case h_2 => cases hx
      case h_1 n hn =>
      split at hx
      case h_2 => cases hx
      case h_1 l hl =>
      injection hx with hx
      subst hx
      obtain ⟨a, us, rfl, h1, h2, h3⟩ := rptr_cells h hp hl
      refine ⟨.agg us.toArray, ?_, .agg _ _ h1⟩
      have := run_loadCells_list (P := P) w a us h3
      rw [h2] at this
      simp [asAddr, loadVar, run_agg hag, run_size hn, this]
    case h_2 hag =>
      obtain ⟨a, rfl, hr⟩ := rptr_read h hp
      obtain ⟨q1, q2⟩ := cellAt_get hx
      obtain ⟨u, hu, hvr⟩ := hr 0 v (by simpa using q1) q2
      refine ⟨u, ?_, hvr⟩
      have h0 : a.add 0 = a := by simp [Addr.add]
      rw [h0] at hu
      simp [asAddr, loadVar, run_agg hag, hu]
  case h_2 b o =>
  cases hp with
  | ptr _ _ e he =>
  split at hx
  case h_3 => cases hx
  case h_1 hag =>
    split at hx
    case h_2 => cases hx
    case h_1 n hn =>
    split at hx
    case h_2 => cases hx
    case h_1 cs hcs =>
    injection hx with hx
    subst hx
    obtain ⟨us, h1, h2, h3⟩ := cells_read h he n o cs hcs
    refine ⟨.agg us.toArray, ?_, .agg _ _ h1⟩
    have := run_loadCells_list (P := P) w (e.at o) us h3
    rw [h2] at this
    simp [asAddr, loadVar, run_agg hag, run_size hn, this]
  case h_2 hag =>
    obtain ⟨u, hu, hr⟩ := cell_read h he hx
    refine ⟨u, ?_, hr⟩
    simp [asAddr, loadVar, run_agg hag, hu]

def resultOf (a : Act) : ResultVar → Sem Value
  | .tmp t => pure (a.tmps.getD t undef)
  | .cell x t => do loadVar t (← asAddr (a.tmps.getD x undef))

theorem xresult_sound {ρ : Emb} {S : XS} {w : World} (h : Rel B w0 ρ S w) {T : Tmps} {a : Act} (hT : TR ρ T a.tmps) {r : ResultVar} {v : XV} (hx : xresult P T S r = some v) :
    ∃ u, (resultOf a r).run P w = .ok u w ∧ VR ρ v u := by
  cases r with
  | tmp t => exact ⟨_, rfl, evalX_vr (x := .tmp t) hT hx⟩
  | cell x t =>
    simp only [xresult] at hx
    split at hx
    case h_2 => cases hx
    case h_1 p hp =>
    exact xload_pure h (evalX_vr (x := .tmp x) hT hp) hx

theorem xresults_sound {ρ : Emb} {S : XS} {w : World} (h : Rel B w0 ρ S w) {T : Tmps} {a : Act} (hT : TR ρ T a.tmps) : ∀ (rs : List ResultVar) (l : List XV), xresults P T S rs = some l →
    ∃ us, (rs.mapM (resultOf a)).run P w = .ok us w ∧ VRs ρ l us
  | [], l, hx => by
    simp only [xresults, Option.some.injEq] at hx
    subst hx
    exact ⟨[], by simp, .nil⟩
  | r :: rs, l, hx => by
    simp only [xresults] at hx
    split at hx
    case h_2 => cases hx
    case h_1 v l' hv hl =>
    injection hx with hx
    subst hx
    obtain ⟨u, h1, h2⟩ := xresult_sound h hT hv
    obtain ⟨us, h3, h4⟩ := xresults_sound h hT rs l' hl
    exact ⟨u :: us, by simp [h1, h3], .cons _ _ _ _ h2 h4⟩

theorem results_run {ρ : Emb} {S : XS} {w : World} (h : Rel B w0 ρ S w) {T : Tmps} {a : Act} (hT : TR ρ T a.tmps) {fn : Func} {l : List XV} (hx : xresults P T S fn.results.toList = some l) :
    ∃ u, (results fn a.tmps).run P w = .ok u w ∧ VR ρ (oneOr l) u := by
  obtain ⟨us, h1, h2⟩ := xresults_sound h hT _ l hx
  have hm : (fn.results.mapM (resultOf a)).run P w = .ok us.toArray w := by
    rw [Array.mapM_eq_mapM_toList]
    simp [h1]
  have he : results fn a.tmps = (do let vs ← fn.results.mapM (resultOf a); pure (if h : vs.size = 1 then vs[0] else .tuple vs) : Sem Value) := rfl
  rw [he]
  simp only [Sem.run_bind, hm, Result.andThen_ok, Sem.run_pure]
  refine ⟨_, rfl, ?_⟩
  match l, us, h2 with
  | [], _, .nil => exact VR.tuple [] [] .nil
  | [x], _, .cons _ u _ _ q .nil => simpa [oneOr] using q
  | x :: y :: r, _, .cons _ u _ _ q (.cons _ u2 _ us2 q2 q3) =>
    have : ¬ ((u :: u2 :: us2).toArray.size = 1) := by simp
    rw [dif_neg this]
    exact VR.tuple _ _ (.cons _ _ _ _ q (.cons _ _ _ _ q2 q3))

/-- what nobody can reach is dropped -/
theorem drop_new {ρ ρ' : Emb} {S S1 : XS} {w w' : World} (h : Rel B w0 ρ S w) (h1 : Rel B w0 ρ' S1 w') (he : Ev S.size ρ S w ρ' S1 w' []) (base : Nat) (hb : base ≤ S.size) : Rel B w0 ⟨ρ.m, ρ'.z⟩ S w' ∧ Ev base ρ S w ⟨ρ.m, ρ'.z⟩ S w' [] := by
  have hl : ρ.le ⟨ρ.m, ρ'.z⟩ := ⟨fun _ _ q => q, he.ext.z⟩
  have hget : ∀ b, b < S.size → S1.get b = S.get b ∨ ((S.get b).isGone = true ∧ (S1.get b).isGone = true) := by
    intro b hlt
    have hc := he.canon b hlt
    revert hc
    cases S.get b with
    | cells cs k =>
      cases S1.get b with
      | cells cs' k' =>
        rintro ⟨rfl, hl, hq, _⟩
        refine .inl ?_
        congr 1
        exact List.ext_getElem? fun i => hq i (by simp)
      | iter s p => intro hc; exact hc.elim
      | gone =>
        rintro ⟨hne, hq⟩
        have := hq 0 hne
        cases this
    | iter s p =>
      cases S1.get b with
      | cells cs' k' => intro hc; exact hc.elim
      | iter s' p' => rintro ⟨rfl, hq⟩; refine .inl ?_; rw [hq (by simp)]
      | gone => intro hc; exact hc.elim
    | gone =>
      cases S1.get b with
      | cells cs' k' => intro hc; exact hc.elim
      | iter s' p' => intro hc; exact hc.elim
      | gone => intro _; exact .inl rfl
  have hdom := h.dom
  have hsame : ∀ b, b < S.size → S1.get b = S.get b := fun b hlt => by
    rcases hget b hlt with q | ⟨q1, q2⟩
    · exact q
    · revert q1 q2; cases S.get b <;> cases S1.get b <;> simp [XBlk.isGone]
  refine ⟨⟨h1.below, h.Bw, h.dom, fun b e hbe => ?_, fun b b' e e' hbe hbe' hq hn => ?_, fun b e hbe => h1.lt b e (he.ext.m b e hbe), h1.fz.ok, h1.fz.zc, fun b e hbe => h1.fz.zd b e (he.ext.m b e hbe)⟩,
    ⟨hl, fun _ _ q _ => q, Nat.le_refl _, he.wsize, fun b _ => BlkFrame.refl _ _ _, fun _ q _ => q, fun p hp => (by cases hp), fun b e hbe hq => .inr (.inl ⟨b, e, hq, hbe, rfl⟩), fun r o hr => ?_, fun r hr => ?_, he.keep, fun p hp => (by cases hp), fun p hp => (by cases hp), he.zold⟩⟩
  · have hold := h.blk b e hbe
    have hnew := h1.blk b e (he.ext.m b e hbe)
    rw [hsame b (hdom b e hbe)] at hnew
    revert hold hnew
    cases S.get b with
    | cells cs k =>
      intro hold hnew
      refine ⟨hnew.1, fun o v ho hv => ?_⟩
      obtain ⟨u, q1, q2, q3⟩ := hnew.2 o v ho hv
      obtain ⟨u', p1, p2, p3⟩ := hold.2 o v ho hv
      have hsm : SameAt w w' e.blk (o + e.sh) := by
        rcases he.frame e.blk (o + e.sh) (h.lt b e hbe) with q | ⟨p, hp, _⟩ | ⟨b0, e0, q, hbe0, _⟩
        · exact q
        · cases hp
        · exact absurd (hdom b0 e0 hbe0) (by omega)
      have huu : u' = u := by
        have : w'.cell? (e.at o) = w.cell? (e.at o) := hsm.1
        rw [q1, p1] at this
        injection this with this
        exact this.symm
      subst huu
      exact ⟨u', q1, p2.mono hl, q3⟩
    | iter s p => intro _ hnew; exact hnew
    | gone => intro _ _; trivial
  · have := h1.inj b b' e e' (he.ext.m b e hbe) (he.ext.m b' e' hbe') hq hn
    rw [hsame b (hdom b e hbe), hsame b' (hdom b' e' hbe')] at this
    exact this
  · rcases he.frame r o hr with q | ⟨p, hp, _⟩ | ⟨b, e, hq, hbe, _⟩
    · exact .inl q
    · cases hp
    · exact absurd (hdom b e hbe) (by omega)
  · rcases he.frameI r hr with q | ⟨p, hp, _⟩ | ⟨b, e, hq, hbe, _⟩
    · exact .inl q
    · cases hp
    · exact absurd (hdom b e hbe) (by omega)

theorem getD_args (args' : List Value) (n : Nat) (t : Nat) : (args'.toArray ++ Array.replicate (n - args'.toArray.size) undef).getD t undef = (args'[t]?).getD undef := by
  rw [Array.getD_eq_getD_getElem?, Array.getElem?_append]
  split
  · simp
  · rename_i h
    simp at h
    rw [List.getElem?_eq_none h]
    simp only [Array.getElem?_replicate]
    split <;> rfl

theorem tr_args {ρ : Emb} {args : List XV} {args' : List Value} (h : VRs ρ args args') (n : Nat) : TR ρ (argsT 0 args []) (args'.toArray ++ Array.replicate (n - args'.toArray.size) undef) := by
  intro t
  rw [getD_args, tget_argsT]
  have hl : (if 0 ≤ t ∧ t < 0 + args.length then (args[t - 0]?).getD (.tuple []) else tget [] t) = (args[t]?).getD (.tuple []) := by
    by_cases q : t < args.length
    · rw [if_pos (by omega)]; simp
    · rw [if_neg (by omega), List.getElem?_eq_none (by omega)]; rfl
  rw [hl]
  cases hq : args[t]? with
  | none =>
    have : args'[t]? = none := by
      rw [List.getElem?_eq_none_iff] at hq ⊢
      rw [← h.length]; exact hq
    rw [this]
    exact fun _ => VR.tuple [] [] .nil
  | some v =>
    obtain ⟨u, hu, hr⟩ := h.get hq
    rw [hu]
    exact fun _ => hr

theorem xcall_ok {prim : XPrim} {good : Nat → Array Oper → Bool} {okc : XCallFn → Prop} (hD : DrawOK P B w0 good okc) (hok : ∀ n, okc (xcall P prim n)) (hp : PrimOK P prim) (hg : GoodProg P prim good) : ∀ n, CallOK P B w0 (xcall P prim n)
  | 0 => fun f args base S v S' hx => by simp [xcall] at hx
  | n + 1 => fun f args base S v S' hx => by
    have ih := xcall_ok hD hok hp hg n
    unfold xcall at hx
    split at hx
    · cases hx
    rename_i fn hf
    split at hx
    · cases hx
    rename_i c hc
    split at hx
    · cases hx
    rename_i hname
    split at hx
    · cases hx
    rename_i hlen
    have hent : Enters P f := ⟨fn, hf, by rw [hc]; rfl, by simpa using hname⟩
    refine ⟨hent, ?_⟩
    split at hx
    · rename_i g hpg
      split at hx
      · rename_i hpl
        split at hx
        case h_2 => cases hx
        case h_1 v' hv' =>
        injection hx with hx
        simp only [Prod.mk.injEq] at hx
        obtain ⟨rfl, rfl⟩ := hx
        intro ρ w args' h hb hargs
        refine (hp f g hpg args v' hv' ρ.z w args' h.fz.ok h.fz.zc (hargs.plain hpl)).mono ?_
        rintro e w' ⟨u, z', rfl, hle, hok', hzc, hold, hu, hbel⟩
        obtain ⟨r1, r2⟩ := rel_below h hbel base hle hok' hzc hold
        exact ⟨u, ⟨ρ.m, z'⟩, [], rfl, DR.vr (ρ := ⟨ρ.m, z'⟩) hu, r1, r2, rfl⟩
      · split at hx
        case h_2 => cases hx
        case h_1 as has =>
        split at hx
        case h_2 => cases hx
        case h_1 v' hv' =>
        split at hx
        · cases hx
        rename_i hnl
        injection hx with hx
        simp only [Prod.mk.injEq] at hx
        obtain ⟨rfl, rfl⟩ := hx
        intro ρ w args' h hb hargs
        have hlz : (lentZ ρ w).ok := fun r o v q => h.fz.zc false r o v q
        refine (hp f g hpg as v' hv' (lentZ ρ w) w args' hlz (fun t r o v q => ?_) (hardAll_drs (fun x y u hxy hxu => hard_dr h (tg := true) (lentZ_le h.fz) (fun b e _ _ o v q => q) 50 x y u hxy hxu) has hargs)).mono ?_
        · cases t with
          | true => exact q
          | false => exact h.fz.zc false r o v q
        rintro e w' ⟨u, z', rfl, hle, hok', hzc, hold, hu, hbel⟩
        have hk : ∀ t r o v, ρ.z t r o = some v → w'.cell? ⟨r, o, none⟩ = some v := fun t r o v q => (World.cell?_of_block (w := w) (a := ⟨r, o, none⟩) (hbel.block r (h.fz.lt q))).trans (h.fz.zc _ _ _ _ q)
        let z2 : ZMap := fun t r o => match ρ.z t r o with | some v => some v | none => z' false r o
        have hz2 : ∀ t r o v, z2 t r o = some v → ρ.z t r o = some v ∨ z' false r o = some v := fun t r o v q => by
          simp only [z2] at q
          split at q
          · rename_i v1 h1; injection q with q; subst q; exact .inl h1
          · exact .inr q
        have hin : ∀ r o v t, z' false r o = some v → z2 t r o = some v := fun r o v t q => by
          simp only [z2]
          split
          · rename_i v1 h1
            have e1 := hk t r o v1 h1
            have e2 := hzc false r o v q
            rw [e1] at e2
            exact e2
          · exact q
        have hle2 : ρ.z.le z2 := fun t r o v q => by simp only [z2]; rw [q]
        obtain ⟨r1, r2⟩ := rel_below h hbel base (z := z2) hle2 (fun r o v q => by
            rcases hz2 _ _ _ _ q with q | q
            · exact hle2 _ _ _ _ (h.fz.ok _ _ _ q)
            · exact hin _ _ _ _ q) (fun t r o v q => by
            rcases hz2 _ _ _ _ q with q | q
            · exact hk _ _ _ _ q
            · exact hzc _ _ _ _ q) (fun t r o v q hr => by
            rcases hz2 _ _ _ _ q with q | q
            · exact q
            · have : ρ.z false r o = some v := hold false r o v q hr
              cases t with
              | false => exact this
              | true => exact h.fz.ok _ _ _ this)
        exact ⟨u, ⟨ρ.m, z2⟩, [], rfl, DR.vr (ρ := ⟨ρ.m, z2⟩) (hu.lasts (fun r o v q => hin r o v false q) (by simpa using hnl)), r1, r2, rfl⟩
    · rename_i hpn
      split at hx
      case h_2 => cases hx
      case h_1 e T S1 hcode =>
      split at hx
      case isFalse => cases hx
      rename_i hexit
      split at hx
      case h_2 => cases hx
      case h_1 l hl =>
      intro ρ w args' h hb hargs
      have hgc := hg f fn c hf hc hpn
      have hal : args'.length ≤ fn.ntmps := by rw [← hargs.length]; omega
      refine calls_of_wp hf hc ?_
      have h0 : Rel B w0 ρ { S with log := [] } w := h.relog []
      refine xcode_wp hD ih (hok n) (S0 := { S with log := [] }) (ρ0 := ρ) (wi := w) (n := fn.ntmps) rfl h0.dom (lv := livesOf fn (prim.live f)) (fun id rows ts hl => by
        unfold livesOf at hl
        split at hl
        · injection hl with hl; simp only [Prod.mk.injEq] at hl; obtain ⟨rfl, _⟩ := hl; omega
        · cases hl) c (argsT 0 args []) { S with log := [] } _ w e T S1 _ hgc ?_ hcode ?_
      · refine ⟨ρ, [], h0, Ev.refl, rfl, tr_args hargs fn.ntmps, ?_, rfl⟩
        simp
        omega
      · rintro a' w' ⟨ρ', W, q1, q2, q3, q4, q5, q6⟩
        obtain ⟨u, hu1, hu2⟩ := results_run q1 q4 hl
        have fin : ∃ u' ρ'' W', Ending.returned u = .returned u' ∧ VR ρ'' v u' ∧ Rel B w0 ρ'' S' w' ∧ Ev base ρ S w ρ'' S' w' W' ∧ S'.log = W' ++ S.log := by
          have hW : S1.log = W := by rw [q3]; simp
          have q2' : Ev S.size ρ S w ρ' S1 w' W := q2.relog S.log S1.log
          split at hx
          · rename_i hcnd
            injection hx with hx
            simp only [Prod.mk.injEq] at hx
            obtain ⟨rfl, rfl⟩ := hx
            simp only [Bool.and_eq_true] at hcnd
            have hW0 : W = [] := by rw [← hW]; simpa using hcnd.1
            subst hW0
            obtain ⟨r1, r2⟩ := drop_new h q1 q2' base hb
            exact ⟨u, ⟨ρ.m, ρ'.z⟩, [], rfl, hu2.under (ρ := ⟨ρ.m, ρ'.z⟩) (n := S.size) (fun b e hlt hbe => q2'.old b e hbe hlt) (ZMap.le_refl _) hcnd.2, r1, r2, rfl⟩
          · injection hx with hx
            simp only [Prod.mk.injEq] at hx
            obtain ⟨rfl, rfl⟩ := hx
            refine ⟨u, ρ', W.filter fun p => p.1 < base, rfl, hu2, q1.relog _, ?_, by rw [hW]⟩
            have := q2'.lower (W' := W.filter fun p => p.1 < base) hb (Nat.le_refl _) (fun p => by simp)
            exact this.relog S.log _
        have hbp : bodyPost P fn (fun e w' => ∃ u ρ' W, e = .returned u ∧ VR ρ' v u ∧ Rel B w0 ρ' S' w' ∧ Ev base ρ S w ρ' S' w' W ∧ S'.log = W ++ S.log) .ret a' w' := ⟨q6, u, hu1, fin⟩
        rcases hexit with rfl | rfl
        · exact hbp
        · exact hbp

end
end Go.XM
