/- A plain machine beside the model, and that what it tells the model does: part XD. Conditions: those of each theorem below. -/
import Derived.Test.YtdbmldhfoifpnaaDoorXC
import Derived.Shelf.Unicode.DecodeSlow
namespace Go.XM
set_option linter.unusedVariables false
set_option linter.unusedSimpArgs false
open Go.RowKit
set_option linter.unusedVariables false
set_option linter.unusedSimpArgs false

section
variable {P : Program} {B : Nat} {w0 : World}

theorem Rel.relog {ρ : Emb} {S : XS} {w : World} (h : Rel B w0 ρ S w) (l : List (Nat × Nat)) : Rel B w0 ρ { S with log := l } w :=
  ⟨h.below, h.Bw, h.dom, h.blk, h.inj, h.lt, h.fz⟩
theorem Ev.relog {base : Nat} {ρ ρ' : Emb} {S S' : XS} {w w' : World} {W : List (Nat × Nat)} (h : Ev base ρ S w ρ' S' w' W) (l l' : List (Nat × Nat)) :
    Ev base ρ { S with log := l } w ρ' { S' with log := l' } w' W :=
  ⟨h.ext, h.old, h.size, h.wsize, h.canon, h.gone, h.wb, h.new, h.frame, h.frameI, h.keep, h.wd, h.wl, h.zold⟩

/-- new memory alone: nothing turns -/
theorem rel_below {ρ : Emb} {S : XS} {w w' : World} (h : Rel B w0 ρ S w) (hb : Below w.heap.size w w') (base : Nat) {z : ZMap} (hle : ρ.z.le z) (hok : z.ok) (hzc : ∀ t r o v, z t r o = some v → w'.cell? ⟨r, o, none⟩ = some v)
    (hold : ∀ t r o v, z t r o = some v → r < w.heap.size → ρ.z t r o = some v) : Rel B w0 ⟨ρ.m, z⟩ S w' ∧ Ev base ρ S w ⟨ρ.m, z⟩ S w' [] := by
  have hk : ∀ r, r < w.heap.size → w'.heap[r]? = w.heap[r]? := hb.block
  have hl : ρ.le ⟨ρ.m, z⟩ := ⟨fun _ _ q => q, hle⟩
  refine ⟨⟨h.below.trans (hb.mono (Nat.le_trans h.Bw h.below.size)), h.Bw, h.dom, fun b e he => (h.blk b e he).move hl (hk _ (h.lt b e he)), h.inj, fun b e he => Nat.lt_of_lt_of_le (h.lt b e he) hb.size, hok, hzc, fun b e he hB t o => ?_⟩,
    ⟨hl, fun _ _ q _ => q, Nat.le_refl _, hb.size, fun b _ => BlkFrame.refl _ _ _, fun _ q _ => q, fun p hp => (by cases hp), fun b e he hq => .inr (.inl ⟨b, e, hq, he, rfl⟩), fun r o hr => .inl (SameAt.of_block (hk r hr) o), fun r hr => .inl (hk r hr), keep_block hk, fun p hp => (by cases hp), fun p hp => (by cases hp), hold⟩⟩
  cases hq : z t e.blk o with
  | none => exact hq
  | some v =>
    have := hold t e.blk o v hq (h.lt b e he)
    rw [h.fz.zd b e he hB t o] at this
    cases this

/-- the tables of unicode/utf8, if the program has them, hold what its text lays -/
def Laid (P : Program) (w : World) : Prop := ∀ g3 g4, P.globalNamed "unicode/utf8.first" = some g3 → P.globalNamed "unicode/utf8.acceptRanges" = some g4 → Lib.Utf8Tabs g3 g4 w
theorem Laid.below {P : Program} {w w' : World} (h : Laid P w) (hb : Below w.heap.size w w') : Laid P w' := fun g3 g4 h3 h4 => Go.Proofs.Utf8Tabs_below (h g3 g4 h3 h4) hb

/-- a function that only looks: of plain data it makes plain data, and turns nothing that is there -/
def Pure (P : Program) (f : FuncId) (g : List XV → Option XV) : Prop :=
  ∀ args v, g args = some v → ∀ (z : ZMap) (w : World) (args' : List Value), z.ok → (∀ t r o u, z t r o = some u → w.cell? ⟨r, o, none⟩ = some u) → Laid P w → DRs z args args' →
    Calls P f args'.toArray w fun e w' => ∃ u z', e = .returned u ∧ z.le z' ∧ z'.ok ∧ (∀ t r o u, z' t r o = some u → w'.cell? ⟨r, o, none⟩ = some u) ∧
      (∀ t r o u, z' t r o = some u → r < w.heap.size → z t r o = some u) ∧ DR z' v u ∧ Below w.heap.size w w'

def PrimOK (P : Program) (prim : XPrim) : Prop := ∀ f g, prim f = some g → Pure P f g

/-- all that is there now, and what lasts -/
def lentZ (ρ : Emb) (w : World) : ZMap := fun t r o => if t then w.cell? ⟨r, o, none⟩ else ρ.z false r o

theorem lentZ_le {ρ : Emb} {w : World} (h : Froz B ρ w) : ρ.z.le (lentZ ρ w) := fun t r o v q => by
  unfold lentZ
  cases t with
  | true => exact h.zc _ _ _ _ q
  | false => exact q

/-- a row of cells that are there -/
theorem lent_row {ρ : Emb} {S : XS} {w : World} (h : Rel B w0 ρ S w) {Z : ZMap} (hZ : ρ.z.le Z) {b : Nat} {e : Ent} (he : ρ b = some e) {cs : List XV} {k : XKind} (hg : S.get b = .cells cs k) (hfl : Flat cs) (hsome : ∀ j, j < cs.length → (w.cell? (e.at j)).isSome = true) :
    ∃ us : List Value, DLs Z cs us ∧ ∀ i u, us[i]? = some u → w.cell? (e.at i) = some u := by
  have hblk := h.blk b e he
  rw [hg] at hblk
  have hex : ∀ i, ∃ u, i < cs.length → w.cell? (e.at i) = some u := fun i => by
    by_cases q : i < cs.length
    · obtain ⟨u, hu⟩ := Option.isSome_iff_exists.1 (hsome i q)
      exact ⟨u, fun _ => hu⟩
    · exact ⟨undef, fun z => absurd z q⟩
  obtain ⟨f, hf⟩ := Classical.axiomOfChoice hex
  have hlt : ∀ {i : Nat} {u : Value}, ((List.range cs.length).map f)[i]? = some u → i < cs.length ∧ u = f i := fun {i u} hj => by
    have hi : i < cs.length := by
      rcases Nat.lt_or_ge i cs.length with q | q
      · exact q
      · rw [List.getElem?_eq_none (by simpa using q)] at hj; cases hj
    simp [hi] at hj
    exact ⟨hi, hj.symm⟩
  refine ⟨(List.range cs.length).map f, DLs.of_get (by simp) fun i x v hx hv hl => ?_, fun i u hu => ?_⟩
  · obtain ⟨hi, rfl⟩ := hlt hv
    obtain ⟨u, q1, q2, _⟩ := hblk.2 i x hx hl
    rw [hf i hi] at q1
    injection q1 with q1
    rw [q1]
    exact (q2.plain (hfl x (List.mem_of_getElem? hx) hl).2).mono hZ
  · obtain ⟨hi, rfl⟩ := hlt hu
    exact hf i hi

theorem lentAny_false {l : List XV} : lentAny l = false ↔ ∀ v, v ∈ l → v.lent = false := by
  induction l with
  | nil => simp [lentAny]
  | cons x r ih => simp [lentAny, Bool.or_eq_false_iff, ih]

theorem DLs.lasts {z z' : ZMap} (hl : ∀ r o v, z false r o = some v → z' false r o = some v) {xs : List XV} {vs : List Value} (h : DLs z xs vs) (hx : lentAny xs = false) : DLs z' xs vs :=
  DLs.of_get h.length fun i x v hxi hvi hlv => by
    obtain ⟨u, hu, hr⟩ := h.get hxi hlv
    rw [hvi] at hu
    injection hu with hu
    subst hu
    exact hr.lasts hl (lentAny_false.1 hx x (List.mem_of_getElem? hxi))

theorem DLs.cutT {z : ZMap} {t : Bool} {xs : List XV} {vs : List Value} (h : DLs z xs vs) (hx : (t || !lentAny xs) = true) : DLs (zcut t z) xs vs := by
  cases t with
  | true => exact h
  | false => exact DLs.lasts (z := z) (z' := zcut false z) (fun r o v q => q) h (by simpa using hx)

theorem DRs.dls {z : ZMap} : ∀ {xs : List XV} {vs : List Value}, DRs z xs vs → DLs z xs vs
  | _, _, .nil _ => .nil _
  | _, _, .cons _ x v xs vs h1 h2 => .cons _ x v xs vs h1 h2.dls

theorem DRs.of_get {z : ZMap} : ∀ {xs : List XV} {vs : List Value}, xs.length = vs.length → (∀ (i : Nat) (x : XV) (v : Value), xs[i]? = some x → vs[i]? = some v → DR z x v) → DRs z xs vs
  | [], [], _, _ => .nil _
  | x :: xs, v :: vs, hl, h => .cons _ x v xs vs (h 0 x v (by simp) (by simp)) (DRs.of_get (by simpa using hl) (fun i a b ha hb => h (i + 1) a b (by simpa using ha) (by simpa using hb)))
  | [], _ :: _, hl, _ => by simp at hl
  | _ :: _, [], hl, _ => by simp at hl

theorem hardAll_drs {ρ : Emb} {z : ZMap} {f : XV → Option XV} (hf : ∀ x y u, f x = some y → VR ρ x u → DR z y u) {xs ys : List XV} {us : List Value} (h : hardAll f xs = some ys) (hv : VRs ρ xs us) : DRs z ys us := by
  obtain ⟨h1, h2⟩ := hardAll_get h
  refine DRs.of_get (by rw [h1, hv.length]) fun i y u hy hu => ?_
  obtain ⟨x, q1, q2⟩ := h2 i y hy
  obtain ⟨u', q3, q4⟩ := hv.get q1
  rw [hu] at q3
  injection q3 with q3
  subst q3
  exact hf x y u q2 q4

/-- what was read out reads the same, where what there is stays as it is -/
theorem hard_drx {ρ : Emb} {S : XS} {w : World} (h : Rel B w0 ρ S w) {tg : Bool} {Z : ZMap} (hZ : ρ.z.le Z) {Sx : XS} (hsub : ∀ b cs k, Sx.get b = .cells cs k → S.get b = .cells cs k) {ok : Nat → Prop} (hok : ∀ b cs k, Sx.get b = .cells cs k → ok b) (hnew : ∀ b e, ok b → ρ b = some e → B ≤ e.blk → ∀ o v, w.cell? (e.at o) = some v → Z tg e.blk (o + e.sh) = some v) :
    ∀ (n : Nat) (x y : XV) (u : Value), hard tg Sx n x = some y → VR ρ x u → DR Z y u
  | 0, x, y, u, hx, hv => by simp [hard] at hx
  | n + 1, x, y, u, hx, hv => by
    have ih := hard_drx h hZ hsub hok hnew n
    have flatOf : ∀ {b : Nat} {e : Ent} {cs : List XV} {k : XKind}, ρ b = some e → Sx.get b = .cells cs k → k.flat = true → B ≤ e.blk ∧ Flat cs ∧ ∀ j, j < cs.length → (w.cell? (e.at j)).isSome = true := fun {b e cs k} he hg hk => by
      have hblk := h.blk b e he
      rw [hsub _ _ _ hg] at hblk
      cases k with
      | ro => cases hk
      | own => cases hk
      | arr esz => exact ⟨hblk.1.1.1, hblk.1.2.2.1, fun j hj => (hblk.1.2.2.2 j hj).1⟩
      | loose esz m =>
        obtain ⟨⟨hB, hz, hl, hf, rsz, hlo, hin, hroom⟩, _⟩ := hblk
        exact ⟨hB, hf, fun j hj => (hroom (j + e.sh) (by omega)).1⟩
    have cut : ∀ {b o len esz cap : Nat} {e : Ent} {cs : List XV} {k : XKind} {a : Addr} {m : Bool}, ρ b = some e → Sx.get b = .cells cs k → k.flat = true → (a = e.at o ∨ len = 0) → len ≤ cap → (m = true → cap = len) → (tg || !lentAny cs) = true →
        DR Z (.row tg m ((cs.drop o).take (len * esz)) len) (.slice (some a) len cap) := fun {b o len esz cap e cs k a m} he hg hk ha hlc hm hle => by
      obtain ⟨hB, hf, hs⟩ := flatOf he hg hk
      obtain ⟨us, q1, q2⟩ := lent_row h hZ he (hsub _ _ _ hg) hf hs
      have hone : oneLive ((cs.drop o).take (len * esz)) := fun v hv hl => (hf v (List.mem_of_mem_drop (List.mem_of_mem_take hv)) hl).1
      rcases ha with rfl | ha
      · refine .row _ _ _ _ _ ((us.drop o).take (len * esz)) _ _ ((q1.cutT hle).cut _ _) (fun i u hi => ?_) (.inr rfl) hlc hm hone
        rw [List.getElem?_take] at hi
        split at hi
        · rw [List.getElem?_drop] at hi
          have := hnew b e (hok _ _ _ hg) he hB _ _ (q2 _ _ hi)
          show Z tg e.blk (o + e.sh + i) = some u
          rw [show o + e.sh + i = o + i + e.sh by omega]
          exact this
        · cases hi
      · subst ha
        refine .row _ _ _ _ _ [] _ _ ?_ (fun i u hi => by simp at hi) (.inl rfl) hlc hm hone
        simp only [Nat.zero_mul, List.take_zero]
        exact .nil _
    unfold hard at hx
    split at hx
    · rename_i b o
      split at hx
      case h_2 => cases hx
      case h_1 cs k hg =>
      split at hx
      case h_2 => cases hx
      case h_1 l hl =>
      split at hx
      case isFalse => cases hx
      rename_i hc
      obtain ⟨hkro, hle⟩ := hc
      injection hx with hx
      subst hx
      cases hv with
      | ptr _ _ e he =>
      obtain ⟨l1, l2⟩ := hardAll_get hl
      have hblk := h.blk b e he
      rw [hsub _ _ _ hg] at hblk
      have hB : B ≤ e.blk := by
        cases k with
        | ro => exact absurd rfl hkro
        | own => exact hblk.1.1
        | arr esz => exact hblk.1.1.1
        | loose esz m => exact hblk.1.1
      have hex : ∀ i, ∃ u, ∀ y, l[i]? = some y → w.cell? (e.at i) = some u ∧ DR Z y u := fun i => by
        cases hq : l[i]? with
        | none => exact ⟨undef, fun y hy => by cases hy⟩
        | some y =>
          obtain ⟨x, q1, q2⟩ := l2 i y hq
          have hlive : x.live = true := by
            cases x <;> first | rfl | skip
            cases n <;> simp [hard] at q2
          obtain ⟨u, r1, r2, _⟩ := hblk.2 i x q1 hlive
          exact ⟨u, fun y' hy' => by injection hy' with hy'; subst hy'; exact ⟨r1, ih x y u q2 r2⟩⟩
      obtain ⟨f, hf⟩ := Classical.axiomOfChoice hex
      have hgetf : ∀ {i : Nat} {v : Value}, ((List.range l.length).map f)[i]? = some v → i < l.length ∧ v = f i := fun {i v} hj => by
        have hi : i < l.length := by
          rcases Nat.lt_or_ge i l.length with q | q
          · exact q
          · rw [List.getElem?_eq_none (by simpa using q)] at hj; cases hj
        simp [hi] at hj
        exact ⟨hi, hj.symm⟩
      have hdl : DLs Z l ((List.range l.length).map f) := DRs.dls (DRs.of_get (by simp) fun i y v hy hv => by
        obtain ⟨hi, rfl⟩ := hgetf hv
        exact (hf i y hy).2)
      refine .rptr _ _ _ _ ((List.range l.length).map f) e.blk e.sh (hdl.cutT hle) fun i v hv => ?_
      obtain ⟨hi, rfl⟩ := hgetf hv
      have := hnew b e (hok _ _ _ hg) he hB _ _ (hf i _ (List.getElem?_eq_getElem hi)).1
      rw [Nat.add_comm]
      exact this
    · rename_i b
      split at hx
      case h_2 => cases hx
      case h_1 cs esz m hg =>
      split at hx
      case isFalse => cases hx
      rename_i hle
      injection hx with hx
      subst hx
      cases hv with
      | sl _ cap' e esz' n' rsz he hl hnc hroom =>
      obtain ⟨rsz2, hl2, _⟩ := loose_n h he (hsub _ _ _ hg)
      rw [hl] at hl2
      injection hl2 with hl2
      simp only [Prod.mk.injEq] at hl2
      obtain ⟨rfl, rfl, rfl⟩ := hl2
      obtain ⟨hB, hf, hs⟩ := flatOf he hg rfl
      obtain ⟨us, q1, q2⟩ := lent_row h hZ he (hsub _ _ _ hg) hf hs
      refine .row _ _ _ _ _ us _ _ (q1.cutT hle) (fun i u hi => ?_) (.inr rfl) hnc (fun q => by cases q) hf.one
      have := hnew b e (hok _ _ _ hg) he hB _ _ (q2 _ _ hi)
      show Z tg e.blk (0 + e.sh + i) = some u
      rw [show 0 + e.sh + i = i + e.sh by omega]
      exact this
    · rename_i b o len cap
      obtain ⟨a, en, hen, rfl, hlc, ha⟩ := slice_real hv
      split at hx
      case h_4 => cases hx
      case h_1 cs esz hg =>
        split at hx
        case isFalse => cases hx
        rename_i hle
        injection hx with hx
        subst hx
        exact cut hen hg rfl (ha.imp id (·.1)) hlc (fun q => by simp at q; exact q.symm) hle
      case h_2 cs esz m hg =>
        split at hx
        case isFalse => cases hx
        rename_i hle
        injection hx with hx
        subst hx
        exact cut hen hg rfl (ha.imp id (·.1)) hlc (fun q => by simp at q; exact q.symm) hle
      case h_3 cs hg =>
        split at hx
        case h_2 => cases hx
        case h_1 l hl =>
        split at hx
        case isFalse => cases hx
        rename_i hc
        obtain ⟨hle, hone⟩ := hc
        injection hx with hx
        subst hx
        obtain ⟨l1, l2⟩ := hardAll_get hl
        have hblk := h.blk b en hen
        rw [hsub _ _ _ hg] at hblk
        have hB : B ≤ en.blk := hblk.1.1
        have hex : ∀ i, ∃ u, ∀ y, l[i]? = some y → w.cell? (en.at (o + i)) = some u ∧ DR Z y u := fun i => by
          cases hq : l[i]? with
          | none => exact ⟨undef, fun y hy => by cases hy⟩
          | some y =>
            obtain ⟨x, q1, q2⟩ := l2 i y hq
            have hlive : x.live = true := by
              cases x <;> first | rfl | skip
              cases n <;> simp [hard] at q2
            rw [List.getElem?_take] at q1
            split at q1
            case isFalse => cases q1
            rw [List.getElem?_drop] at q1
            obtain ⟨u, r1, r2, _⟩ := hblk.2 (o + i) x q1 hlive
            exact ⟨u, fun y' hy' => by injection hy' with hy'; subst hy'; exact ⟨r1, ih x y u q2 r2⟩⟩
        obtain ⟨f, hf⟩ := Classical.axiomOfChoice hex
        have hgetf : ∀ {i : Nat} {v : Value}, ((List.range l.length).map f)[i]? = some v → i < l.length ∧ v = f i := fun {i v} hj => by
          have hi : i < l.length := by
            rcases Nat.lt_or_ge i l.length with q | q
            · exact q
            · rw [List.getElem?_eq_none (by simpa using q)] at hj; cases hj
          simp [hi] at hj
          exact ⟨hi, hj.symm⟩
        have hdl : DLs Z l ((List.range l.length).map f) := DRs.dls (DRs.of_get (by simp) fun i y v hy hv => by
          obtain ⟨hi, rfl⟩ := hgetf hv
          exact (hf i y hy).2)
        have hone' : oneLive l := fun v hv _ => List.all_eq_true.1 hone v hv
        rcases ha with rfl | ⟨hz, hcz⟩
        · refine .row _ _ _ _ _ ((List.range l.length).map f) _ _ (hdl.cutT hle) (fun i v hv => ?_) (.inr rfl) hlc (fun q => by simp at q; exact q.symm) hone'
          obtain ⟨hi, rfl⟩ := hgetf hv
          have := hnew b en (hok _ _ _ hg) hen hB _ _ (hf i _ (List.getElem?_eq_getElem hi)).1
          show Z tg en.blk (o + en.sh + i) = some _
          rw [show o + en.sh + i = o + i + en.sh by omega]
          exact this
        · have hl0 : l = [] := by
            subst hz
            simp only [Nat.zero_mul, List.take_zero] at hl
            simp only [hardAll] at hl
            injection hl with hl
            exact hl.symm
          subst hl0
          exact .row _ _ _ _ _ [] _ _ (.nil _) (fun i v hv => by simp at hv) (.inl hz) hlc (fun q => by simp at q; exact q.symm) hone'
    · rename_i b o len
      have real : ∃ a cap' en, ρ b = some en ∧ u = .slice (some a) len cap' ∧ len ≤ cap' ∧ (a = en.at o ∨ len = 0) := by
        cases hv with
        | part _ _ _ cap' en hen hlc => exact ⟨_, cap', en, hen, rfl, hlc, .inl rfl⟩
        | partZ _ _ cap' en a hen => exact ⟨a, cap', en, hen, rfl, Nat.zero_le _, .inr rfl⟩
      obtain ⟨a, cap', en, hen, rfl, hlc, ha⟩ := real
      split at hx
      case h_3 => cases hx
      case h_1 cs esz hg =>
        split at hx
        case isFalse => cases hx
        rename_i hle
        injection hx with hx
        subst hx
        exact cut hen hg rfl ha hlc (fun q => by cases q) hle
      case h_2 cs esz m hg =>
        split at hx
        case isFalse => cases hx
        rename_i hle
        injection hx with hx
        subst hx
        exact cut hen hg rfl ha hlc (fun q => by cases q) hle
    · split at hx
      case h_2 => cases hx
      case h_1 l hl =>
      injection hx with hx
      subst hx
      cases hv with
      | func _ _ ds hd => exact .func _ _ _ _ (hardAll_drs ih hl hd)
    · split at hx
      case h_2 => cases hx
      case h_1 y' hy =>
      injection hx with hx
      subst hx
      cases hv with
      | iface _ _ v' hv' => exact .iface _ _ _ _ (ih _ _ _ hy hv')
    · split at hx
      case h_2 => cases hx
      case h_1 l hl =>
      injection hx with hx
      subst hx
      cases hv with
      | agg _ ds hd => exact .agg _ _ _ (hardAll_drs ih hl hd)
    · split at hx
      case h_2 => cases hx
      case h_1 l hl =>
      injection hx with hx
      subst hx
      cases hv with
      | tuple _ ds hd => exact .tuple _ _ _ (hardAll_drs ih hl hd)
    · cases hx
    · injection hx with hx
      subst hx
      cases hv
      exact .rowNil _ _ _
    · split at hx
      case isFalse => cases hx
      rename_i hu
      injection hx with hx
      subst hx
      exact (hv.plain hu).mono hZ

def GoodProg (P : Program) (prim : XPrim) (good : Nat → Array Oper → Bool) : Prop :=
  ∀ f fn c, P.funcs[f]? = some fn → fn.body = some c → prim f = none → goodCode good fn.ntmps c = true
theorem hard_dr {ρ : Emb} {S : XS} {w : World} (h : Rel B w0 ρ S w) {tg : Bool} {Z : ZMap} (hZ : ρ.z.le Z) (hnew : ∀ b e, ρ b = some e → B ≤ e.blk → ∀ o v, w.cell? (e.at o) = some v → Z tg e.blk (o + e.sh) = some v)
    (n : Nat) (x y : XV) (u : Value) (hx : hard tg S n x = some y) (hv : VR ρ x u) : DR Z y u :=
  hard_drx h hZ (Sx := S) (fun _ _ _ q => q) (ok := fun _ => True) (fun _ _ _ _ => trivial) (fun b e _ => hnew b e) n x y u hx hv

theorem xload_pure {ρ : Emb} {S : XS} {w : World} (h : Rel B w0 ρ S w) {t : TypeId} {p v : XV} {q : Value} (hp : VR ρ p q) (hx : xload P S t p = some v) : ∃ u, (do loadVar t (← asAddr q) : Sem Value).run P w = .ok u w ∧ VR ρ v u := by
  unfold xload at hx
  split at hx
  case h_3 => cases hx
  case h_1 tg cs o =>
    split at hx
    case h_3 => cases hx
    case h_1 hag =>
      split at hx
      case h_2 => cases hx
      case h_1 n hn =>
      split at hx
      case h_2 => cases hx
      case h_1 l hl =>
      injection hx with hx
      subst hx
      obtain ⟨a, us, rfl, h1, h2, h3⟩ := rptr_cells h hp hl
      refine ⟨.agg us.toArray, ?_, .agg _ _ h1⟩
      have := run_loadCells_list (P := P) w a us h3
      rw [h2] at this
      simp [asAddr, loadVar, run_agg hag, run_size hn, this]
    case h_2 hag =>
      obtain ⟨a, rfl, hr⟩ := rptr_read h hp
      obtain ⟨q1, q2⟩ := cellAt_get hx
      obtain ⟨u, hu, hvr⟩ := hr 0 v (by simpa using q1) q2
      refine ⟨u, ?_, hvr⟩
      have h0 : a.add 0 = a := by simp [Addr.add]
      rw [h0] at hu
      simp [asAddr, loadVar, run_agg hag, hu]
  case h_2 b o =>
  cases hp with
  | ptr _ _ e he =>
  split at hx
  case h_3 => cases hx
  case h_1 hag =>
    split at hx
    case h_2 => cases hx
    case h_1 n hn =>
    split at hx
    case h_2 => cases hx
    case h_1 cs hcs =>
    injection hx with hx
    subst hx
    obtain ⟨us, h1, h2, h3⟩ := cells_read h he n o cs hcs
    refine ⟨.agg us.toArray, ?_, .agg _ _ h1⟩
    have := run_loadCells_list (P := P) w (e.at o) us h3
    rw [h2] at this
    simp [asAddr, loadVar, run_agg hag, run_size hn, this]
  case h_2 hag =>
    obtain ⟨u, hu, hr⟩ := cell_read h he hx
    refine ⟨u, ?_, hr⟩
    simp [asAddr, loadVar, run_agg hag, hu]

def resultOf (a : Act) : ResultVar → Sem Value
  | .tmp t => pure (a.tmps.getD t undef)
  | .cell x t => do loadVar t (← asAddr (a.tmps.getD x undef))

theorem xresult_sound {ρ : Emb} {S : XS} {w : World} (h : Rel B w0 ρ S w) {T : Tmps} {a : Act} (hT : TR ρ T a.tmps) {r : ResultVar} {v : XV} (hx : xresult P T S r = some v) :
    ∃ u, (resultOf a r).run P w = .ok u w ∧ VR ρ v u := by
  cases r with
  | tmp t => exact ⟨_, rfl, evalX_vr (x := .tmp t) hT hx⟩
  | cell x t =>
    simp only [xresult] at hx
    split at hx
    case h_2 => cases hx
    case h_1 p hp =>
    exact xload_pure h (evalX_vr (x := .tmp x) hT hp) hx

theorem xresults_sound {ρ : Emb} {S : XS} {w : World} (h : Rel B w0 ρ S w) {T : Tmps} {a : Act} (hT : TR ρ T a.tmps) : ∀ (rs : List ResultVar) (l : List XV), xresults P T S rs = some l →
    ∃ us, (rs.mapM (resultOf a)).run P w = .ok us w ∧ VRs ρ l us
  | [], l, hx => by
    simp only [xresults, Option.some.injEq] at hx
    subst hx
    exact ⟨[], by simp, .nil⟩
  | r :: rs, l, hx => by
    simp only [xresults] at hx
    split at hx
    case h_2 => cases hx
    case h_1 v l' hv hl =>
    injection hx with hx
    subst hx
    obtain ⟨u, h1, h2⟩ := xresult_sound h hT hv
    obtain ⟨us, h3, h4⟩ := xresults_sound h hT rs l' hl
    exact ⟨u :: us, by simp [h1, h3], .cons _ _ _ _ h2 h4⟩

theorem results_run {ρ : Emb} {S : XS} {w : World} (h : Rel B w0 ρ S w) {T : Tmps} {a : Act} (hT : TR ρ T a.tmps) {fn : Func} {l : List XV} (hx : xresults P T S fn.results.toList = some l) :
    ∃ u, (results fn a.tmps).run P w = .ok u w ∧ VR ρ (oneOr l) u := by
  obtain ⟨us, h1, h2⟩ := xresults_sound h hT _ l hx
  have hm : (fn.results.mapM (resultOf a)).run P w = .ok us.toArray w := by
    rw [Array.mapM_eq_mapM_toList]
    simp [h1]
  have he : results fn a.tmps = (do let vs ← fn.results.mapM (resultOf a); pure (if h : vs.size = 1 then vs[0] else .tuple vs) : Sem Value) := rfl
  rw [he]
  simp only [Sem.run_bind, hm, Result.andThen_ok, Sem.run_pure]
  refine ⟨_, rfl, ?_⟩
  match l, us, h2 with
  | [], _, .nil => exact VR.tuple [] [] .nil
  | [x], _, .cons _ u _ _ q .nil => simpa [oneOr] using q
  | x :: y :: r, _, .cons _ u _ _ q (.cons _ u2 _ us2 q2 q3) =>
    have : ¬ ((u :: u2 :: us2).toArray.size = 1) := by simp
    rw [dif_neg this]
    exact VR.tuple _ _ (.cons _ _ _ _ q (.cons _ _ _ _ q2 q3))

/-- what nobody can reach is dropped -/
theorem drop_new {ρ ρ' : Emb} {S S1 : XS} {w w' : World} (h : Rel B w0 ρ S w) (h1 : Rel B w0 ρ' S1 w') (he : Ev S.size ρ S w ρ' S1 w' []) (base : Nat) (hb : base ≤ S.size) : Rel B w0 ⟨ρ.m, ρ'.z⟩ S w' ∧ Ev base ρ S w ⟨ρ.m, ρ'.z⟩ S w' [] := by
  have hl : ρ.le ⟨ρ.m, ρ'.z⟩ := ⟨fun _ _ q => q, he.ext.z⟩
  have hget : ∀ b, b < S.size → S1.get b = S.get b ∨ ((S.get b).isGone = true ∧ (S1.get b).isGone = true) := by
    intro b hlt
    have hc := he.canon b hlt
    revert hc
    cases S.get b with
    | cells cs k =>
      cases S1.get b with
      | cells cs' k' =>
        rintro ⟨rfl, hl, hq, _⟩
        refine .inl ?_
        congr 1
        exact List.ext_getElem? fun i => hq i (by simp)
      | iter s p => intro hc; exact hc.elim
      | gone =>
        rintro ⟨hne, hq⟩
        have := hq 0 hne
        cases this
    | iter s p =>
      cases S1.get b with
      | cells cs' k' => intro hc; exact hc.elim
      | iter s' p' => rintro ⟨rfl, hq⟩; refine .inl ?_; rw [hq (by simp)]
      | gone => intro hc; exact hc.elim
    | gone =>
      cases S1.get b with
      | cells cs' k' => intro hc; exact hc.elim
      | iter s' p' => intro hc; exact hc.elim
      | gone => intro _; exact .inl rfl
  have hdom := h.dom
  have hsame : ∀ b, b < S.size → S1.get b = S.get b := fun b hlt => by
    rcases hget b hlt with q | ⟨q1, q2⟩
    · exact q
    · revert q1 q2; cases S.get b <;> cases S1.get b <;> simp [XBlk.isGone]
  refine ⟨⟨h1.below, h.Bw, h.dom, fun b e hbe => ?_, fun b b' e e' hbe hbe' hq hn => ?_, fun b e hbe => h1.lt b e (he.ext.m b e hbe), h1.fz.ok, h1.fz.zc, fun b e hbe => h1.fz.zd b e (he.ext.m b e hbe)⟩,
    ⟨hl, fun _ _ q _ => q, Nat.le_refl _, he.wsize, fun b _ => BlkFrame.refl _ _ _, fun _ q _ => q, fun p hp => (by cases hp), fun b e hbe hq => .inr (.inl ⟨b, e, hq, hbe, rfl⟩), fun r o hr => ?_, fun r hr => ?_, he.keep, fun p hp => (by cases hp), fun p hp => (by cases hp), he.zold⟩⟩
  · have hold := h.blk b e hbe
    have hnew := h1.blk b e (he.ext.m b e hbe)
    rw [hsame b (hdom b e hbe)] at hnew
    revert hold hnew
    cases S.get b with
    | cells cs k =>
      intro hold hnew
      refine ⟨hnew.1, fun o v ho hv => ?_⟩
      obtain ⟨u, q1, q2, q3⟩ := hnew.2 o v ho hv
      obtain ⟨u', p1, p2, p3⟩ := hold.2 o v ho hv
      have hsm : SameAt w w' e.blk (o + e.sh) := by
        rcases he.frame e.blk (o + e.sh) (h.lt b e hbe) with q | ⟨p, hp, _⟩ | ⟨b0, e0, q, hbe0, _⟩
        · exact q
        · cases hp
        · exact absurd (hdom b0 e0 hbe0) (by omega)
      have huu : u' = u := by
        have : w'.cell? (e.at o) = w.cell? (e.at o) := hsm.1
        rw [q1, p1] at this
        injection this with this
        exact this.symm
      subst huu
      exact ⟨u', q1, p2.mono hl, q3⟩
    | iter s p => intro _ hnew; exact hnew
    | gone => intro _ _; trivial
  · have := h1.inj b b' e e' (he.ext.m b e hbe) (he.ext.m b' e' hbe') hq hn
    rw [hsame b (hdom b e hbe), hsame b' (hdom b' e' hbe')] at this
    exact this
  · rcases he.frame r o hr with q | ⟨p, hp, _⟩ | ⟨b, e, hq, hbe, _⟩
    · exact .inl q
    · cases hp
    · exact absurd (hdom b e hbe) (by omega)
  · rcases he.frameI r hr with q | ⟨p, hp, _⟩ | ⟨b, e, hq, hbe, _⟩
    · exact .inl q
    · cases hp
    · exact absurd (hdom b e hbe) (by omega)

theorem getD_args (args' : List Value) (n : Nat) (t : Nat) : (args'.toArray ++ Array.replicate (n - args'.toArray.size) undef).getD t undef = (args'[t]?).getD undef := by
  rw [Array.getD_eq_getD_getElem?, Array.getElem?_append]
  split
  · simp
  · rename_i h
    simp at h
    rw [List.getElem?_eq_none h]
    simp only [Array.getElem?_replicate]
    split <;> rfl

theorem tr_args {ρ : Emb} {args : List XV} {args' : List Value} (h : VRs ρ args args') (n : Nat) : TR ρ (argsT 0 args []) (args'.toArray ++ Array.replicate (n - args'.toArray.size) undef) := by
  intro t
  rw [getD_args, tget_argsT]
  have hl : (if 0 ≤ t ∧ t < 0 + args.length then (args[t - 0]?).getD (.tuple []) else tget [] t) = (args[t]?).getD (.tuple []) := by
    by_cases q : t < args.length
    · rw [if_pos (by omega)]; simp
    · rw [if_neg (by omega), List.getElem?_eq_none (by omega)]; rfl
  rw [hl]
  cases hq : args[t]? with
  | none =>
    have : args'[t]? = none := by
      rw [List.getElem?_eq_none_iff] at hq ⊢
      rw [← h.length]; exact hq
    rw [this]
    exact fun _ => VR.tuple [] [] .nil
  | some v =>
    obtain ⟨u, hu, hr⟩ := h.get hq
    rw [hu]
    exact fun _ => hr

mutual
theorem XV.under_mono {m n : Nat} (hmn : m ≤ n) : ∀ {v : XV}, v.under m = true → v.under n = true
  | .ptr b o, h => by simp only [XV.under, decide_eq_true_eq] at h ⊢; omega
  | .slice b o l c, h => by simp only [XV.under, decide_eq_true_eq] at h ⊢; omega
  | .sl b, h => by simp only [XV.under, decide_eq_true_eq] at h ⊢; omega
  | .part b o l, h => by simp only [XV.under, decide_eq_true_eq] at h ⊢; omega
  | .func f cs, h => by simp only [XV.under] at h ⊢; exact underAll_mono hmn h
  | .iface t v, h => by simp only [XV.under] at h ⊢; exact XV.under_mono hmn h
  | .agg cs, h => by simp only [XV.under] at h ⊢; exact underAll_mono hmn h
  | .tuple cs, h => by simp only [XV.under] at h ⊢; exact underAll_mono hmn h
  | .bool _, _ => rfl
  | .int _ _, _ => rfl
  | .str _, _ => rfl
  | .nilPtr, _ => rfl
  | .nilSlice, _ => rfl
  | .row _ _ _ _, _ => rfl
  | .rptr _ _ _, _ => rfl
  | .nilMap, _ => rfl
  | .nilFunc, _ => rfl
  | .nilIface, _ => rfl
  | .dead, _ => rfl
theorem underAll_mono {m n : Nat} (hmn : m ≤ n) : ∀ {l : List XV}, underAll m l = true → underAll n l = true
  | [], _ => rfl
  | v :: r, h => by
    simp only [underAll, Bool.and_eq_true] at h ⊢
    exact ⟨XV.under_mono hmn h.1, underAll_mono hmn h.2⟩
end
theorem underAll_mem {n : Nat} : ∀ {l : List XV} {v : XV}, underAll n l = true → v ∈ l → v.under n = true
  | x :: r, v, h, hm => by
    simp only [underAll, Bool.and_eq_true] at h
    rcases List.mem_cons.1 hm with rfl | hm
    · exact h.1
    · exact underAll_mem h.2 hm

/-- a call's answer read out, what it made dropped -/
theorem cool_ok {ρ ρ' : Emb} {S S1 : XS} {w w' : World} {W W' : List (Nat × Nat)} (h : Rel B w0 ρ S w) (h1 : Rel B w0 ρ' S1 w') (he : Ev S.size ρ S w ρ' S1 w' W) {base : Nat} (hb : base ≤ S.size) (ht : tidy S S1 = true) {v y : XV} {u : Value}
    (hy : hard false (freshS S S1) 50 v = some y) (hv : VR ρ' v u) (hlow : Ev base ρ S w ρ' S1 w' W') (l : List (Nat × Nat)) : ∃ ρ2 : Emb, VR ρ2 y u ∧ Rel B w0 ρ2 { elderS S S1 with log := l } w' ∧ Ev base ρ S w ρ2 { elderS S S1 with log := l } w' W' := by
  let z2 : ZMap := fun t r o => if r < w.heap.size then ρ'.z t r o else w'.cell? ⟨r, o, none⟩
  have hz2 : ρ'.z.le z2 := fun t r o v q => by
    simp only [z2]
    split
    · exact q
    · exact h1.fz.zc _ _ _ _ q
  let ρ2 : Emb := ⟨ρ.m, z2⟩
  have hget : ∀ b, b < S.size → XS.get { elderS S S1 with log := l } b = S1.get b := fun b hlt => elder_get he.size hlt l
  have hbk : ∀ b e, b < S.size → ρ' b = some e → ρ2 b = some e := fun b e hlt q => he.old b e q hlt
  have htid : ∀ b, b < S.size → tidy1 S.size (S.get b) (S1.get b) = true := fun b hlt => List.all_eq_true.1 ht b (List.mem_range.2 hlt)
  have hnew : ∀ b e, S.size ≤ b → ρ' b = some e → w.heap.size ≤ e.blk := fun b e hle q => by
    rcases he.new b e q hle with k | ⟨b0, e0, k1, k2, _⟩ | ⟨p, hp, e0, k1, k2, k3⟩
    · exact k
    · exact absurd (h.dom b0 e0 k2) (by omega)
    · have hwl := he.wl p hp
      have htd := htid p.1 (he.wb p hp)
      revert hwl htd k3
      cases S.get p.1 with
      | gone => intro _ hw _; exact hw.elim
      | cells cs k => cases S1.get p.1 <;> simp [tidy1, XBlk.isGone]
      | iter s n => cases S1.get p.1 <;> simp [tidy1, XBlk.isGone]
  refine ⟨ρ2, ?_, ⟨h1.below, h.Bw, h.dom, fun b e hbe => ?_, fun b b' e e' hbe hbe' hq hn => ?_, fun b e hbe => h1.lt b e (he.ext.m b e hbe), ⟨fun r o v q => ?_, fun t r o v q => ?_, fun b e hbe hB t o => ?_⟩⟩, ?_⟩
  · have hd : DR z2 y u := hard_drx h1 hz2 (Sx := freshS S S1) (fun b cs k q => (fresh_cells he.size q).1) (ok := fun b => S.size ≤ b) (fun b cs k q => (fresh_cells he.size q).2) (fun b e hle hbe hB o v hc => by
      have := hnew b e hle hbe
      simp only [z2]
      rw [if_neg (by omega)]
      exact hc) 50 v y u hy hv
    exact DR.vr (ρ := ρ2) hd
  · have hlt := h.dom b e hbe
    have hblk := h1.blk b e (he.ext.m b e hbe)
    rw [hget b hlt]
    have htd := htid b hlt
    have hold := h.blk b e hbe
    revert hblk htd
    cases hS1 : S1.get b with
    | gone => intro _ _; trivial
    | iter s n => intro hblk _; exact hblk
    | cells cs k =>
      intro hblk htd
      refine ⟨hblk.1, fun o v ho hv => ?_⟩
      obtain ⟨u', q1, q2, q3⟩ := hblk.2 o v ho hv
      refine ⟨u', q1, ?_, q3⟩
      have hund : v.under S.size = true := by
        have hfl : k.flat = true → v.under S.size = true := fun hk => by
          have hf : Flat cs := by
            cases k with
            | ro => cases hk
            | own => cases hk
            | arr esz => exact hblk.1.2.2.1
            | loose esz m => exact hblk.1.2.2.2.1
          have := (hf v (List.mem_of_getElem? ho) hv).2
          exact XV.under_mono (Nat.zero_le _) this
        revert htd
        cases hSb : S.get b with
        | gone =>
          intro _
          have := he.gone b (by rw [hSb]; rfl) hlt
          rw [hS1] at this
          cases this
        | cells cs0 k0 =>
          simp only [tidy1, Bool.or_eq_true]
          rintro (hk | hk)
          · exact hfl hk
          · exact underAll_mem hk (List.mem_of_getElem? ho)
        | iter s n =>
          simp only [tidy1, Bool.or_eq_true]
          rintro (hk | hk)
          · exact hfl hk
          · exact underAll_mem hk (List.mem_of_getElem? ho)
      exact VR.under (ρ := ρ2) (ρ' := ρ') (n := S.size) (fun b e hlt q => hbk b e hlt q) hz2 hund q2
  · have := h1.inj b b' e e' (he.ext.m b e hbe) (he.ext.m b' e' hbe') hq hn
    rw [hget b (h.dom b e hbe), hget b' (h.dom b' e' hbe')]
    exact this
  · simp only [ρ2, z2] at q ⊢
    split
    · rename_i hlt; rw [if_pos hlt] at q; exact h1.fz.ok _ _ _ q
    · rename_i hlt; rw [if_neg hlt] at q; exact q
  · simp only [ρ2, z2] at q
    split at q
    · exact h1.fz.zc _ _ _ _ q
    · exact q
  · have hlt := h.lt b e hbe
    simp only [ρ2, z2]
    rw [if_pos hlt]
    exact h1.fz.zd b e (he.ext.m b e hbe) hB t o
  · refine ⟨⟨fun _ _ q => q, ZMap.le_trans he.ext.z hz2⟩, fun _ _ q _ => q, Nat.le_refl _, he.wsize, fun b hlt => ?_, fun b hg hlt => ?_, hlow.wb, fun b e hbe hq => .inr (.inl ⟨b, e, hq, hbe, rfl⟩), fun r o hr => ?_, hlow.frameI, he.keep, hlow.wd, hlow.wl, fun t r o v q hr => ?_⟩
    · rw [hget b (Nat.lt_of_lt_of_le hlt hb)]
      exact hlow.canon b hlt
    · rw [hget b hlt]
      exact he.gone b hg hlt
    · rcases hlow.frame r o hr with q | ⟨p, hp, e, k1, k2, k3⟩ | q
      · exact .inl q
      · refine .inr (.inl ⟨p, hp, e, k1, k2, k3.imp id fun k => ?_⟩)
        rw [hget p.1 (Nat.lt_of_lt_of_le (hlow.wb p hp) hb)]
        exact k
      · exact .inr (.inr q)
    · simp only [ρ2, z2] at q
      rw [if_pos hr] at q
      exact he.zold t r o v q hr

theorem xcall_ok {prim : XPrim} {good : Nat → Array Oper → Bool} {okc : XCallFn → Prop} (hD : DrawOK P B w0 good okc) (hok : ∀ n, okc (xcall P prim n)) (hp : PrimOK P prim) (hg : GoodProg P prim good) (hL : (∃ f g, prim f = some g) → ∀ w, Below B w0 w → Laid P w) : ∀ n, CallOK P B w0 (xcall P prim n)
  | 0 => fun f args base S v S' hx => by simp [xcall] at hx
  | n + 1 => fun f args base S v S' hx => by
    have ih := xcall_ok hD hok hp hg hL n
    unfold xcall at hx
    split at hx
    · cases hx
    rename_i fn hf
    split at hx
    · cases hx
    rename_i c hc
    split at hx
    · cases hx
    rename_i hname
    split at hx
    · cases hx
    rename_i hlen
    have hent : Enters P f := ⟨fn, hf, by rw [hc]; rfl, by simpa using hname⟩
    refine ⟨hent, ?_⟩
    split at hx
    · rename_i g hpg
      split at hx
      · rename_i hpl
        split at hx
        case h_2 => cases hx
        case h_1 v' hv' =>
        injection hx with hx
        simp only [Prod.mk.injEq] at hx
        obtain ⟨rfl, rfl⟩ := hx
        intro ρ w args' h hb hargs
        refine (hp f g hpg args v' hv' ρ.z w args' h.fz.ok h.fz.zc (hL ⟨f, g, hpg⟩ w h.below) (hargs.plain hpl)).mono ?_
        rintro e w' ⟨u, z', rfl, hle, hok', hzc, hold, hu, hbel⟩
        obtain ⟨r1, r2⟩ := rel_below h hbel base hle hok' hzc hold
        exact ⟨u, ⟨ρ.m, z'⟩, [], rfl, DR.vr (ρ := ⟨ρ.m, z'⟩) hu, r1, r2, rfl⟩
      · split at hx
        case h_2 => cases hx
        case h_1 aa has =>
        split at hx
        case h_2 => cases hx
        case h_1 v' hv' =>
        split at hx
        · cases hx
        rename_i hnl
        injection hx with hx
        simp only [Prod.mk.injEq] at hx
        obtain ⟨rfl, rfl⟩ := hx
        intro ρ w args' h hb hargs
        have hlz : (lentZ ρ w).ok := fun r o v q => h.fz.zc false r o v q
        refine (hp f g hpg aa v' hv' (lentZ ρ w) w args' hlz (fun t r o v q => ?_) (hL ⟨f, g, hpg⟩ w h.below) (hardAll_drs (fun x y u hxy hxu => hard_dr h (tg := true) (lentZ_le h.fz) (fun b e _ _ o v q => q) 50 x y u hxy hxu) has hargs)).mono ?_
        · cases t with
          | true => exact q
          | false => exact h.fz.zc false r o v q
        rintro e w' ⟨u, z', rfl, hle, hok', hzc, hold, hu, hbel⟩
        have hk : ∀ t r o v, ρ.z t r o = some v → w'.cell? ⟨r, o, none⟩ = some v := fun t r o v q => (World.cell?_of_block (w := w) (a := ⟨r, o, none⟩) (hbel.block r (h.fz.lt q))).trans (h.fz.zc _ _ _ _ q)
        let z2 : ZMap := fun t r o => match ρ.z t r o with | some v => some v | none => z' false r o
        have hz2 : ∀ t r o v, z2 t r o = some v → ρ.z t r o = some v ∨ z' false r o = some v := fun t r o v q => by
          simp only [z2] at q
          split at q
          · rename_i v1 h1; injection q with q; subst q; exact .inl h1
          · exact .inr q
        have hin : ∀ r o v t, z' false r o = some v → z2 t r o = some v := fun r o v t q => by
          simp only [z2]
          split
          · rename_i v1 h1
            have e1 := hk t r o v1 h1
            have e2 := hzc false r o v q
            rw [e1] at e2
            exact e2
          · exact q
        have hle2 : ρ.z.le z2 := fun t r o v q => by simp only [z2]; rw [q]
        obtain ⟨r1, r2⟩ := rel_below h hbel base (z := z2) hle2 (fun r o v q => by
            rcases hz2 _ _ _ _ q with q | q
            · exact hle2 _ _ _ _ (h.fz.ok _ _ _ q)
            · exact hin _ _ _ _ q) (fun t r o v q => by
            rcases hz2 _ _ _ _ q with q | q
            · exact hk _ _ _ _ q
            · exact hzc _ _ _ _ q) (fun t r o v q hr => by
            rcases hz2 _ _ _ _ q with q | q
            · exact q
            · have : ρ.z false r o = some v := hold false r o v q hr
              cases t with
              | false => exact this
              | true => exact h.fz.ok _ _ _ this)
        exact ⟨u, ⟨ρ.m, z2⟩, [], rfl, DR.vr (ρ := ⟨ρ.m, z2⟩) (hu.lasts (fun r o v q => hin r o v false q) (by simpa using hnl)), r1, r2, rfl⟩
    · rename_i hpn
      split at hx
      case h_2 => cases hx
      case h_1 e T S1 hcode =>
      split at hx
      case isFalse => cases hx
      rename_i hexit
      split at hx
      case h_2 => cases hx
      case h_1 l hl =>
      intro ρ w args' h hb hargs
      have hgc := hg f fn c hf hc hpn
      have hal : args'.length ≤ fn.ntmps := by rw [← hargs.length]; omega
      refine calls_of_wp hf hc ?_
      have h0 : Rel B w0 ρ { S with log := [] } w := h.relog []
      refine xcode_wp hD ih (hok n) (S0 := { S with log := [] }) (ρ0 := ρ) (wi := w) (n := fn.ntmps) rfl h0.dom (lv := livesOf fn (prim.live f)) (fun id rows ts hl => by
        unfold livesOf at hl
        split at hl
        · injection hl with hl; simp only [Prod.mk.injEq] at hl; obtain ⟨rfl, _⟩ := hl; omega
        · cases hl) c (argsT 0 args []) { S with log := [] } _ w e T S1 _ hgc ?_ hcode ?_
      · refine ⟨ρ, [], h0, Ev.refl, rfl, tr_args hargs fn.ntmps, ?_, rfl⟩
        simp
        omega
      · rintro a' w' ⟨ρ', W, q1, q2, q3, q4, q5, q6⟩
        obtain ⟨u, hu1, hu2⟩ := results_run q1 q4 hl
        have fin : ∃ u' ρ'' W', Ending.returned u = .returned u' ∧ VR ρ'' v u' ∧ Rel B w0 ρ'' S' w' ∧ Ev base ρ S w ρ'' S' w' W' ∧ S'.log = W' ++ S.log := by
          have hW : S1.log = W := by rw [q3]; simp
          have q2' : Ev S.size ρ S w ρ' S1 w' W := q2.relog S.log S1.log
          split at hx
          · unfold xcool at hx
            split at hx
            case isFalse => cases hx
            rename_i htd
            split at hx
            case h_2 => cases hx
            rename_i y hy
            injection hx with hx
            simp only [Prod.mk.injEq] at hx
            obtain ⟨rfl, rfl⟩ := hx
            have hlow := q2'.lower (W' := W.filter fun p => p.1 < base) hb (Nat.le_refl _) (fun p => by simp)
            obtain ⟨ρ2, r0, r1, r2⟩ := cool_ok h q1 q2' hb htd hy hu2 hlow ((S1.log.filter fun p => p.1 < base) ++ S.log)
            exact ⟨u, ρ2, W.filter fun p => p.1 < base, rfl, r0, r1, r2, by rw [hW]⟩
          split at hx
          · rename_i hcnd
            injection hx with hx
            simp only [Prod.mk.injEq] at hx
            obtain ⟨rfl, rfl⟩ := hx
            simp only [Bool.and_eq_true] at hcnd
            have hW0 : W = [] := by rw [← hW]; simpa using hcnd.1
            subst hW0
            obtain ⟨r1, r2⟩ := drop_new h q1 q2' base hb
            exact ⟨u, ⟨ρ.m, ρ'.z⟩, [], rfl, hu2.under (ρ := ⟨ρ.m, ρ'.z⟩) (n := S.size) (fun b e hlt hbe => q2'.old b e hbe hlt) (ZMap.le_refl _) hcnd.2, r1, r2, rfl⟩
          · injection hx with hx
            simp only [Prod.mk.injEq] at hx
            obtain ⟨rfl, rfl⟩ := hx
            refine ⟨u, ρ', W.filter fun p => p.1 < base, rfl, hu2, q1.relog _, ?_, by rw [hW]⟩
            have := q2'.lower (W' := W.filter fun p => p.1 < base) hb (Nat.le_refl _) (fun p => by simp)
            exact this.relog S.log _
        have hbp : bodyPost P fn (fun e w' => ∃ u ρ' W, e = .returned u ∧ VR ρ' v u ∧ Rel B w0 ρ' S' w' ∧ Ev base ρ S w ρ' S' w' W ∧ S'.log = W ++ S.log) .ret a' w' := ⟨q6, u, hu1, fin⟩
        rcases hexit with rfl | rfl
        · exact hbp
        · exact hbp

end
end Go.XM

namespace Go.XM
set_option linter.unusedVariables false
set_option linter.unusedSimpArgs false
open Go.RowKit
set_option linter.unusedVariables false

/-- what the plain machine itself leaves alone -/
structure XFr (base : Nat) (S S' : XS) (W : List (Nat × Nat)) : Prop where
  size : S.size ≤ S'.size
  log : S'.log = W ++ S.log
  wb : ∀ p, p ∈ W → p.1 < base
  canon : ∀ b, b < base → BlkFrame W b (S.get b) (S'.get b)

theorem XFr.refl (base : Nat) (S : XS) : XFr base S S [] := ⟨Nat.le_refl _, rfl, (fun p hp => by cases hp), fun b _ => BlkFrame.refl _ _ _⟩
theorem XFr.trans {base : Nat} {S1 S2 S3 : XS} {W1 W2 : List (Nat × Nat)} (h : XFr base S1 S2 W1) (k : XFr base S2 S3 W2) : XFr base S1 S3 (W2 ++ W1) :=
  ⟨Nat.le_trans h.size k.size, by rw [k.log, h.log, List.append_assoc], fun p hp => by rcases List.mem_append.1 hp with q | q <;> first | exact k.wb p q | exact h.wb p q,
    fun b hb => (h.canon b hb).trans (k.canon b hb)⟩
theorem XFr.push {base : Nat} {S : XS} (hb : base ≤ S.size) (x : XBlk) : XFr base S (S.push x) [] :=
  ⟨by simp, rfl, (fun p hp => by cases hp), fun b hlt => by rw [XS.get_push_old _ _ (by omega)]; exact BlkFrame.refl _ _ _⟩

theorem store1_fr {base b o : Nat} {S S' : XS} {v : XV} (hx : S.store1 base b o v = some S') : XFr base S S' (if b < base then [(b, o)] else []) ∧ S'.size = S.size := by
  unfold XS.store1 at hx
  split at hx
  case h_2 => cases hx
  case h_1 cs k hg =>
  split at hx
  · cases hx
  split at hx
  case h_2 => cases hx
  case h_1 c hc =>
  split at hx
  case isFalse => cases hx
  injection hx with hx
  subst hx
  have hng : (S.get b).isGone = false := by rw [hg]; rfl
  obtain ⟨hco, hcl⟩ : cs[o]? = some c ∧ c.live = true := by
    unfold cellAt at hc
    split at hc
    · split at hc
      · rename_i hl; injection hc with hc; subst hc; exact ⟨by assumption, hl⟩
      · cases hc
    · cases hc
  refine ⟨⟨by simp, by rw [XS.log_note, XS.log_put], fun p hp => ?_, fun c' hlt => ?_⟩, by simp⟩
  · split at hp
    · simp at hp; subst hp; assumption
    · cases hp
  · rw [XS.get_note]
    by_cases hcb : c' = b
    · subst hcb
      rw [XS.get_put_same _ hng, hg, if_pos hlt]
      refine ⟨rfl, by simp, fun o' ho' => ?_, fun o' ho' => ?_⟩
      · rw [List.getElem?_set_ne]
        intro hq; subst hq; exact ho' (by simp)
      · by_cases hoo : o' = o
        · subst hoo; rw [hco] at ho'; injection ho' with ho'; subst ho'; cases hcl
        · rw [List.getElem?_set_ne (by omega)]; exact ho'
    · rw [XS.get_put_other _ hcb]; exact BlkFrame.refl _ _ _

theorem storeN_fr {base b : Nat} : ∀ (vs : List XV) (o : Nat) (S S' : XS), S.storeN base b o vs = some S' → (∃ W, XFr base S S' W) ∧ S'.size = S.size
  | [], o, S, S', hx => by simp only [XS.storeN] at hx; injection hx with hx; subst hx; exact ⟨⟨[], XFr.refl _ _⟩, rfl⟩
  | v :: vs, o, S, S', hx => by
    simp only [XS.storeN] at hx
    split at hx
    case h_2 => cases hx
    case h_1 S1 h1 =>
    obtain ⟨p1, p2⟩ := store1_fr h1
    obtain ⟨⟨W, q1⟩, q2⟩ := storeN_fr vs (o + 1) S1 S' hx
    exact ⟨⟨_, p1.trans q1⟩, by omega⟩

theorem kill_fr {base b : Nat} {S : XS} {cs : List XV} {k : XKind} (hg : S.get b = .cells cs k) (hne : 0 < k.room cs) : XFr base S (S.kill base b (k.room cs)) (if b < base then noteAll b (k.room cs) [] else []) := by
  have hng : (S.get b).isGone = false := by rw [hg]; rfl
  refine ⟨by simp, XS.log_kill S base b (k.room cs), fun p hp => ?_, fun c hlt => ?_⟩
  · split at hp
    · rcases (mem_noteAll _ _ _ _).1 hp with ⟨q, _⟩ | q
      · rw [q]; assumption
      · cases q
    · cases hp
  · by_cases hcb : c = b
    · subst hcb
      rw [XS.get_kill_same _ _ hng, hg, if_pos hlt]
      exact ⟨hne, fun o ho => (mem_noteAll _ _ _ _).2 (.inl ⟨rfl, ho⟩)⟩
    · rw [XS.get_kill_other S base _ hcb]; exact BlkFrame.refl _ _ _

theorem next_fr {base : Nat} {S S' : XS} {x v : XV} (hx : xnext base S x = some (v, S')) : ∃ W, XFr base S S' W := by
  unfold xnext at hx
  split at hx
  case h_2 => cases hx
  case h_1 b =>
  split at hx
  case h_2 => cases hx
  case h_1 s pos hg =>
  split at hx
  · injection hx with hx
    simp only [Prod.mk.injEq] at hx
    obtain ⟨_, rfl⟩ := hx
    have hng : (S.get b).isGone = false := by rw [hg]; rfl
    refine ⟨_, by simp, by rw [XS.log_note, XS.log_put], fun p hp => ?_, fun c hlt => ?_⟩
    · split at hp
      · simp at hp; subst hp; assumption
      · cases hp
    · rw [XS.get_note]
      by_cases hcb : c = b
      · subst hcb
        rw [XS.get_put_same _ hng, hg, if_pos hlt]
        exact ⟨rfl, fun hm => absurd (by simp) hm⟩
      · rw [XS.get_put_other _ hcb]; exact BlkFrame.refl _ _ _
  · injection hx with hx
    simp only [Prod.mk.injEq] at hx
    obtain ⟨_, rfl⟩ := hx
    exact ⟨_, XFr.refl _ _⟩

theorem append_fr {P : Program} {base : Nat} {S S' : XS} (hb : base ≤ S.size) {t : TypeId} {s v : XV} {new : List XV} {n : Nat} (hx : xappend P base S t s new n = some (v, S')) : ∃ W, XFr base S S' W := by
  unfold xappend at hx
  split at hx
  case h_2 => cases hx
  split at hx
  case h_2 => cases hx
  split at hx
  · cases hx
  have hr : ∀ {u : XV}, some (u, S) = some (v, S') → ∃ W, XFr base S S' W := fun h => by
    injection h with h; simp only [Prod.mk.injEq] at h; obtain ⟨_, rfl⟩ := h; exact ⟨_, XFr.refl _ _⟩
  have hp : ∀ {u : XV} {x : XBlk}, some (u, S.push x) = some (v, S') → ∃ W, XFr base S S' W := fun h => by
    injection h with h; simp only [Prod.mk.injEq] at h; obtain ⟨_, rfl⟩ := h; exact ⟨_, XFr.push hb _⟩
  split at hx
  case h_5 => cases hx
  case h_1 => split at hx <;> first | exact hr hx | (split at hx <;> first | exact hp hx | cases hx)
  case h_2 b =>
    split at hx
    · exact hr hx
    · split at hx
      case h_2 => cases hx
      case h_1 cs esz m hg =>
      split at hx
      · injection hx with hx
        simp only [Prod.mk.injEq] at hx
        obtain ⟨_, rfl⟩ := hx
        have := kill_fr (base := base) hg (by simp [XKind.room])
        exact ⟨_, this.trans (XFr.push (by simpa using hb) _)⟩
      · cases hx
  case h_3 b o len cap =>
    split at hx
    · split at hx
      · exact hr hx
      · cases hx
    · split at hx
      · split at hx
        case h_2 => cases hx
        case h_1 S2 h2 =>
        injection hx with hx; simp only [Prod.mk.injEq] at hx; obtain ⟨_, rfl⟩ := hx
        exact (storeN_fr _ _ _ _ h2).1
      · split at hx
        · split at hx
          · split at hx
            · split at hx
              · exact hp hx
              · cases hx
            · cases hx
          · cases hx
        · cases hx
  case h_4 t m cs len => split at hx <;> first | exact hr hx | (split at hx <;> first | exact hp hx | cases hx)

theorem convert_fr {P : Program} {base : Nat} {S S' : XS} (hb : base ≤ S.size) {src dst : TypeId} {x v : XV} (hx : xconvert P S src dst x = some (v, S')) : ∃ W, XFr base S S' W := by
  have hr : ∀ {u : XV}, some (u, S) = some (v, S') → ∃ W, XFr base S S' W := fun h => by
    injection h with h; simp only [Prod.mk.injEq] at h; obtain ⟨_, rfl⟩ := h; exact ⟨_, XFr.refl _ _⟩
  have hl : ∀ {cs : List XV} {n : Nat}, some (looseOf S cs n) = some (v, S') → ∃ W, XFr base S S' W := fun h => by
    injection h with h; unfold looseOf at h; simp only [Prod.mk.injEq] at h; obtain ⟨_, rfl⟩ := h; exact ⟨_, XFr.push hb _⟩
  unfold xconvert at hx
  split at hx
  · cases hx
  split at hx
  · split at hx
    · exact hr hx
    · split at hx
      · exact hr hx
      · cases hx
  · split at hx
    · exact hr hx
    · split at hx
      · split at hx
        · exact hl hx
        · split at hx
          · exact hl hx
          · cases hx
      · cases hx
  · split at hx
    · split at hx
      · split at hx
        · split at hx
          · exact hr hx
          · cases hx
        · cases hx
      · cases hx
    · cases hx

theorem builtin_fr {P : Program} {base : Nat} {S S' : XS} (hb : base ≤ S.size) {b : Builtin} {ts : List TypeId} {xs : List XV} {v : XV} (hx : xbuiltin P base S b ts xs = some (v, S')) : ∃ W, XFr base S S' W := by
  have hr : ∀ {o : Option XV}, (match o with | some v => some (v, S) | none => none) = some (v, S') → ∃ W, XFr base S S' W := fun {o} h => by
    cases o with
    | none => cases h
    | some u => injection h with h; simp only [Prod.mk.injEq] at h; obtain ⟨_, rfl⟩ := h; exact ⟨_, XFr.refl _ _⟩
  unfold xbuiltin at hx
  split at hx
  · split at hx
    · split at hx
      · split at hx
        · split at hx
          · cases hx
          · exact append_fr hb hx
        · cases hx
      · cases hx
    · cases hx
  · exact hr hx
  · exact hr hx
  · exact hr hx
  · exact hr hx
  · cases hx

theorem xop_fr {P : Program} {base : Nat} {S S' : XS} (hb : base ≤ S.size) {o : Oper} {T : Tmps} {v : XV} (hx : xop P base o T S = some (v, S')) : ∃ W, XFr base S S' W := by
  have hr : ∀ {o : Option XV}, (o.map fun v => (v, S)) = some (v, S') → ∃ W, XFr base S S' W := fun {o} h => by
    simp only [Option.map_eq_some_iff, Prod.mk.injEq] at h
    obtain ⟨_, _, _, rfl⟩ := h
    exact ⟨_, XFr.refl _ _⟩
  have hr' : ∀ {u : XV}, some (u, S) = some (v, S') → ∃ W, XFr base S S' W := fun h => by
    injection h with h; simp only [Prod.mk.injEq] at h; obtain ⟨_, rfl⟩ := h; exact ⟨_, XFr.refl _ _⟩
  have hp : ∀ {u : XV} {x : XBlk}, some (u, S.push x) = some (v, S') → ∃ W, XFr base S S' W := fun h => by
    injection h with h; simp only [Prod.mk.injEq] at h; obtain ⟨_, rfl⟩ := h; exact ⟨_, XFr.push hb _⟩
  obtain ⟨dst, op, ty, pos, after, guard⟩ := o
  unfold xop at hx
  cases op with
  | move x => exact hr hx
  | assign x => exact hr hx
  | pick c x y => simp only at hx; split at hx <;> first | exact hr hx | cases hx
  | alloc t => simp only at hx; split at hx <;> first | (split at hx <;> first | exact hp hx | cases hx) | cases hx
  | box t x => simp only at hx; split at hx <;> first | (split at hx <;> first | exact hp hx | cases hx) | cases hx
  | build t ps => simp only at hx; split at hx <;> first | exact hr hx | cases hx
  | buildSlice t n ps =>
    simp only at hx
    split at hx
    case h_2 => cases hx
    unfold xbuildSlice at hx
    split at hx
    case h_2 => cases hx
    split at hx
    case h_2 => cases hx
    split at hx
    case isFalse => cases hx
    split at hx
    · exact hp hx
    · cases hx
  | load t x => simp only at hx; split at hx <;> first | exact hr hx | cases hx
  | store t x y =>
    simp only at hx
    split at hx
    case h_2 => cases hx
    simp only [Option.map_eq_some_iff, Prod.mk.injEq] at hx
    obtain ⟨S2, hS, _, rfl⟩ := hx
    unfold xstore at hS
    split at hS
    · split at hS
      · exact (storeN_fr _ _ _ _ hS).1
      · cases hS
    · cases hS
  | nilCheck x => simp only at hx; split at hx <;> first | exact hr' hx | cases hx
  | binOp op t x y yt => simp only at hx; split at hx <;> first | exact hr hx | cases hx
  | unOp op t x => simp only at hx; split at hx <;> first | exact hr hx | cases hx
  | convert src dst x => simp only at hx; split at hx <;> first | exact convert_fr hb hx | cases hx
  | makeInterface t x => simp only at hx; split at hx <;> first | (split at hx <;> first | exact hr' hx | cases hx) | cases hx
  | makeFunc fn first caps =>
    cases fn <;> first | cases hx | skip
    simp only at hx
    split at hx
    · simp only [Option.map_eq_some_iff, Prod.mk.injEq] at hx
      obtain ⟨_, _, _, rfl⟩ := hx
      exact ⟨_, XFr.refl _ _⟩
    · cases hx
  | makeSlice t x y =>
    simp only at hx
    split at hx
    case h_2 => cases hx
    unfold xmakeSlice at hx
    split at hx
    case h_2 => cases hx
    split at hx
    case h_2 => cases hx
    split at hx
    case h_2 => cases hx
    split at hx
    · exact hp hx
    · cases hx
  | slice t x lo hi mx => simp only at hx; split at hx <;> first | exact hr hx | cases hx
  | fieldAddr t x f => simp only at hx; split at hx <;> first | exact hr hx | cases hx
  | field t x f => simp only at hx; split at hx <;> first | exact hr hx | cases hx
  | indexAddr t x i => simp only at hx; split at hx <;> first | exact hr hx | cases hx
  | index t x i => simp only at hx; split at hx <;> first | exact hr hx | cases hx
  | range t x => simp only at hx; split at hx <;> first | (split at hx <;> first | exact hp hx | cases hx) | cases hx
  | next x isS => simp only at hx; split at hx <;> first | (split at hx <;> first | exact next_fr hx | cases hx) | cases hx
  | typeAssert x xt t ok => simp only at hx; split at hx <;> first | exact hr hx | cases hx
  | extract x i => simp only at hx; split at hx <;> first | exact hr hx | cases hx
  | call c => simp only at hx; split at hx <;> first | (split at hx <;> first | exact builtin_fr hb hx | cases hx) | cases hx
  | _ => cases hx

def CallFr (call : XCallFn) : Prop := ∀ f args base S v S', base ≤ S.size → call f args base S = some (v, S') → ∃ W, XFr base S S' W

theorem xstep_fr {P : Program} {call : XCallFn} (hc : CallFr call) {base : Nat} {S S' : XS} (hb : base ≤ S.size) {o : Oper} {T : Tmps} {v : XV} (hx : xstep P call base o T S = some (v, S')) : ∃ W, XFr base S S' W := by
  unfold xstep at hx
  split at hx
  · split at hx
    · split at hx
      · exact hc _ _ _ _ _ _ hb hx
      · cases hx
    · exact xop_fr hb hx
  · exact xop_fr hb hx

end Go.XM

namespace Go.XM
set_option linter.unusedVariables false
set_option linter.unusedSimpArgs false
open Go.RowKit
set_option linter.unusedVariables false

/-! ### poison, and back -/
def PoisR (ps : List (Nat × Nat)) (b : Nat) : XBlk → XBlk → Prop
  | .cells cs k, .cells cs' k' => k' = k ∧ cs'.length = cs.length ∧ (∀ o : Nat, (b, o) ∉ ps → cs'[o]? = cs[o]?) ∧ (∀ (o : Nat) (v : XV), (b, o) ∈ ps → cs'[o]? = some v → v = .dead) ∧ (∀ o : Nat, cs[o]? = some XV.dead → cs'[o]? = some XV.dead)
  | .iter s n, .iter s' n' => s' = s ∧ n' = n ∧ ∀ o, (b, o) ∉ ps
  | .iter _ _, .cells cs k => cs = [] ∧ k = .own ∧ ∃ o, (b, o) ∈ ps
  | .gone, .gone => True
  | _, _ => False

@[simp] theorem size_poison1 (S : XS) (p : Nat × Nat) : (S.poison1 p).size = S.size := by unfold XS.poison1; split <;> simp
@[simp] theorem log_poison1 (S : XS) (p : Nat × Nat) : (S.poison1 p).log = S.log := by unfold XS.poison1; split <;> simp
theorem size_poison : ∀ (ps : List (Nat × Nat)) (S : XS), (S.poison ps).size = S.size
  | [], S => rfl
  | p :: ps, S => by unfold XS.poison; rw [List.foldl_cons]; exact (size_poison ps _).trans (by simp)

theorem poison1_get (S : XS) (p : Nat × Nat) (b : Nat) : PoisR [p] b (S.get b) ((S.poison1 p).get b) := by
  by_cases hb : b = p.1
  · subst hb
    unfold XS.poison1
    cases hg : S.get p.1 with
    | cells cs k =>
      have hng : (S.get p.1).isGone = false := by rw [hg]; rfl
      simp only
      rw [XS.get_put_same _ hng]
      refine ⟨rfl, by simp, fun o ho => ?_, fun o v ho hv => ?_, fun o ho => ?_⟩
      · rw [List.getElem?_set_ne]; intro q; subst q; exact ho (by simp)
      · have : o = p.2 := by simpa [Prod.ext_iff] using ho
        subst this
        rw [List.getElem?_set] at hv
        simp at hv
        exact hv.2.symm
      · by_cases q : p.2 = o
        · subst q
          have hlt : p.2 < cs.length := by
            rcases Nat.lt_or_ge p.2 cs.length with q | q
            · exact q
            · rw [List.getElem?_eq_none q] at ho; cases ho
          rw [List.getElem?_set_self hlt]
        · rw [List.getElem?_set_ne q]; exact ho
    | iter s n =>
      have hng : (S.get p.1).isGone = false := by rw [hg]; rfl
      simp only
      rw [XS.get_put_same _ hng]
      exact ⟨rfl, rfl, p.2, by simp⟩
    | gone => simp only; rw [hg]; trivial
  · have he : (S.poison1 p).get b = S.get b := by
      unfold XS.poison1
      split
      · exact XS.get_put_other _ hb
      · exact XS.get_put_other _ hb
      · rfl
    rw [he]
    have hnot : ∀ o, (b, o) ∉ [p] := fun o ho => by
      simp at ho
      exact hb (by rw [← ho])
    cases S.get b with
    | cells cs k => exact ⟨rfl, rfl, fun _ _ => rfl, fun o v ho _ => absurd ho (hnot o), fun _ h => h⟩
    | iter s n => exact ⟨rfl, rfl, hnot⟩
    | gone => trivial

theorem PoisR.trans {p1 p2 : List (Nat × Nat)} {b : Nat} {x y z : XBlk} (h : PoisR p1 b x y) (k : PoisR p2 b y z) : PoisR (p1 ++ p2) b x z := by
  cases x <;> cases y <;> simp only [PoisR] at h <;> cases z <;> simp only [PoisR] at k ⊢
  · obtain ⟨a1, a2, a3, a4, a5⟩ := h
    obtain ⟨c1, c2, c3, c4, c5⟩ := k
    refine ⟨c1.trans a1, c2.trans a2, fun o ho => ?_, fun o v ho hv => ?_, fun o ho => c5 o (a5 o ho)⟩
    · simp only [List.mem_append, not_or] at ho
      exact (c3 o ho.2).trans (a3 o ho.1)
    · by_cases q : (b, o) ∈ p2
      · exact c4 o v q hv
      · rw [c3 o q] at hv
        exact a4 o v ((List.mem_append.1 ho).resolve_right q) hv
  · obtain ⟨rfl, rfl, o, ho⟩ := h
    obtain ⟨c1, c2, c3, c4, c5⟩ := k
    exact ⟨List.eq_nil_of_length_eq_zero c2, c1, o, List.mem_append.2 (.inl ho)⟩
  · obtain ⟨rfl, rfl, h3⟩ := h
    obtain ⟨k1, k2, o, ho⟩ := k
    exact ⟨k1, k2, o, List.mem_append.2 (.inr ho)⟩
  · obtain ⟨rfl, rfl, h3⟩ := h
    obtain ⟨rfl, rfl, k3⟩ := k
    refine ⟨rfl, rfl, fun o ho => ?_⟩
    rcases List.mem_append.1 ho with q | q
    · exact h3 o q
    · exact k3 o q

theorem PoisR.nil (b : Nat) (x : XBlk) : PoisR [] b x x := by
  cases x with
  | cells cs k => exact ⟨rfl, rfl, fun _ _ => rfl, fun o v ho _ => (by cases ho), fun _ h => h⟩
  | iter s n => exact ⟨rfl, rfl, fun o ho => by cases ho⟩
  | gone => trivial

theorem poison_get : ∀ (ps : List (Nat × Nat)) (S : XS) (b : Nat), PoisR ps b (S.get b) ((S.poison ps).get b)
  | [], S, b => PoisR.nil b _
  | p :: ps, S, b => by
    have h1 := poison1_get S p b
    have h2 := poison_get ps (S.poison1 p) b
    have : (S.poison (p :: ps)) = (S.poison1 p).poison ps := rfl
    rw [this]
    exact h1.trans h2

/-- back: x the first, y behind the operation, z restored -/
def RestR (ps : List (Nat × Nat)) (b : Nat) (x y : XBlk) : XBlk → Prop
  | z => match x, y with
    | .cells cs _, .cells cs' k' => ∃ cs'', z = .cells cs'' k' ∧ cs''.length = cs'.length ∧ (∀ o : Nat, (b, o) ∉ ps → cs''[o]? = cs'[o]?) ∧ (∀ o : Nat, (b, o) ∈ ps → o < cs'.length → cs''[o]? = some (cs.getD o .dead))
    | .iter s n, y => ((∃ o, (b, o) ∈ ps) ∧ y.isGone = false ∧ z = .iter s n) ∨ (((∀ o, (b, o) ∉ ps) ∨ y.isGone = true) ∧ z = y)
    | _, y => z = y

@[simp] theorem size_restore1 (S0 S : XS) (p : Nat × Nat) : (XS.restore1 S0 S p).size = S.size := by unfold XS.restore1; split <;> (try split) <;> simp
theorem size_restore (S0 : XS) : ∀ (ps : List (Nat × Nat)) (S : XS), (XS.restore S0 S ps).size = S.size
  | [], S => rfl
  | p :: ps, S => by unfold XS.restore; rw [List.foldl_cons]; exact (size_restore S0 ps _).trans (by simp)

theorem restore1_get (S0 S : XS) (p : Nat × Nat) (b : Nat) : RestR [p] b (S0.get b) (S.get b) ((XS.restore1 S0 S p).get b) := by
  by_cases hb : b = p.1
  · subst hb
    unfold XS.restore1
    cases hg0 : S0.get p.1 with
    | cells cs k =>
      cases hg : S.get p.1 with
      | cells cs' k' =>
        have hng : (S.get p.1).isGone = false := by rw [hg]; rfl
        simp only
        rw [XS.get_put_same _ hng]
        refine ⟨_, rfl, by simp, fun o ho => ?_, fun o ho hlt => ?_⟩
        · rw [List.getElem?_set_ne]; intro q; subst q; exact ho (by simp)
        · have : o = p.2 := by simpa [Prod.ext_iff] using ho
          subst this
          rw [List.getElem?_set_self hlt]
      | iter s n => simp only; rw [hg]; rfl
      | gone => simp only; rw [hg]; rfl
    | iter s n =>
      cases hg : S.get p.1 with
      | gone => simp only; rw [hg]; exact .inr ⟨.inr rfl, rfl⟩
      | cells cs k =>
        have hng : (S.get p.1).isGone = false := by rw [hg]; rfl
        simp only
        rw [XS.get_put_same _ hng]
        exact .inl ⟨⟨p.2, by simp⟩, rfl, rfl⟩
      | iter s' n' =>
        have hng : (S.get p.1).isGone = false := by rw [hg]; rfl
        simp only
        rw [XS.get_put_same _ hng]
        exact .inl ⟨⟨p.2, by simp⟩, rfl, rfl⟩
    | gone => simp only; rfl
  · have he : (XS.restore1 S0 S p).get b = S.get b := by
      unfold XS.restore1
      split
      · split
        · exact XS.get_put_other _ hb
        · rfl
      · split
        · rfl
        · exact XS.get_put_other _ hb
      · rfl
    rw [he]
    have hnot : ∀ o, (b, o) ∉ [p] := fun o ho => by
      simp at ho
      exact hb (by rw [← ho])
    cases S0.get b with
    | cells cs k =>
      cases S.get b with
      | cells cs' k' => exact ⟨cs', rfl, rfl, fun _ _ => rfl, fun o ho _ => absurd ho (hnot o)⟩
      | iter s n => rfl
      | gone => rfl
    | iter s n => exact .inr ⟨.inl hnot, rfl⟩
    | gone => rfl


theorem RestR.nil (b : Nat) (x y : XBlk) : RestR [] b x y y := by
  cases x with
  | cells cs k =>
    cases y with
    | cells cs' k' => exact ⟨cs', rfl, rfl, fun _ _ => rfl, fun o ho => by cases ho⟩
    | iter s n => rfl
    | gone => rfl
  | iter s n => exact .inr ⟨.inl (fun o ho => by cases ho), rfl⟩
  | gone => rfl

theorem RestR.trans {p1 p2 : List (Nat × Nat)} {b : Nat} {x y z u : XBlk} (h : RestR p1 b x y z) (k : RestR p2 b x z u) : RestR (p1 ++ p2) b x y u := by
  cases x with
  | cells cs kk =>
    cases y with
    | cells cs' k' =>
      obtain ⟨c1, rfl, l1, a1, b1⟩ := h
      obtain ⟨c2, rfl, l2, a2, b2⟩ := k
      refine ⟨c2, rfl, l2.trans l1, fun o ho => ?_, fun o ho hlt => ?_⟩
      · simp only [List.mem_append, not_or] at ho
        exact (a2 o ho.2).trans (a1 o ho.1)
      · by_cases q : (b, o) ∈ p2
        · exact b2 o q (by omega)
        · rw [a2 o q]
          exact b1 o ((List.mem_append.1 ho).resolve_right q) hlt
    | iter s n => cases h; cases k; rfl
    | gone => cases h; cases k; rfl
  | iter s n =>
    rcases h with ⟨⟨o, ho⟩, hy, rfl⟩ | ⟨hc, rfl⟩
    · refine .inl ⟨⟨o, List.mem_append.2 (.inl ho)⟩, hy, ?_⟩
      rcases k with ⟨_, _, rfl⟩ | ⟨_, rfl⟩ <;> rfl
    · rcases k with ⟨⟨o, ho⟩, hy, rfl⟩ | ⟨hk, rfl⟩
      · exact .inl ⟨⟨o, List.mem_append.2 (.inr ho)⟩, hy, rfl⟩
      · refine .inr ⟨?_, rfl⟩
        rcases hc with hc | hc
        · rcases hk with hk | hk
          · refine .inl fun o ho => ?_
            rcases List.mem_append.1 ho with q | q
            · exact hc o q
            · exact hk o q
          · exact .inr hk
        · exact .inr hc
  | gone => cases h; cases k; rfl

theorem restore_get (S0 : XS) : ∀ (ps : List (Nat × Nat)) (S : XS) (b : Nat), RestR ps b (S0.get b) (S.get b) ((XS.restore S0 S ps).get b)
  | [], S, b => RestR.nil b _ _
  | p :: ps, S, b => by
    have h1 := restore1_get S0 S p b
    have h2 := restore_get S0 ps (XS.restore1 S0 S p) b
    have : (XS.restore S0 S (p :: ps)) = XS.restore S0 (XS.restore1 S0 S p) ps := rfl
    rw [this]
    exact h1.trans h2

/-- an operation under poison, and what was poisoned put back -/
theorem frame_back {ps W : List (Nat × Nat)} {b : Nat} {x y y' z : XBlk} (h1 : PoisR ps b x y) (h2 : BlkFrame W b y y') (h3 : RestR ps b x y' z) : BlkFrame W b x z := by
  cases x with
  | cells cs k =>
    cases y with
    | cells cp kp =>
      obtain ⟨rfl, l1, a1, a2, a3⟩ := h1
      cases y' with
      | cells cq kq =>
        obtain ⟨rfl, l2, b1, b2⟩ := h2
        obtain ⟨cz, rfl, l3, c1, c2⟩ := h3
        refine ⟨rfl, by omega, fun o ho => ?_, fun o ho => ?_⟩
        · by_cases q : (b, o) ∈ ps
          · rcases Nat.lt_or_ge o cs.length with hlt | hge
            · rw [c2 o q (by omega), List.getD_eq_getElem?_getD, List.getElem?_eq_getElem hlt]; rfl
            · rw [List.getElem?_eq_none (by omega), List.getElem?_eq_none hge]
          · rw [c1 o q, b1 o ho, a1 o q]
        · by_cases q : (b, o) ∈ ps
          · have hlt : o < cs.length := by
              rcases Nat.lt_or_ge o cs.length with hq | hq
              · exact hq
              · rw [List.getElem?_eq_none hq] at ho; cases ho
            rw [c2 o q (by omega), List.getD_eq_getElem?_getD, ho]; rfl
          · rw [c1 o q]; exact b2 o (a3 o ho)
      | iter s n => exact h2.elim
      | gone =>
        obtain ⟨d1, d2⟩ := h2
        cases h3
        rw [room_len (k := kp) l1] at d1 d2
        exact ⟨d1, d2⟩
    | iter s n => exact h1.elim
    | gone => exact h1.elim
  | iter s n =>
    cases y with
    | cells cp kp =>
      obtain ⟨rfl, rfl, o, ho⟩ := h1
      cases y' with
      | cells cq kq =>
        rcases h3 with ⟨_, _, rfl⟩ | ⟨hc, rfl⟩
        · exact ⟨rfl, fun _ => rfl⟩
        · rcases hc with hc | hc
          · exact absurd ho (hc o)
          · cases hc
      | iter s n => exact h2.elim
      | gone => exact absurd h2.1 (by simp [XKind.room])
    | iter s' n' =>
      obtain ⟨rfl, rfl, hno⟩ := h1
      rcases h3 with ⟨⟨o, ho⟩, _, _⟩ | ⟨_, rfl⟩
      · exact absurd ho (hno o)
      · exact h2
    | gone => exact h1.elim
  | gone =>
    cases y with
    | cells cp kp => exact h1.elim
    | iter s' n' => exact h1.elim
    | gone =>
      have hz : z = y' := h3
      subst hz
      exact h2

end Go.XM

namespace Go.XM
set_option linter.unusedVariables false
set_option linter.unusedSimpArgs false
open Go.RowKit
set_option linter.unusedVariables false

section
variable {P : Program} {call : XCallFn}

/-- one operation of a region of open order -/
def StepC (P : Program) (call : XCallFn) (ops : List Oper) (pr : List (List Nat)) (Wd : List (List (Nat × Nat))) (i : Nat) (o : Oper) (T : Tmps) (S : XS) (T1 : Tmps) (S1 : XS) (v : XV) (W : List (Nat × Nat)) : Prop :=
  T1 = putX T o.dst v ∧
  ((wantedX ops T o = some true ∧ ∃ S', xstep P call S.size o T { S.poison (openW pr Wd i) with log := [] } = some (v, S') ∧ W = S'.log ∧ (∀ p, p ∈ W → p ∈ Wd.getD i [] ∧ p ∉ openW pr Wd i) ∧
      S1 = { XS.restore S S' (openW pr Wd i) with log := S.log }) ∨
   (wantedX ops T o = some false ∧ v = .tuple [] ∧ W = [] ∧ S1 = S))

theorem xopsW_chain {ops : List Oper} {pr : List (List Nat)} {Wd : List (List (Nat × Nat))} : ∀ (l : List Oper) (k : Nat) (T : Tmps) (S : XS) (T' : Tmps) (S' : XS) (ws : List (List (Nat × Nat))),
    xopsW P call ops pr Wd k l T S = some (T', S', ws) → ∃ (Ts : Nat → Tmps) (Ss : Nat → XS) (vs : Nat → XV) (Ws : Nat → List (Nat × Nat)),
      Ts k = T ∧ Ss k = S ∧ Ts (k + l.length) = T' ∧ Ss (k + l.length) = S' ∧ (∀ j, ws[j]? = if j < l.length then some (Ws (k + j)) else none) ∧
      ∀ j o, l[j]? = some o → StepC P call ops pr Wd (k + j) o (Ts (k + j)) (Ss (k + j)) (Ts (k + j + 1)) (Ss (k + j + 1)) (vs (k + j)) (Ws (k + j))
  | [], k, T, S, T', S', ws, h => by
    simp only [xopsW, Option.some.injEq, Prod.mk.injEq] at h
    obtain ⟨rfl, rfl, rfl⟩ := h
    exact ⟨fun _ => T, fun _ => S, fun _ => .dead, fun _ => [], rfl, rfl, rfl, rfl, fun j => by simp, fun j o ho => by simp at ho⟩
  | o :: l, k, T, S, T', S', ws, h => by
    have glue : ∀ (v : XV) (W : List (Nat × Nat)) (T1 : Tmps) (S1 : XS) (ws' : List (List (Nat × Nat))), StepC P call ops pr Wd k o T S T1 S1 v W → xopsW P call ops pr Wd (k + 1) l T1 S1 = some (T', S', ws') → ws = W :: ws' →
        ∃ (Ts : Nat → Tmps) (Ss : Nat → XS) (vs : Nat → XV) (Ws : Nat → List (Nat × Nat)),
          Ts k = T ∧ Ss k = S ∧ Ts (k + (o :: l).length) = T' ∧ Ss (k + (o :: l).length) = S' ∧ (∀ j, ws[j]? = if j < (o :: l).length then some (Ws (k + j)) else none) ∧
          ∀ j o', (o :: l)[j]? = some o' → StepC P call ops pr Wd (k + j) o' (Ts (k + j)) (Ss (k + j)) (Ts (k + j + 1)) (Ss (k + j + 1)) (vs (k + j)) (Ws (k + j)) := by
      intro v W T1 S1 ws' hst hr hws
      obtain ⟨Ts, Ss, vs, Ws, h1, h2, h3, h4, h5, h6⟩ := xopsW_chain l (k + 1) T1 S1 T' S' ws' hr
      refine ⟨fun i => if i = k then T else Ts i, fun i => if i = k then S else Ss i, fun i => if i = k then v else vs i, fun i => if i = k then W else Ws i, by simp, by simp, ?_, ?_, fun j => ?_, fun j o' ho' => ?_⟩
      · simp only [List.length_cons]; rw [if_neg (by omega)]; rw [← h3]; congr 1; omega
      · simp only [List.length_cons]; rw [if_neg (by omega)]; rw [← h4]; congr 1; omega
      · subst hws
        cases j with
        | zero => simp
        | succ j =>
          simp only [List.getElem?_cons_succ, h5, List.length_cons]
          by_cases hj : j < l.length
          · rw [if_pos hj, if_pos (by omega), if_neg (by omega)]; congr 2; omega
          · rw [if_neg hj, if_neg (by omega)]
      · cases j with
        | zero =>
          simp at ho'
          subst ho'
          simp only [Nat.add_zero, if_true]
          rw [if_neg (by omega), if_neg (by omega), h1, h2]
          exact hst
        | succ j =>
          simp at ho'
          have := h6 j o' ho'
          rw [show k + (j + 1) = k + 1 + j by omega]
          simp only []
          rw [if_neg (by omega), if_neg (by omega), if_neg (by omega), if_neg (by omega), if_neg (by omega), if_neg (by omega)]
          exact this
    simp only [xopsW] at h
    split at h
    · rename_i hw
      split at h
      case h_2 => cases h
      case h_1 v S2 hs =>
      split at h
      case isFalse => cases h
      rename_i hall
      split at h
      case h_2 => cases h
      case h_1 T2 S3 ws' hr =>
      simp only [Option.some.injEq, Prod.mk.injEq] at h
      obtain ⟨rfl, rfl, rfl⟩ := h
      refine glue v S2.log _ _ ws' ⟨rfl, .inl ⟨hw, S2, hs, rfl, fun p hp => ?_, rfl⟩⟩ hr rfl
      have := List.all_eq_true.1 hall p hp
      simp only [Bool.and_eq_true, Bool.not_eq_true', List.contains_iff_mem] at this
      exact ⟨this.1, by simpa using this.2⟩
    · rename_i hw
      split at h
      case h_2 => cases h
      case h_1 T2 S3 ws' hr =>
      simp only [Option.some.injEq, Prod.mk.injEq] at h
      obtain ⟨rfl, rfl, rfl⟩ := h
      exact glue (.tuple []) [] _ _ ws' ⟨rfl, .inr ⟨hw, rfl, rfl, rfl⟩⟩ hr rfl
    · cases h

/-- the plain frame of one operation of a region -/
theorem stepC_fr (hc : CallFr call) {ops : List Oper} {pr : List (List Nat)} {Wd : List (List (Nat × Nat))} {i : Nat} {o : Oper} {T : Tmps} {S : XS} {T1 : Tmps} {S1 : XS} {v : XV} {W : List (Nat × Nat)}
    (h : StepC P call ops pr Wd i o T S T1 S1 v W) : S.size ≤ S1.size ∧ S1.log = S.log ∧ (∀ p, p ∈ W → p.1 < S.size) ∧ ∀ b, b < S.size → BlkFrame W b (S.get b) (S1.get b) := by
  rcases h.2 with ⟨hw, S', hs, rfl, hW, rfl⟩ | ⟨hw, rfl, rfl, rfl⟩
  · have hsz : ({ S.poison (openW pr Wd i) with log := [] } : XS).size = S.size := size_poison _ _
    obtain ⟨W, hf⟩ := xstep_fr hc (base := S.size) (by rw [hsz]; exact Nat.le_refl _) hs
    have hlog : S'.log = W := by rw [hf.log]; simp
    rw [hlog]
    refine ⟨?_, rfl, hf.wb, fun b hb => ?_⟩
    · have := hf.size
      rw [hsz] at this
      show S.size ≤ (XS.restore S S' _).size
      rw [size_restore]; exact this
    · have h1 := poison_get (openW pr Wd i) S b
      have h2 := hf.canon b hb
      have h3 := restore_get S (openW pr Wd i) S' b
      exact frame_back h1 h2 h3
  · exact ⟨Nat.le_refl _, rfl, (fun p hp => nomatch hp), fun b _ => BlkFrame.refl _ _ _⟩

theorem chain_fr (hc : CallFr call) {ops : List Oper} {pr : List (List Nat)} {Wd : List (List (Nat × Nat))} {n : Nat} {os : Nat → Option Oper} {Ts : Nat → Tmps} {Ss : Nat → XS} {vs : Nat → XV} {Ws : Nat → List (Nat × Nat)}
    (h : ∀ j, j < n → ∃ o, os j = some o ∧ StepC P call ops pr Wd j o (Ts j) (Ss j) (Ts (j + 1)) (Ss (j + 1)) (vs j) (Ws j)) :
    ∀ i, i ≤ n → (Ss 0).size ≤ (Ss i).size ∧ (Ss i).log = (Ss 0).log ∧ ∀ b, b < (Ss 0).size → ∃ W, (∀ p, p ∈ W → ∃ j, j < i ∧ p ∈ Ws j) ∧ BlkFrame W b ((Ss 0).get b) ((Ss i).get b)
  | 0, _ => ⟨Nat.le_refl _, rfl, fun b _ => ⟨[], (fun p hp => nomatch hp), BlkFrame.refl _ _ _⟩⟩
  | i + 1, hi => by
    obtain ⟨h1, h2, h3⟩ := chain_fr hc h i (by omega)
    obtain ⟨o, ho, hst⟩ := h i (by omega)
    obtain ⟨q1, q2, q3, q4⟩ := stepC_fr hc hst
    refine ⟨by omega, q2.trans h2, fun b hb => ?_⟩
    obtain ⟨W, hW, hf⟩ := h3 b hb
    refine ⟨Ws i ++ W, fun p hp => ?_, hf.trans (q4 b (by omega))⟩
    rcases List.mem_append.1 hp with q | q
    · exact ⟨i, by omega, q⟩
    · obtain ⟨j, hj, hm⟩ := hW p q; exact ⟨j, by omega, hm⟩

theorem xdraw_fr (hc : CallFr call) {base : Nat} {ops : List Oper} {T T' : Tmps} {S S' : XS} (hb : base ≤ S.size) (hx : xdraw P call base ops T S = some (T', S')) : ∃ W, XFr base S S' W := by
  obtain ⟨Wd, S1, ws, h, rfl⟩ := xdraw_eq hx
  obtain ⟨Ts, Ss, vs, Ws, h1, h2, h3, h4, h5, h6⟩ := xopsW_chain ops 0 T S T' S1 ws h
  simp only [Nat.zero_add] at h3 h4 h5 h6
  obtain ⟨q1, q2, q3⟩ := chain_fr (n := ops.length) (os := fun j => ops[j]?) hc (fun j hj => ⟨ops[j], List.getElem?_eq_getElem hj, h6 j _ (List.getElem?_eq_getElem hj)⟩) ops.length (Nat.le_refl _)
  rw [h2, h4] at q1 q2 q3
  refine ⟨ws.flatten.filter fun p => p.1 < base, q1, rfl, fun p hp => by simpa using (List.mem_filter.1 hp).2, fun b hlt => ?_⟩
  obtain ⟨W, hW, hf⟩ := q3 b (by omega)
  refine hf.filter fun o ho => ?_
  obtain ⟨j, hj, hm⟩ := hW _ ho
  refine List.mem_filter.2 ⟨List.mem_flatten.2 ⟨Ws j, List.mem_of_getElem? (i := j) (by rw [h5, if_pos hj]), hm⟩, by simpa using hlt⟩

theorem xops_fr (hc : CallFr call) {base : Nat} {ops : List Oper} : ∀ (l : List Oper) (T T' : Tmps) (S S' : XS), base ≤ S.size → xops P call base ops l T S = some (T', S') → ∃ W, XFr base S S' W
  | [], T, T', S, S', hb, hx => by
    simp only [xops, Option.some.injEq, Prod.mk.injEq] at hx
    obtain ⟨rfl, rfl⟩ := hx
    exact ⟨_, XFr.refl _ _⟩
  | o :: l, T, T', S, S', hb, hx => by
    simp only [xops] at hx
    split at hx
    · split at hx
      case h_2 => cases hx
      case h_1 v S1 hs =>
      obtain ⟨W, h1⟩ := xstep_fr hc hb hs
      obtain ⟨W2, h2⟩ := xops_fr hc l _ _ _ _ (Nat.le_trans hb h1.size) hx
      exact ⟨_, h1.trans h2⟩
    · exact xops_fr hc l _ _ _ _ hb hx
    · cases hx

/-- the frame of a piece of code: its heap's end may be dropped -/
structure XFrB (base : Nat) (S S' : XS) (W : List (Nat × Nat)) : Prop where
  size : base ≤ S'.size
  log : S'.log = W ++ S.log
  wb : ∀ p, p ∈ W → p.1 < base
  canon : ∀ b, b < base → BlkFrame W b (S.get b) (S'.get b)
theorem XFr.weak {base : Nat} {S S' : XS} {W : List (Nat × Nat)} (hb : base ≤ S.size) (h : XFr base S S' W) : XFrB base S S' W := ⟨Nat.le_trans hb h.size, h.log, h.wb, h.canon⟩
theorem XFrB.trans {base : Nat} {S1 S2 S3 : XS} {W1 W2 : List (Nat × Nat)} (h : XFrB base S1 S2 W1) (k : XFrB base S2 S3 W2) : XFrB base S1 S3 (W2 ++ W1) :=
  ⟨k.size, by rw [k.log, h.log, List.append_assoc], fun p hp => by rcases List.mem_append.1 hp with q | q <;> first | exact k.wb p q | exact h.wb p q,
    fun b hb => (h.canon b hb).trans (k.canon b hb)⟩

theorem head_fr {lv : Lives} {base : Nat} {c : Code} {T T' : Tmps} {S S' : XS} (hb : base ≤ S.size) (h : headPr lv base c T S = some (T', S')) : XFrB base S S' [] := by
  have same : some (T, S) = some (T', S') → XFrB base S S' [] := fun h => by
    injection h with h; simp only [Prod.mk.injEq] at h; obtain ⟨_, rfl⟩ := h
    exact (XFr.refl _ _).weak hb
  unfold headPr at h
  split at h
  · split at h
    · rename_i h0
      subst h0
      unfold prune at h
      simp only at h
      split at h
      · split at h
        · injection h with h; simp only [Prod.mk.injEq] at h; obtain ⟨_, rfl⟩ := h
          exact ⟨Nat.zero_le _, rfl, (fun p hp => by cases hp), fun b hb => by omega⟩
        · cases h
      · cases h
    · exact same h
  · exact same h

theorem xcode_fr (hc : CallFr call) {lv : Lives} {fuel base : Nat} : ∀ (c : Code) (T T' : Tmps) (S S' : XS) (e : XExit), base ≤ S.size → xcode P call lv fuel base c T S = some (e, T', S') → ∃ W, XFrB base S S' W := by
  intro c
  induction c with
  | skip => intro T T' S S' e hb hx; simp only [xcode, Option.some.injEq, Prod.mk.injEq] at hx; obtain ⟨_, _, rfl⟩ := hx; exact ⟨_, (XFr.refl _ _).weak hb⟩
  | region id ops draw =>
    intro T T' S S' e hb hx
    simp only [xcode] at hx
    split at hx
    case h_2 => cases hx
    case h_1 T1 S1 hr =>
    simp only [Option.some.injEq, Prod.mk.injEq] at hx
    obtain ⟨_, _, rfl⟩ := hx
    split at hr
    · obtain ⟨W, h⟩ := xdraw_fr hc hb hr; exact ⟨W, h.weak hb⟩
    · obtain ⟨W, h⟩ := xops_fr hc _ _ _ _ _ hb hr; exact ⟨W, h.weak hb⟩
  | seq x y ihx ihy =>
    intro T T' S S' e hb hx
    simp only [xcode] at hx
    split at hx
    · rename_i T1 S1 h1
      obtain ⟨W1, f1⟩ := ihx _ _ _ _ _ hb h1
      obtain ⟨W2, f2⟩ := ihy _ _ _ _ _ f1.size hx
      exact ⟨_, f1.trans f2⟩
    · exact ihx _ _ _ _ _ hb hx
  | cond c x y ihx ihy =>
    intro T T' S S' e hb hx
    simp only [xcode] at hx
    split at hx
    · exact ihx _ _ _ _ _ hb hx
    · exact ihy _ _ _ _ _ hb hx
    · cases hx
  | block id c ih =>
    intro T T' S S' e hb hx
    simp only [xcode] at hx
    split at hx
    · rename_i id' T1 S1 h1
      obtain ⟨W1, f1⟩ := ih _ _ _ _ _ hb h1
      split at hx <;> (simp only [Option.some.injEq, Prod.mk.injEq] at hx; obtain ⟨_, _, rfl⟩ := hx; exact ⟨_, f1⟩)
    · exact ih _ _ _ _ _ hb hx
  | loop c ih =>
    intro T T' S S' e hb hx
    simp only [xcode] at hx
    have key : ∀ (k : Nat) (T : Tmps) (S : XS), base ≤ S.size → xloop (headPr lv base c) (xcode P call lv fuel base c) k T S = some (e, T', S') → ∃ W, XFrB base S S' W := by
      intro k
      induction k with
      | zero => intro T S hb hx; simp [xloop] at hx
      | succ k ihk =>
        intro T S hb hx
        simp only [xloop] at hx
        split at hx
        · cases hx
        rename_i T0 S0 hpr
        have f0 := head_fr hb hpr
        split at hx
        · cases hx
        · rename_i T1 S1 h1
          obtain ⟨W1, f1⟩ := ih _ _ _ _ _ f0.size h1
          obtain ⟨W2, f2⟩ := ihk _ _ f1.size hx
          exact ⟨_, (f0.trans f1).trans f2⟩
        · rename_i e1 T1 S1 hne h1
          obtain ⟨W1, f1⟩ := ih _ _ _ _ _ f0.size h1
          split at hx
          case h_2 => cases hx
          case h_1 T2 S2 hpr2 =>
          injection hx with hx
          simp only [Prod.mk.injEq] at hx
          obtain ⟨_, _, rfl⟩ := hx
          exact ⟨_, (f0.trans f1).trans (head_fr f1.size hpr2)⟩
    exact key fuel T S hb hx
  | exit id => intro T T' S S' e hb hx; simp only [xcode, Option.some.injEq, Prod.mk.injEq] at hx; obtain ⟨_, _, rfl⟩ := hx; exact ⟨_, (XFr.refl _ _).weak hb⟩
  | ret => intro T T' S S' e hb hx; simp only [xcode, Option.some.injEq, Prod.mk.injEq] at hx; obtain ⟨_, _, rfl⟩ := hx; exact ⟨_, (XFr.refl _ _).weak hb⟩
  | rangeFunc f ps x y ihx ihy => intro T T' S S' e hb hx; simp [xcode] at hx
  | scope c ih => intro T T' S S' e hb hx; simp [xcode] at hx
  | label l => intro T T' S S' e hb hx; simp [xcode] at hx
  | goto l => intro T T' S S' e hb hx; simp [xcode] at hx
  | refuse why => intro T T' S S' e hb hx; simp [xcode] at hx

theorem xcall_fr {prim : XPrim} : ∀ n, CallFr (xcall P prim n)
  | 0 => fun f args base S v S' hb hx => by simp [xcall] at hx
  | n + 1 => fun f args base S v S' hb hx => by
    have ih := xcall_fr (prim := prim) n
    unfold xcall at hx
    split at hx
    · cases hx
    split at hx
    · cases hx
    split at hx
    · cases hx
    split at hx
    · cases hx
    split at hx
    · split at hx
      · split at hx
        case h_2 => cases hx
        injection hx with hx; simp only [Prod.mk.injEq] at hx; obtain ⟨_, rfl⟩ := hx; exact ⟨_, XFr.refl _ _⟩
      · split at hx
        case h_2 => cases hx
        split at hx
        case h_2 => cases hx
        split at hx
        · cases hx
        injection hx with hx; simp only [Prod.mk.injEq] at hx; obtain ⟨_, rfl⟩ := hx; exact ⟨_, XFr.refl _ _⟩
    · split at hx
      case h_2 => cases hx
      case h_1 e T S1 hcode =>
      split at hx
      case isFalse => cases hx
      split at hx
      case h_2 => cases hx
      obtain ⟨W, hf⟩ := xcode_fr (S := { S with log := [] }) (base := S.size) ih _ _ _ _ _ (Nat.le_refl _) hcode
      split at hx
      · unfold xcool at hx
        split at hx
        case isFalse => cases hx
        split at hx
        case h_2 => cases hx
        injection hx with hx; simp only [Prod.mk.injEq] at hx; obtain ⟨_, rfl⟩ := hx
        have hlog : S1.log = W := by rw [hf.log]; simp
        refine ⟨S1.log.filter fun p => p.1 < base, Nat.le_refl _, rfl, fun p hp => by simpa using (List.mem_filter.1 hp).2, fun b hlt => ?_⟩
        rw [elder_get hf.size (Nat.lt_of_lt_of_le hlt hb)]
        exact (hf.canon b (Nat.lt_of_lt_of_le hlt hb)).filter fun o ho => List.mem_filter.2 ⟨by rw [hlog]; exact ho, by simpa using hlt⟩
      split at hx
      · injection hx with hx; simp only [Prod.mk.injEq] at hx; obtain ⟨_, rfl⟩ := hx; exact ⟨_, XFr.refl _ _⟩
      · injection hx with hx; simp only [Prod.mk.injEq] at hx; obtain ⟨_, rfl⟩ := hx
        have hlog : S1.log = W := by rw [hf.log]; simp
        refine ⟨S1.log.filter fun p => p.1 < base, hf.size, rfl, fun p hp => by simpa using (List.mem_filter.1 hp).2, fun b hlt => ?_⟩
        exact (hf.canon b (Nat.lt_of_lt_of_le hlt hb)).filter fun o ho => List.mem_filter.2 ⟨by rw [hlog]; exact ho, by simpa using hlt⟩

end
end Go.XM

namespace Go.XM
set_option linter.unusedVariables false
set_option linter.unusedSimpArgs false
open Go.RowKit
set_option linter.unusedVariables false
set_option linter.unusedSimpArgs false

/-! ### one operation looks at few temporaries -/
def reads (o : Oper) : List Nat := o.op.operands.toList.filterMap fun | .tmp t => some t | _ => none

theorem mem_reads {o : Oper} {t : Nat} (h : Operand.tmp t ∈ o.op.operands.toList) : t ∈ reads o := List.mem_filterMap.2 ⟨_, h, rfl⟩

section
variable {P : Program} {call : XCallFn}

theorem evalX_congr {T T' : Tmps} {x : Operand} (h : ∀ t, x = .tmp t → tget T t = tget T' t) : evalX T x = evalX T' x := by
  cases x with
  | tmp t => simp only [evalX]; rw [h t rfl]
  | _ => rfl
theorem evalAll_congr {T T' : Tmps} : ∀ {l : List Operand}, (∀ x, x ∈ l → evalX T x = evalX T' x) → evalAll T l = evalAll T' l
  | [], _ => rfl
  | x :: r, h => by simp only [evalAll]; rw [h x (by simp), evalAll_congr fun y hy => h y (by simp [hy])]
theorem evalParts_congr {T T' : Tmps} : ∀ {l : List (Nat × Operand)}, (∀ x, x ∈ l.map (·.2) → evalX T x = evalX T' x) → evalParts T l = evalParts T' l
  | [], _ => rfl
  | (i, x) :: r, h => by simp only [evalParts]; rw [h x (by simp), evalParts_congr fun y hy => h y (by simp at hy ⊢; exact .inr hy)]
theorem evalOpt_congr {T T' : Tmps} {x : Option Operand} (h : ∀ y, x = some y → evalX T y = evalX T' y) : evalOpt T x = evalOpt T' x := by
  cases x with
  | none => rfl
  | some y => simp only [evalOpt]; rw [h y rfl]

theorem xop_congr {base : Nat} {o : Oper} {T T' : Tmps} {S : XS} (h : ∀ x, x ∈ o.op.operands.toList → evalX T x = evalX T' x) : xop P base o T S = xop P base o T' S := by
  obtain ⟨dst, op, type, pos, after, guard⟩ := o
  simp only at h
  cases op <;> simp only [xop]
  case build t ps => rw [evalParts_congr fun x hx => h x (by simpa [Op.operands] using hx)]
  case buildSlice t n ps => rw [evalParts_congr fun x hx => h x (by simpa [Op.operands] using hx)]
  case makeFunc fn first captured =>
    cases fn <;> simp only []
    rw [evalAll_congr fun x hx => h x (by simp only [Op.operands, Array.toList_append, List.mem_append]; exact .inr hx)]
  case call c =>
    split
    · rw [evalAll_congr fun x hx => h x (by simp only [Op.operands, Call.operands]; simp; exact .inr (by simpa using hx))]
    · rfl
  case slice t x lo hi mx =>
    rw [h x (by simp [Op.operands]), evalOpt_congr fun y hy => h y (by simp [Op.operands, hy]), evalOpt_congr (x := hi) fun y hy => h y (by simp [Op.operands, hy]), evalOpt_congr (x := mx) fun y hy => h y (by simp [Op.operands, hy])]
  all_goals simp only [Op.operands] at h
  all_goals first
    | rfl
    | (rename_i x; rw [h x (by simp)]; done)
    | (rename_i x y; rw [h x (by simp)]; done)
    | (rename_i x y; rw [h y (by simp)]; done)
    | (rename_i x y; rw [h x (by simp), h y (by simp)]; done)
    | (rename_i x y z; rw [h x (by simp)]; done)
    | (rename_i x y z; rw [h y (by simp)]; done)
    | (rename_i x y z; rw [h z (by simp)]; done)
    | (rename_i x y z; rw [h y (by simp), h z (by simp)]; done)
    | (rename_i x y z; rw [h x (by simp), h y (by simp)]; done)
    | (rename_i x y z; rw [h x (by simp), h y (by simp), h z (by simp)]; done)
    | (rename_i x y z u; rw [h x (by simp)]; done)
    | (rename_i x y z u; rw [h y (by simp)]; done)
    | (rename_i x y z u; rw [h y (by simp), h z (by simp)]; done)
    | (rename_i x y z u v; rw [h z (by simp), h u (by simp)]; done)

theorem xstep_congr {base : Nat} {o : Oper} {T T' : Tmps} {S : XS} (h : ∀ t, t ∈ reads o → tget T t = tget T' t) : xstep P call base o T S = xstep P call base o T' S := by
  have hx : ∀ x, x ∈ o.op.operands.toList → evalX T x = evalX T' x := fun x hx => evalX_congr fun t ht => h t (mem_reads (by rw [← ht]; exact hx))
  unfold xstep
  split
  · rename_i c hop
    split
    · rename_i f hf
      have hx' : ∀ x, x ∈ c.operands.toList → evalX T x = evalX T' x := fun x q => hx x (by rw [hop]; exact q)
      rw [evalAll_congr fun x q => hx' x (by simp only [Call.operands]; simp; exact .inr (by simpa using q)), hx' f (by simp [Call.operands, hf])]
    · exact xop_congr hx
  · exact xop_congr hx

/-- only what is looked at -/
noncomputable def maskT (rs : List Nat) (T : Tmps) : Tmps := rs.foldl (fun M t => tset M t (tget T t)) []

theorem tget_mask (rs : List Nat) (T : Tmps) : ∀ (M : Tmps), ∀ t, (t ∈ rs → tget (rs.foldl (fun M t => tset M t (tget T t)) M) t = tget T t) ∧
    (t ∉ rs → tget (rs.foldl (fun M t => tset M t (tget T t)) M) t = tget M t) := by
  induction rs with
  | nil => intro M t; exact ⟨fun q => (by cases q), fun _ => rfl⟩
  | cons r rs ih =>
    intro M t
    rw [List.foldl_cons]
    have ih' := ih (tset M r (tget T r)) t
    by_cases q : t ∈ rs
    · exact ⟨fun _ => ih'.1 q, fun hn => absurd (List.mem_cons_of_mem _ q) hn⟩
    · rw [ih'.2 q, tget_tset]
      refine ⟨fun hm => ?_, fun hm => ?_⟩
      · rcases List.mem_cons.1 hm with rfl | hm
        · simp
        · exact absurd hm q
      · rw [if_neg]; rintro rfl; exact hm (by simp)

theorem tget_maskT (rs : List Nat) (T : Tmps) (t : Nat) : tget (maskT rs T) t = if t ∈ rs then tget T t else .tuple [] := by
  have h := tget_mask rs T [] t
  split
  · exact h.1 (by assumption)
  · rw [maskT, h.2 (by assumption)]; rw [tget_nil]

def maskA (rs : List Nat) (a : Act) : Act := { a with tmps := a.tmps.mapIdx fun i v => if i ∈ rs then v else undef }

theorem getD_maskA (rs : List Nat) (a : Act) (t : Nat) : (maskA rs a).tmps.getD t undef = if t ∈ rs then a.tmps.getD t undef else undef := by
  simp only [maskA, Array.getD_eq_getD_getElem?, Array.getElem?_mapIdx]
  cases a.tmps[t]? with
  | none => simp
  | some v => simp

theorem eval_maskA {o : Oper} {a : Act} {x : Operand} (h : x ∈ o.op.operands) : (maskA (reads o) a).eval x = a.eval x := by
  cases x with
  | tmp t =>
    have : t ∈ reads o := mem_reads (by simpa using h)
    simp only [Act.eval]
    rw [getD_maskA, if_pos this]
  | _ => rfl

theorem tr_mask {ρ : Emb} {rs : List Nat} {T : Tmps} {a : Act} (h : ∀ t, t ∈ rs → (tget T t).live = true → VR ρ (tget T t) (a.tmps.getD t undef)) : TR ρ (maskT rs T) (maskA rs a).tmps := by
  intro t
  rw [tget_maskT, getD_maskA]
  split
  · exact h t (by assumption)
  · exact fun _ => VR.tuple [] [] .nil

end

section
variable {P : Program} {B : Nat} {w0 : World} {call : XCallFn}

/-- one operation, where only what it looks at is told -/
theorem xstep_wp2 (hc : CallOK P B w0 call) {base : Nat} {ρ : Emb} {S : XS} {w : World} (h : Rel B w0 ρ S w) (hb : base ≤ S.size) {o : Oper} (hs : ∀ cs b, o.op ≠ .select cs b) {T : Tmps} {a : Act} (hT : ∀ t, t ∈ reads o → (tget T t).live = true → VR ρ (tget T t) (a.tmps.getD t undef))
    {v : XV} {S' : XS} (hx : xstep P call base o T S = some (v, S')) {K : Act → World → Prop} {Q : Exit → Act → World → Prop}
    (hK : ∀ u w' ρ' W, VR ρ' v u → Rel B w0 ρ' S' w' → Ev base ρ S w ρ' S' w' W → S'.log = W ++ S.log → K (a.put o.dst u) w') : o.wp P a w K Q := by
  have he : execOp (maskA (reads o) a).eval o = execOp a.eval o := execOp_congr o hs fun x hx => eval_maskA hx
  have hx' : xstep P call base o (maskT (reads o) T) S = some (v, S') := by
    rw [← hx]
    exact xstep_congr fun t ht => by rw [tget_maskT, if_pos ht]
  exact xstep_wpA hc h hb (tr_mask hT) hx' he.symm hK

end
end Go.XM

namespace Go.XM
set_option linter.unusedVariables false
set_option linter.unusedSimpArgs false
open Go.RowKit
set_option linter.unusedVariables false

/-! ### who surely comes ahead -/
theorem predsFrom_old : ∀ (l : List Oper) (acc : List (List Nat)) (i : Nat), i < acc.length → (predsFrom acc l)[i]? = acc[i]?
  | [], acc, i, h => rfl
  | o :: l, acc, i, h => by
    rw [predsFrom, predsFrom_old l _ i (by simp; omega), List.getElem?_append_left h]

theorem predsFrom_new : ∀ (l : List Oper) (acc : List (List Nat)) (j : Nat) (o : Oper), l[j]? = some o → (∀ d, d ∈ directs o → d < acc.length + j) →
    (predsFrom acc l)[acc.length + j]? = some ((directs o).flatMap fun d => d :: (predsFrom acc l).getD d [])
  | [], acc, j, o, h, hd => by simp at h
  | o' :: l, acc, 0, o, h, hd => by
    simp at h
    subst h
    rw [predsFrom, predsFrom_old l _ _ (by simp)]
    simp only [Nat.add_zero] at hd ⊢
    rw [List.getElem?_append_right (by omega)]
    simp only [Nat.sub_self, List.getElem?_cons_zero, Option.some.injEq]
    rw [List.flatMap_def, List.flatMap_def]
    congr 1
    refine List.map_congr_left fun d hm => ?_
    congr 1
    rw [List.getD_eq_getElem?_getD, List.getD_eq_getElem?_getD, predsFrom_old l _ _ (by have := hd d hm; simp; omega), List.getElem?_append_left (hd d hm)]
  | o' :: l, acc, j + 1, o, h, hd => by
    simp at h
    have := predsFrom_new l (acc ++ [((directs o').flatMap fun k => k :: acc.getD k [])]) j o h (fun d hm => by have := hd d hm; simp; omega)
    rw [predsFrom]
    simp only [List.length_append, List.length_cons, List.length_nil] at this
    rw [show acc.length + (j + 1) = acc.length + (0 + 1) + j by omega]
    exact this

theorem pr_eq {ops : List Oper} {i : Nat} {o : Oper} (ho : ops[i]? = some o) (hd : ∀ d, d ∈ directs o → d < i) : (predsOf ops).getD i [] = (directs o).flatMap fun d => d :: (predsOf ops).getD d [] := by
  have := predsFrom_new ops [] i o ho (by simpa using hd)
  simp only [List.length_nil, Nat.zero_add] at this
  rw [List.getD_eq_getElem?_getD]
  unfold predsOf
  rw [this]
  rfl

theorem predsFrom_len : ∀ (l : List Oper) (acc : List (List Nat)), (predsFrom acc l).length = acc.length + l.length
  | [], acc => rfl
  | o :: l, acc => by rw [predsFrom, predsFrom_len l]; simp; omega

theorem pr_none {ops : List Oper} {i : Nat} (ho : ops[i]? = none) : (predsOf ops).getD i [] = [] := by
  rw [List.getElem?_eq_none_iff] at ho
  rw [List.getD_eq_getElem?_getD, List.getElem?_eq_none]
  · rfl
  · rw [predsOf, predsFrom_len]; simpa using ho

theorem pr_lt {ops : List Oper} (hd : ∀ (i : Nat) (o : Oper), ops[i]? = some o → ∀ d, d ∈ directs o → d < i) : ∀ (i k : Nat), k ∈ (predsOf ops).getD i [] → k < i := by
  intro i
  induction i using Nat.strongRecOn with
  | ind i ih =>
    intro k hk
    cases ho : ops[i]? with
    | none => rw [pr_none ho] at hk; cases hk
    | some o =>
      rw [pr_eq ho (hd i o ho), List.mem_flatMap] at hk
      obtain ⟨d, hm, hk⟩ := hk
      have hlt := hd i o ho d hm
      rcases List.mem_cons.1 hk with rfl | hk
      · exact hlt
      · have := ih d hlt k hk; omega

theorem pr_closed {ops : List Oper} (hd : ∀ (i : Nat) (o : Oper), ops[i]? = some o → ∀ d, d ∈ directs o → d < i) {D : Nat → Prop} (hD : ∀ k, D k → ∀ o, ops[k]? = some o → ∀ d, d ∈ directs o → D d) :
    ∀ (i : Nat), (∀ o, ops[i]? = some o → ∀ d, d ∈ directs o → D d) → ∀ k, k ∈ (predsOf ops).getD i [] → D k := by
  intro i
  induction i using Nat.strongRecOn with
  | ind i ih =>
    intro hi k hk
    cases ho : ops[i]? with
    | none => rw [pr_none ho] at hk; cases hk
    | some o =>
      rw [pr_eq ho (hd i o ho), List.mem_flatMap] at hk
      obtain ⟨d, hm, hk⟩ := hk
      have hDd := hi o ho d hm
      rcases List.mem_cons.1 hk with rfl | hk
      · exact hDd
      · exact ih d (hd i o ho d hm) (fun o' ho' d' hm' => hD d hDd o' ho' d' hm') k hk

theorem ordered_iff (pr : List (List Nat)) (i j : Nat) : ordered pr i j = true ↔ j ∈ pr.getD i [] ∨ i ∈ pr.getD j [] := by
  unfold ordered
  simp

theorem ordered_symm (pr : List (List Nat)) (i j : Nat) : ordered pr i j = ordered pr j i := by
  unfold ordered
  rw [Bool.or_comm]

def notSelect (o : Oper) : Bool := match o.op with | .select _ _ => false | _ => true

/-- the plain look at a region of open order -/
def goodDraw (n : Nat) (ops : Array Oper) : Bool :=
  let l := ops.toList
  let pr := predsOf l
  l.all (okDst n) && l.all notSelect &&
  (List.range l.length).all (fun i => match l[i]? with
    | none => true
    | some o => (directs o).all (fun d => d < i) &&
      (List.range l.length).all fun j => i == j || (match l[j]? with
        | none => true
        | some o' => match o'.dst with
          | none => true
          | some t => !((o.looksAt ops).contains t || o.dst == some t) || ordered pr i j))

structure Static (n : Nat) (ops : Array Oper) : Prop where
  dst : ∀ (i : Nat) (o : Oper), ops.toList[i]? = some o → okDst n o = true
  sel : ∀ (i : Nat) (o : Oper), ops.toList[i]? = some o → ∀ cs b, o.op ≠ .select cs b
  dir : ∀ (i : Nat) (o : Oper), ops.toList[i]? = some o → ∀ d, d ∈ directs o → d < i
  tmp : ∀ (i j : Nat) (o o' : Oper) (t : Nat), ops.toList[i]? = some o → ops.toList[j]? = some o' → i ≠ j → o'.dst = some t → (t ∈ o.looksAt ops ∨ o.dst = some t) → ordered (predsOf ops.toList) i j = true

theorem static_of {n : Nat} {ops : Array Oper} (h : goodDraw n ops = true) : Static n ops := by
  unfold goodDraw at h
  simp only [Bool.and_eq_true] at h
  obtain ⟨⟨h1, h2⟩, h3⟩ := h
  have key : ∀ (i : Nat) (o : Oper), ops.toList[i]? = some o → (directs o).all (fun d => d < i) = true ∧ _ := fun i o ho => by
    have hlt : i < ops.toList.length := by
      rcases Nat.lt_or_ge i ops.toList.length with q | q
      · exact q
      · rw [List.getElem?_eq_none q] at ho; cases ho
    have := List.all_eq_true.1 h3 i (List.mem_range.2 hlt)
    rw [ho] at this
    simp only [Bool.and_eq_true] at this
    exact this
  refine ⟨fun i o ho => List.all_eq_true.1 h1 o (List.mem_of_getElem? ho), fun i o ho cs b hq => ?_, fun i o ho d hd => ?_, fun i j o o' t ho ho' hne hdst ht => ?_⟩
  · have := List.all_eq_true.1 h2 o (List.mem_of_getElem? ho)
    unfold notSelect at this
    rw [hq] at this
    cases this
  · simpa using List.all_eq_true.1 (key i o ho).1 d hd
  · have hlt : j < ops.toList.length := by
      rcases Nat.lt_or_ge j ops.toList.length with q | q
      · exact q
      · rw [List.getElem?_eq_none q] at ho'; cases ho'
    have := List.all_eq_true.1 (key i o ho).2 j (List.mem_range.2 hlt)
    rw [ho'] at this
    simp only [hdst, Bool.or_eq_true, Bool.not_eq_true', beq_iff_eq] at this
    rcases this with q | q | q
    · exact absurd q hne
    · exfalso
      rw [Bool.or_eq_false_iff] at q
      rcases ht with ht | ht
      · have := q.1; simp [ht] at this
      · have := q.2; simp [ht] at this
    · exact q

end Go.XM
