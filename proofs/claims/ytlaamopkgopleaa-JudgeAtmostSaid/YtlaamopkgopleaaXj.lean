/- A plain machine beside the model, and that what it tells the model does: part Xj. Conditions: those of each theorem below. -/
import Derived.Test.YtlaamopkgopleaaXi
import Derived.Laws.BytesString
import Derived.Laws.Shifts
namespace Go.XM
set_option linter.unusedVariables false
set_option linter.unusedSimpArgs false
open Go.RowKit
set_option linter.unusedVariables false

section
variable {P : Program} {B : Nat} {w0 : World} {base : Nat} {ρ : Emb} {S : XS} {w : World}

/-! ### addresses -/
theorem xfieldAddr_sound (h : Rel B w0 ρ S w) {t : TypeId} {x v : XV} {u : Value} {f : Nat} (hv : VR ρ x u) (hx : xfieldAddr P t x f = some v) : Sim P B w0 base ρ S w (Instr.fieldAt t u f) v S := by
  unfold xfieldAddr at hx
  split at hx
  case h_3 => cases hx
  case h_2 fs tg cs o hu =>
    split at hx
    case h_2 => cases hx
    case h_1 fd hfd =>
    split at hx
    case h_2 => cases hx
    case h_1 n hn =>
    split at hx
    · cases hx
    rename_i hn0
    injection hx with hx
    subst hx
    cases hv with
    | rptr _ _ _ _ h1 =>
    cases h1 with
    | rptr _ _ _ _ us r off q1 q2 =>
    refine Sim.pure h (u := .pointer (some ⟨r, o + fd.offset + off, none⟩)) ?_ (.rptr _ _ _ _ (.rptr _ _ _ _ us r off q1 q2))
    have hsz : (sizeOf fd.type).run P w = .ok n w := run_size hn w
    have hadd : (⟨r, o + off, none⟩ : Addr).add fd.offset = ⟨r, o + fd.offset + off, none⟩ := by
      unfold Addr.add
      split
      · rename_i q; rw [q]; rfl
      · simp only [Addr.mk.injEq, true_and, and_true]; omega
    simp [Instr.fieldAt, run_underlying hu, hfd, Instr.sureAddr, fieldPlace, hsz, hn0, hadd]
  case h_1 fs b o hu =>
  split at hx
  case h_2 => cases hx
  case h_1 fd hfd =>
  split at hx
  case h_2 => cases hx
  case h_1 n hn =>
  split at hx
  · cases hx
  rename_i hn0
  injection hx with hx
  subst hx
  cases hv with
  | ptr _ _ e he =>
  refine Sim.pure h (u := .pointer (some (e.at (o + fd.offset)))) ?_ (.ptr _ _ _ he)
  have hsz : (sizeOf fd.type).run P w = .ok n w := run_size hn w
  simp [Instr.fieldAt, run_underlying hu, hfd, Instr.sureAddr, fieldPlace, hsz, hn0, at_add]

theorem loose_n (h : Rel B w0 ρ S w) {b : Nat} {e : Ent} (he : ρ b = some e) {cs : List XV} {esz n : Nat} (hg : S.get b = .cells cs (.loose esz n)) : ∃ rsz, e.loose = some (esz, n, rsz) ∧ B ≤ e.blk ∧ 0 < esz ∧ cs.length = n * esz ∧ Flat cs ∧ e.sh + n * esz ≤ rsz ∧
    ∀ j, j < rsz → (w.cell? ⟨e.blk, j, none⟩).isSome = true ∧ w.frozen? ⟨e.blk, j, none⟩ = false := by
  have hb := h.blk b e he
  rw [hg] at hb
  obtain ⟨⟨h1, h2, h3, h4, rsz, h5, h6, h7⟩, _⟩ := hb
  exact ⟨rsz, h5, h1, h2, h3, h4, h6, h7⟩

/-- the real cells of a loose row -/
theorem sl_cells (h : Rel B w0 ρ S w) {b : Nat} {u : Value} {cs : List XV} {esz n : Nat} (hv : VR ρ (.sl b) u) (hg : S.get b = .cells cs (.loose esz n)) :
    ∃ cap' us, ∃ en : Ent, ρ b = some en ∧ u = .slice (some (en.at 0)) n cap' ∧ n ≤ cap' ∧ (∃ rsz, en.loose = some (esz, n, rsz) ∧ en.sh + cap' * esz ≤ rsz) ∧ VLs ρ cs us ∧ us.length = n * esz ∧ ∀ j v, us[j]? = some v → w.cell? ((en.at 0).add j) = some v := by
  cases hv with
  | sl _ cap' en esz' n' rsz hen hl hnc hroom =>
  obtain ⟨rsz2, hl2, hB, hz, hcl, hfl, hin, hroomy⟩ := loose_n h hen hg
  have hl3 := hl
  rw [hl2] at hl3
  injection hl3 with hl3
  simp only [Prod.mk.injEq] at hl3
  obtain ⟨rfl, rfl, rfl⟩ := hl3
  have hblk := h.blk b en hen
  rw [hg] at hblk
  have hex : ∀ i, ∃ u, i < n * esz → w.cell? (en.at i) = some u := fun i => by
    by_cases q : i < n * esz
    · obtain ⟨u, hu⟩ := Option.isSome_iff_exists.1 (hroomy (i + en.sh) (by omega)).1
      exact ⟨u, fun _ => hu⟩
    · exact ⟨undef, fun z => absurd z q⟩
  obtain ⟨f, hf⟩ := Classical.axiomOfChoice hex
  refine ⟨cap', (List.range (n * esz)).map f, en, hen, rfl, hnc, ⟨_, hl2, hroom⟩, ⟨by simp [hcl], fun i x v hx hv hlv => ?_⟩, by simp, fun j v hj => ?_⟩
  · have hi : i < n * esz := by
      rcases Nat.lt_or_ge i (n * esz) with q | q
      · exact q
      · rw [List.getElem?_eq_none (by omega)] at hx; cases hx
    obtain ⟨u, q1, q2, _⟩ := hblk.2 i x hx hlv
    rw [hf i hi] at q1
    injection q1 with q1
    simp [hi] at hv
    rw [← hv, q1]
    exact q2
  · have hi : j < n * esz := by
      rcases Nat.lt_or_ge j (n * esz) with q | q
      · exact q
      · rw [List.getElem?_eq_none (by simpa using q)] at hj; cases hj
    simp [hi] at hj
    subst hj
    rw [at_add, Nat.zero_add]
    exact hf j hi

/-- the real cells of a plain row -/
theorem row_cells (h : Rel B w0 ρ S w) {t m : Bool} {cs : List XV} {len : Nat} {u : Value} (hv : VR ρ (.row t m cs len) u) :
    ∃ a cap us, u = .slice a len cap ∧ (m = true → cap = len) ∧ len ≤ cap ∧ VLs ρ cs us ∧ Flat cs ∧ (a = none → cs = [] ∧ len = 0 ∧ cap = 0) ∧ ∀ a', a = some a' → 0 < len → ∀ j v, us[j]? = some v → w.cell? (a'.add j) = some v := by
  cases hv with
  | row _ _ _ _ _ hd =>
  cases hd with
  | rowNil => exact ⟨none, 0, [], rfl, fun _ => rfl, Nat.le_refl _, .nil, (fun v hv => by cases hv), fun _ => ⟨rfl, rfl, rfl⟩, fun a' q => by cases q⟩
  | row _ _ _ _ _ us a cap q1 q2 q3 q4 q5 q6 =>
  refine ⟨some a, cap, us, rfl, q5, q4, q1.vls h.fz.ok, fun v hv hl => ⟨q6 v hv hl, ?_⟩, (fun q => by cases q), fun a' q hl j v hj => ?_⟩
  · obtain ⟨i, hi⟩ := List.mem_iff_getElem?.1 hv
    obtain ⟨_, _, hd⟩ := q1.get hi hl
    exact hd.plain
  injection q with q
  subst q
  obtain ⟨r, off, sp⟩ := a
  have hsp : sp = none := by
    rcases q3 with q3 | q3
    · omega
    · exact q3
  subst hsp
  have := h.fz.zc _ _ _ _ (q2 j v hj)
  unfold Addr.add
  split
  · rename_i z; subst z; simpa using this
  · exact this

theorem xindexAddr_sound (h : Rel B w0 ρ S w) {t : TypeId} {x i v : XV} {u j : Value} (hv : VR ρ x u) (hi : VR ρ i j) (hx : xindexAddr P S t x i = some v) : Sim P B w0 base ρ S w (Instr.indexAt t u j) v S := by
  unfold xindexAddr at hx
  split at hx
  case h_3 => cases hx
  case h_1 e k n hu =>
    split at hx
    case h_2 => cases hx
    case h_1 sz hsz =>
    have hr := run_size hsz w
    cases hi
    split at hx
    case h_5 => cases hx
    case h_1 b o len cap =>
      split at hx
      case isFalse => cases hx
      rename_i hb
      injection hx with hx
      subst hx
      cases hv with
      | slice _ _ _ _ en hen hlc =>
        refine Sim.pure h (u := .pointer (some (en.at (o + n.toNat * sz)))) ?_ (.ptr _ _ _ hen)
        simp [Instr.indexAt, asIntOf, run_underlying hu, hb, hr, at_add]
      | sliceZ _ _ en a hen => omega
    case h_2 b o len =>
      split at hx
      case isFalse => cases hx
      rename_i hb
      injection hx with hx
      subst hx
      cases hv with
      | part _ _ _ cap' en hen hlc =>
        refine Sim.pure h (u := .pointer (some (en.at (o + n.toNat * sz)))) ?_ (.ptr _ _ _ hen)
        simp [Instr.indexAt, asIntOf, run_underlying hu, hb, hr, at_add]
      | partZ _ _ _ en a hen => omega
    case h_3 b =>
      split at hx
      case h_2 => cases hx
      case h_1 cs esz len hg =>
      split at hx
      case isFalse => cases hx
      rename_i hb
      injection hx with hx
      subst hx
      cases hv with
      | sl _ cap' en esz' n' rsz hen hl _ _ =>
        obtain ⟨rsz2, hl2, _⟩ := loose_n h hen hg
        rw [hl] at hl2
        injection hl2 with hl2
        simp only [Prod.mk.injEq] at hl2
        obtain ⟨rfl, rfl, rfl⟩ := hl2
        refine Sim.pure h (u := .pointer (some (en.at (n.toNat * sz)))) ?_ (.ptr _ _ _ hen)
        simp [Instr.indexAt, asIntOf, run_underlying hu, hb, hr, at_add]
    case h_4 tg mm cs len =>
      split at hx
      case isFalse => cases hx
      rename_i hb
      injection hx with hx
      subst hx
      cases hv with
      | row _ _ _ _ _ h1 =>
      cases h1 with
      | rowNil => omega
      | row _ _ _ _ _ us a cap q1 q2 q3 q4 q5 q6 =>
      obtain ⟨r, off, sp⟩ := a
      have hsp : sp = none := by rcases q3 with q3 | q3; · omega
                                 · exact q3
      subst hsp
      refine Sim.pure h (u := .pointer (some ⟨r, n.toNat * sz + off, none⟩)) ?_ (.rptr _ _ _ _ (.rptr _ _ _ _ us r off q1 q2))
      have hadd : (⟨r, off, none⟩ : Addr).add (n.toNat * sz) = ⟨r, n.toNat * sz + off, none⟩ := by
        unfold Addr.add
        split
        · rename_i q; rw [q]; simp
        · simp only [Addr.mk.injEq, true_and, and_true]; omega
      simp [Instr.indexAt, asIntOf, run_underlying hu, hb, hr, hadd]
  case h_2 len e k n hu =>
    split at hx
    case h_2 => cases hx
    case h_1 sz hsz =>
    have hr := run_size hsz w
    cases hi
    split at hx
    case h_3 => cases hx
    case h_1 b o =>
      split at hx
      case isFalse => cases hx
      rename_i hb
      injection hx with hx
      subst hx
      cases hv with
      | ptr _ _ en hen =>
        refine Sim.pure h (u := .pointer (some (en.at (o + n.toNat * sz)))) ?_ (.ptr _ _ _ hen)
        simp [Instr.indexAt, asIntOf, run_underlying hu, hb, hr, at_add, Instr.sureAddr]
    case h_2 tg cs o =>
      split at hx
      case isFalse => cases hx
      rename_i hb
      injection hx with hx
      subst hx
      cases hv with
      | rptr _ _ _ _ h1 =>
      cases h1 with
      | rptr _ _ _ _ us r off q1 q2 =>
      refine Sim.pure h (u := .pointer (some ⟨r, o + n.toNat * sz + off, none⟩)) ?_ (.rptr _ _ _ _ (.rptr _ _ _ _ us r off q1 q2))
      have hadd : (⟨r, o + off, none⟩ : Addr).add (n.toNat * sz) = ⟨r, o + n.toNat * sz + off, none⟩ := by
        unfold Addr.add
        split
        · rename_i q; rw [q]; rfl
        · simp only [Addr.mk.injEq, true_and, and_true]; omega
      simp [Instr.indexAt, asIntOf, run_underlying hu, hb, hr, hadd, Instr.sureAddr]

theorem xpart_sound {t : TypeId} {cs : List XV} {us : Array Value} (hv : VRs ρ cs us.toList) {off : Nat} {v : XV} (hx : xpart P t cs off = some v) : ∃ u, (part t us off).run P w = .ok u w ∧ VR ρ v u := by
  unfold xpart at hx
  split at hx
  case h_3 => cases hx
  case h_1 hag =>
    split at hx
    case h_2 => cases hx
    case h_1 n hn =>
    split at hx
    case isFalse => cases hx
    rename_i hle
    injection hx with hx
    subst hx
    refine ⟨.agg (us.extract off (off + n)), by simp [part, run_agg hag, run_size hn], ?_⟩
    have := VR.agg (ρ := ρ) _ _ ((hv.drop off).take n)
    have e : (us.extract off (off + n)) = (List.take n (List.drop off us.toList)).toArray := by
      apply Array.toList_inj.1
      simp [Array.toList_extract, List.extract_eq_take_drop]
    rw [e]; exact this
  case h_2 hag =>
    obtain ⟨u, hu, hr⟩ := hv.get hx
    have hu' : us[off]? = some u := by simpa using hu
    exact ⟨u, by simp [part, run_agg hag, hu'], hr⟩

theorem xfield_sound (h : Rel B w0 ρ S w) {t : TypeId} {x v : XV} {u : Value} {f : Nat} (hv : VR ρ x u) (hx : xfield P t x f = some v) : Sim P B w0 base ρ S w (Instr.field t u f) v S := by
  unfold xfield at hx
  split at hx
  case h_2 => cases hx
  case h_1 fs cs hu =>
  split at hx
  case h_2 => cases hx
  case h_1 fd hfd =>
  cases hv with
  | agg _ ds hd =>
  obtain ⟨u, h1, h2⟩ := xpart_sound (P := P) (w := w) (us := ds.toArray) (by simpa using hd) hx
  refine Sim.pure h (u := u) ?_ h2
  simp [Instr.field, run_underlying hu, hfd, asAgg, h1]

theorem xindex_sound (h : Rel B w0 ρ S w) {t : TypeId} {x i v : XV} {u j : Value} (hv : VR ρ x u) (hi : VR ρ i j) (hx : xindex P t x i = some v) : Sim P B w0 base ρ S w (Instr.index t u j) v S := by
  unfold xindex at hx
  split at hx
  case h_3 => cases hx
  case h_1 s k n hu =>
    split at hx
    case isFalse => cases hx
    rename_i h0
    split at hx
    case h_2 => cases hx
    case h_1 b hb =>
    injection hx with hx
    subst hx
    cases hi
    cases hv
    have hb' : (⟨s.toArray⟩ : ByteArray)[n.toNat]? = some b := by
      have hlt : n.toNat < s.length := by
        rcases Nat.lt_or_ge n.toNat s.length with hq | hq
        · exact hq
        · rw [List.getElem?_eq_none hq] at hb; cases hb
      have : n.toNat < (⟨s.toArray⟩ : ByteArray).size := by simpa [ByteArray.size] using hlt
      rw [getElem?_pos (⟨s.toArray⟩ : ByteArray) n.toNat this]
      rw [List.getElem?_eq_getElem hlt] at hb
      injection hb with hb
      rw [← hb]; rfl
    refine Sim.pure h (u := .int .u8 b.toNat) ?_ (.int _ _)
    simp [Instr.index, asIntOf, run_underlying hu, h0, hb']
  case h_2 len e cs k n hu =>
    split at hx
    case h_2 => cases hx
    case h_1 sz hsz =>
    split at hx
    case isFalse => cases hx
    rename_i hb
    cases hi
    cases hv with
    | agg _ ds hd =>
    obtain ⟨u, h1, h2⟩ := xpart_sound (P := P) (w := w) (us := ds.toArray) (by simpa using hd) hx
    refine Sim.pure h (u := u) ?_ h2
    simp [Instr.index, asIntOf, run_underlying hu, hb, run_size hsz, h1]

/-! ### cuts -/
theorem xbound_sound {v : XV} {u : Value} (hv : VR ρ v u) {y n : Nat} (code : BoundsCode) (hx : xbound v y = some n) {y' : Nat} (hy : y ≤ y') : (Instr.sliceBound u y' code).run P w = .ok n w ∧ n ≤ y := by
  unfold xbound at hx
  split at hx
  case h_2 => cases hx
  case h_1 k i =>
  split at hx
  case isFalse => cases hx
  rename_i hb
  injection hx with hx
  subst hx
  cases hv
  refine ⟨?_, by omega⟩
  have : 0 ≤ i ∧ i ≤ (y' : Int) := by omega
  simp [Instr.sliceBound, asIntOf, this]

def OR (ρ : Emb) : Option XV → Option Value → Prop
  | none, none => True
  | some v, some u => VR ρ v u
  | _, _ => False

theorem xbounds_sound {lo hi mx : Option XV} {lo' hi' mx' : Option Value} (h1 : OR ρ lo lo') (h2 : OR ρ hi hi') (h3 : OR ρ mx mx') (isS : Bool) {len cap l h m : Nat}
    (hx : xbounds len cap lo hi mx = some (l, h, m)) {len' cap' : Nat} (hl : len' = len) (hcap : cap ≤ cap') (hlc : len ≤ cap) :
    (Instr.sliceBounds isS len' cap' lo' hi' mx').run P w = .ok (l, h, if mx.isSome then m else cap') w ∧ l ≤ h ∧ h ≤ m ∧ m ≤ cap ∧ (mx = none → m = cap) := by
  subst hl
  unfold xbounds at hx
  cases mx with
  | none =>
    cases mx' with
    | some _ => exact h3.elim
    | none =>
    simp only at hx
    cases hi with
    | none =>
      cases hi' with
      | some _ => exact h2.elim
      | none =>
      simp only at hx
      cases lo with
      | none =>
        cases lo' with
        | some _ => exact h1.elim
        | none =>
        simp only [Option.some.injEq, Prod.mk.injEq] at hx
        obtain ⟨rfl, rfl, rfl⟩ := hx
        exact ⟨by simp [Instr.sliceBounds], by omega, hlc, Nat.le_refl _, fun _ => rfl⟩
      | some a =>
        cases lo' with
        | none => exact h1.elim
        | some a' =>
        simp only at hx
        split at hx
        · cases hx
        rename_i n hn
        simp only [Option.some.injEq, Prod.mk.injEq] at hx
        obtain ⟨rfl, rfl, rfl⟩ := hx
        have hb := xbound_sound (P := P) (w := w) h1 .sliceB hn (Nat.le_refl _)
        exact ⟨by simp [Instr.sliceBounds, hb.1], by omega, hlc, Nat.le_refl _, fun _ => rfl⟩
    | some c =>
      cases hi' with
      | none => exact h2.elim
      | some c' =>
      simp only at hx
      split at hx
      · cases hx
      rename_i hh hhe
      have hb1 := xbound_sound (P := P) (w := w) h2 (if isS then .sliceAcap else .sliceAlen) hhe hcap
      cases lo with
      | none =>
        cases lo' with
        | some _ => exact h1.elim
        | none =>
        simp only [Option.some.injEq, Prod.mk.injEq] at hx
        obtain ⟨rfl, rfl, rfl⟩ := hx
        exact ⟨by simp [Instr.sliceBounds, hb1.1], by omega, hb1.2, Nat.le_refl _, fun _ => rfl⟩
      | some a =>
        cases lo' with
        | none => exact h1.elim
        | some a' =>
        simp only at hx
        split at hx
        · cases hx
        rename_i n hn
        simp only [Option.some.injEq, Prod.mk.injEq] at hx
        obtain ⟨rfl, rfl, rfl⟩ := hx
        have hb := xbound_sound (P := P) (w := w) h1 .sliceB hn (Nat.le_refl _)
        exact ⟨by simp [Instr.sliceBounds, hb1.1, hb.1], by omega, hb1.2, Nat.le_refl _, fun _ => rfl⟩
  | some q =>
    cases mx' with
    | none => exact h3.elim
    | some q' =>
    simp only at hx
    split at hx
    · cases hx
    rename_i mm hm
    have hb0 := xbound_sound (P := P) (w := w) h3 (if isS then .slice3Acap else .slice3Alen) hm hcap
    cases hi with
    | none => simp only at hx; cases hx
    | some c =>
      cases hi' with
      | none => exact h2.elim
      | some c' =>
      simp only at hx
      split at hx
      · cases hx
      rename_i hh hhe
      have hb1 := xbound_sound (P := P) (w := w) h2 .slice3B hhe (Nat.le_refl _)
      cases lo with
      | none =>
        cases lo' with
        | some _ => exact h1.elim
        | none =>
        simp only [Option.some.injEq, Prod.mk.injEq] at hx
        obtain ⟨rfl, rfl, rfl⟩ := hx
        exact ⟨by simp [Instr.sliceBounds, hb0.1, hb1.1], by omega, hb1.2, hb0.2, fun q => by cases q⟩
      | some a =>
        cases lo' with
        | none => exact h1.elim
        | some a' =>
        simp only at hx
        split at hx
        · cases hx
        rename_i n hn
        simp only [Option.some.injEq, Prod.mk.injEq] at hx
        obtain ⟨rfl, rfl, rfl⟩ := hx
        have hb := xbound_sound (P := P) (w := w) h1 .slice3C hn (Nat.le_refl _)
        exact ⟨by simp [Instr.sliceBounds, hb0.1, hb1.1, hb.1], by omega, hb1.2, hb0.2, fun q => by cases q⟩

end
end Go.XM
