/- A plain machine beside the model, and that what it tells the model does: part XC. Conditions: those of each theorem below. -/
import Derived.Test.YtdbmldhfoifpnaaDoorXB
import Derived.Laws.BytesString
import Derived.Laws.Shifts
import Derived.Orders
import Derived.LoopN
namespace Go.XM
set_option linter.unusedVariables false
set_option linter.unusedSimpArgs false
open Go.RowKit
set_option linter.unusedVariables false

section
variable {P : Program} {B : Nat} {w0 : World} {base : Nat} {ρ : Emb} {S : XS} {w : World}

/-! ### addresses -/
theorem xfieldAddr_sound (h : Rel B w0 ρ S w) {t : TypeId} {x v : XV} {u : Value} {f : Nat} (hv : VR ρ x u) (hx : xfieldAddr P t x f = some v) : Sim P B w0 base ρ S w (Instr.fieldAt t u f) v S := by
  unfold xfieldAddr at hx
  split at hx
  case h_3 => cases hx
  case h_2 fs tg cs o hu =>
    split at hx
    case h_2 => cases hx
    case h_1 fd hfd =>
    split at hx
    case h_2 => cases hx
    case h_1 n hn =>
    split at hx
    · cases hx
    rename_i hn0
    injection hx with hx
    subst hx
    cases hv with
    | rptr _ _ _ _ h1 =>
    cases h1 with
    | rptr _ _ _ _ us r off q1 q2 =>
    refine Sim.pure h (u := .pointer (some ⟨r, o + fd.offset + off, none⟩)) ?_ (.rptr _ _ _ _ (.rptr _ _ _ _ us r off q1 q2))
    have hsz : (sizeOf fd.type).run P w = .ok n w := run_size hn w
    have hadd : (⟨r, o + off, none⟩ : Addr).add fd.offset = ⟨r, o + fd.offset + off, none⟩ := by
      unfold Addr.add
      split
      · rename_i q; rw [q]; rfl
      · simp only [Addr.mk.injEq, true_and, and_true]; omega
    simp [Instr.fieldAt, run_underlying hu, hfd, Instr.sureAddr, fieldPlace, hsz, hn0, hadd]
  case h_1 fs b o hu =>
  split at hx
  case h_2 => cases hx
  case h_1 fd hfd =>
  split at hx
  case h_2 => cases hx
  case h_1 n hn =>
  split at hx
  · cases hx
  rename_i hn0
  injection hx with hx
  subst hx
  cases hv with
  | ptr _ _ e he =>
  refine Sim.pure h (u := .pointer (some (e.at (o + fd.offset)))) ?_ (.ptr _ _ _ he)
  have hsz : (sizeOf fd.type).run P w = .ok n w := run_size hn w
  simp [Instr.fieldAt, run_underlying hu, hfd, Instr.sureAddr, fieldPlace, hsz, hn0, at_add]

theorem loose_n (h : Rel B w0 ρ S w) {b : Nat} {e : Ent} (he : ρ b = some e) {cs : List XV} {esz n : Nat} (hg : S.get b = .cells cs (.loose esz n)) : ∃ rsz, e.loose = some (esz, n, rsz) ∧ B ≤ e.blk ∧ 0 < esz ∧ cs.length = n * esz ∧ Flat cs ∧ e.sh + n * esz ≤ rsz ∧
    ∀ j, j < rsz → (w.cell? ⟨e.blk, j, none⟩).isSome = true ∧ w.frozen? ⟨e.blk, j, none⟩ = false := by
  have hb := h.blk b e he
  rw [hg] at hb
  obtain ⟨⟨h1, h2, h3, h4, rsz, h5, h6, h7⟩, _⟩ := hb
  exact ⟨rsz, h5, h1, h2, h3, h4, h6, h7⟩

/-- the real cells of a loose row -/
theorem sl_cells (h : Rel B w0 ρ S w) {b : Nat} {u : Value} {cs : List XV} {esz n : Nat} (hv : VR ρ (.sl b) u) (hg : S.get b = .cells cs (.loose esz n)) :
    ∃ cap' us, ∃ en : Ent, ρ b = some en ∧ u = .slice (some (en.at 0)) n cap' ∧ n ≤ cap' ∧ (∃ rsz, en.loose = some (esz, n, rsz) ∧ en.sh + cap' * esz ≤ rsz) ∧ VLs ρ cs us ∧ us.length = n * esz ∧ ∀ j v, us[j]? = some v → w.cell? ((en.at 0).add j) = some v := by
  cases hv with
  | sl _ cap' en esz' n' rsz hen hl hnc hroom =>
  obtain ⟨rsz2, hl2, hB, hz, hcl, hfl, hin, hroomy⟩ := loose_n h hen hg
  have hl3 := hl
  rw [hl2] at hl3
  injection hl3 with hl3
  simp only [Prod.mk.injEq] at hl3
  obtain ⟨rfl, rfl, rfl⟩ := hl3
  have hblk := h.blk b en hen
  rw [hg] at hblk
  have hex : ∀ i, ∃ u, i < n * esz → w.cell? (en.at i) = some u := fun i => by
    by_cases q : i < n * esz
    · obtain ⟨u, hu⟩ := Option.isSome_iff_exists.1 (hroomy (i + en.sh) (by omega)).1
      exact ⟨u, fun _ => hu⟩
    · exact ⟨undef, fun z => absurd z q⟩
  obtain ⟨f, hf⟩ := Classical.axiomOfChoice hex
  refine ⟨cap', (List.range (n * esz)).map f, en, hen, rfl, hnc, ⟨_, hl2, hroom⟩, ⟨by simp [hcl], fun i x v hx hv hlv => ?_⟩, by simp, fun j v hj => ?_⟩
  · have hi : i < n * esz := by
      rcases Nat.lt_or_ge i (n * esz) with q | q
      · exact q
      · rw [List.getElem?_eq_none (by omega)] at hx; cases hx
    obtain ⟨u, q1, q2, _⟩ := hblk.2 i x hx hlv
    rw [hf i hi] at q1
    injection q1 with q1
    simp [hi] at hv
    rw [← hv, q1]
    exact q2
  · have hi : j < n * esz := by
      rcases Nat.lt_or_ge j (n * esz) with q | q
      · exact q
      · rw [List.getElem?_eq_none (by simpa using q)] at hj; cases hj
    simp [hi] at hj
    subst hj
    rw [at_add, Nat.zero_add]
    exact hf j hi

/-- the real cells of a plain row -/
theorem row_cells (h : Rel B w0 ρ S w) {t m : Bool} {cs : List XV} {len : Nat} {u : Value} (hv : VR ρ (.row t m cs len) u) :
    ∃ a cap us, u = .slice a len cap ∧ (m = true → cap = len) ∧ len ≤ cap ∧ VLs ρ cs us ∧ Flat cs ∧ (a = none → cs = [] ∧ len = 0 ∧ cap = 0) ∧ ∀ a', a = some a' → 0 < len → ∀ j v, us[j]? = some v → w.cell? (a'.add j) = some v := by
  cases hv with
  | row _ _ _ _ _ hd =>
  cases hd with
  | rowNil => exact ⟨none, 0, [], rfl, fun _ => rfl, Nat.le_refl _, .nil, (fun v hv => by cases hv), fun _ => ⟨rfl, rfl, rfl⟩, fun a' q => by cases q⟩
  | row _ _ _ _ _ us a cap q1 q2 q3 q4 q5 q6 =>
  refine ⟨some a, cap, us, rfl, q5, q4, q1.vls h.fz.ok, fun v hv hl => ⟨q6 v hv hl, ?_⟩, (fun q => by cases q), fun a' q hl j v hj => ?_⟩
  · obtain ⟨i, hi⟩ := List.mem_iff_getElem?.1 hv
    obtain ⟨_, _, hd⟩ := q1.get hi hl
    exact hd.plain
  injection q with q
  subst q
  obtain ⟨r, off, sp⟩ := a
  have hsp : sp = none := by
    rcases q3 with q3 | q3
    · omega
    · exact q3
  subst hsp
  have := h.fz.zc _ _ _ _ (q2 j v hj)
  unfold Addr.add
  split
  · rename_i z; subst z; simpa using this
  · exact this

theorem xindexAddr_sound (h : Rel B w0 ρ S w) {t : TypeId} {x i v : XV} {u j : Value} (hv : VR ρ x u) (hi : VR ρ i j) (hx : xindexAddr P S t x i = some v) : Sim P B w0 base ρ S w (Instr.indexAt t u j) v S := by
  unfold xindexAddr at hx
  split at hx
  case h_3 => cases hx
  case h_1 e k n hu =>
    split at hx
    case h_2 => cases hx
    case h_1 sz hsz =>
    have hr := run_size hsz w
    cases hi
    split at hx
    case h_5 => cases hx
    case h_1 b o len cap =>
      split at hx
      case isFalse => cases hx
      rename_i hb
      injection hx with hx
      subst hx
      cases hv with
      | slice _ _ _ _ en hen hlc =>
        refine Sim.pure h (u := .pointer (some (en.at (o + n.toNat * sz)))) ?_ (.ptr _ _ _ hen)
        simp [Instr.indexAt, asIntOf, run_underlying hu, hb, hr, at_add]
      | sliceZ _ _ en a hen => omega
    case h_2 b o len =>
      split at hx
      case isFalse => cases hx
      rename_i hb
      injection hx with hx
      subst hx
      cases hv with
      | part _ _ _ cap' en hen hlc =>
        refine Sim.pure h (u := .pointer (some (en.at (o + n.toNat * sz)))) ?_ (.ptr _ _ _ hen)
        simp [Instr.indexAt, asIntOf, run_underlying hu, hb, hr, at_add]
      | partZ _ _ _ en a hen => omega
    case h_3 b =>
      split at hx
      case h_2 => cases hx
      case h_1 cs esz len hg =>
      split at hx
      case isFalse => cases hx
      rename_i hb
      injection hx with hx
      subst hx
      cases hv with
      | sl _ cap' en esz' n' rsz hen hl _ _ =>
        obtain ⟨rsz2, hl2, _⟩ := loose_n h hen hg
        rw [hl] at hl2
        injection hl2 with hl2
        simp only [Prod.mk.injEq] at hl2
        obtain ⟨rfl, rfl, rfl⟩ := hl2
        refine Sim.pure h (u := .pointer (some (en.at (n.toNat * sz)))) ?_ (.ptr _ _ _ hen)
        simp [Instr.indexAt, asIntOf, run_underlying hu, hb, hr, at_add]
    case h_4 tg mm cs len =>
      split at hx
      case isFalse => cases hx
      rename_i hb
      injection hx with hx
      subst hx
      cases hv with
      | row _ _ _ _ _ h1 =>
      cases h1 with
      | rowNil => omega
      | row _ _ _ _ _ us a cap q1 q2 q3 q4 q5 q6 =>
      obtain ⟨r, off, sp⟩ := a
      have hsp : sp = none := by rcases q3 with q3 | q3; · omega
                                 · exact q3
      subst hsp
      refine Sim.pure h (u := .pointer (some ⟨r, n.toNat * sz + off, none⟩)) ?_ (.rptr _ _ _ _ (.rptr _ _ _ _ us r off q1 q2))
      have hadd : (⟨r, off, none⟩ : Addr).add (n.toNat * sz) = ⟨r, n.toNat * sz + off, none⟩ := by
        unfold Addr.add
        split
        · rename_i q; rw [q]; simp
        · simp only [Addr.mk.injEq, true_and, and_true]; omega
      simp [Instr.indexAt, asIntOf, run_underlying hu, hb, hr, hadd]
  case h_2 len e k n hu =>
    split at hx
    case h_2 => cases hx
    case h_1 sz hsz =>
    have hr := run_size hsz w
    cases hi
    split at hx
    case h_3 => cases hx
    case h_1 b o =>
      split at hx
      case isFalse => cases hx
      rename_i hb
      injection hx with hx
      subst hx
      cases hv with
      | ptr _ _ en hen =>
        refine Sim.pure h (u := .pointer (some (en.at (o + n.toNat * sz)))) ?_ (.ptr _ _ _ hen)
        simp [Instr.indexAt, asIntOf, run_underlying hu, hb, hr, at_add, Instr.sureAddr]
    case h_2 tg cs o =>
      split at hx
      case isFalse => cases hx
      rename_i hb
      injection hx with hx
      subst hx
      cases hv with
      | rptr _ _ _ _ h1 =>
      cases h1 with
      | rptr _ _ _ _ us r off q1 q2 =>
      refine Sim.pure h (u := .pointer (some ⟨r, o + n.toNat * sz + off, none⟩)) ?_ (.rptr _ _ _ _ (.rptr _ _ _ _ us r off q1 q2))
      have hadd : (⟨r, o + off, none⟩ : Addr).add (n.toNat * sz) = ⟨r, o + n.toNat * sz + off, none⟩ := by
        unfold Addr.add
        split
        · rename_i q; rw [q]; rfl
        · simp only [Addr.mk.injEq, true_and, and_true]; omega
      simp [Instr.indexAt, asIntOf, run_underlying hu, hb, hr, hadd, Instr.sureAddr]

theorem xpart_sound {t : TypeId} {cs : List XV} {us : Array Value} (hv : VRs ρ cs us.toList) {off : Nat} {v : XV} (hx : xpart P t cs off = some v) : ∃ u, (part t us off).run P w = .ok u w ∧ VR ρ v u := by
  unfold xpart at hx
  split at hx
  case h_3 => cases hx
  case h_1 hag =>
    split at hx
    case h_2 => cases hx
    case h_1 n hn =>
    split at hx
    case isFalse => cases hx
    rename_i hle
    injection hx with hx
    subst hx
    refine ⟨.agg (us.extract off (off + n)), by simp [part, run_agg hag, run_size hn], ?_⟩
    have := VR.agg (ρ := ρ) _ _ ((hv.drop off).take n)
    have e : (us.extract off (off + n)) = (List.take n (List.drop off us.toList)).toArray := by
      apply Array.toList_inj.1
      simp [Array.toList_extract, List.extract_eq_take_drop]
    rw [e]; exact this
  case h_2 hag =>
    obtain ⟨u, hu, hr⟩ := hv.get hx
    have hu' : us[off]? = some u := by simpa using hu
    exact ⟨u, by simp [part, run_agg hag, hu'], hr⟩

theorem xfield_sound (h : Rel B w0 ρ S w) {t : TypeId} {x v : XV} {u : Value} {f : Nat} (hv : VR ρ x u) (hx : xfield P t x f = some v) : Sim P B w0 base ρ S w (Instr.field t u f) v S := by
  unfold xfield at hx
  split at hx
  case h_2 => cases hx
  case h_1 fs cs hu =>
  split at hx
  case h_2 => cases hx
  case h_1 fd hfd =>
  cases hv with
  | agg _ ds hd =>
  obtain ⟨u, h1, h2⟩ := xpart_sound (P := P) (w := w) (us := ds.toArray) (by simpa using hd) hx
  refine Sim.pure h (u := u) ?_ h2
  simp [Instr.field, run_underlying hu, hfd, asAgg, h1]

theorem xindex_sound (h : Rel B w0 ρ S w) {t : TypeId} {x i v : XV} {u j : Value} (hv : VR ρ x u) (hi : VR ρ i j) (hx : xindex P t x i = some v) : Sim P B w0 base ρ S w (Instr.index t u j) v S := by
  unfold xindex at hx
  split at hx
  case h_3 => cases hx
  case h_1 s k n hu =>
    split at hx
    case isFalse => cases hx
    rename_i h0
    split at hx
    case h_2 => cases hx
    case h_1 b hb =>
    injection hx with hx
    subst hx
    cases hi
    cases hv
    have hb' : (⟨s.toArray⟩ : ByteArray)[n.toNat]? = some b := by
      have hlt : n.toNat < s.length := by
        rcases Nat.lt_or_ge n.toNat s.length with hq | hq
        · exact hq
        · rw [List.getElem?_eq_none hq] at hb; cases hb
      have : n.toNat < (⟨s.toArray⟩ : ByteArray).size := by simpa [ByteArray.size] using hlt
      rw [getElem?_pos (⟨s.toArray⟩ : ByteArray) n.toNat this]
      rw [List.getElem?_eq_getElem hlt] at hb
      injection hb with hb
      rw [← hb]; rfl
    refine Sim.pure h (u := .int .u8 b.toNat) ?_ (.int _ _)
    simp [Instr.index, asIntOf, run_underlying hu, h0, hb']
  case h_2 len e cs k n hu =>
    split at hx
    case h_2 => cases hx
    case h_1 sz hsz =>
    split at hx
    case isFalse => cases hx
    rename_i hb
    cases hi
    cases hv with
    | agg _ ds hd =>
    obtain ⟨u, h1, h2⟩ := xpart_sound (P := P) (w := w) (us := ds.toArray) (by simpa using hd) hx
    refine Sim.pure h (u := u) ?_ h2
    simp [Instr.index, asIntOf, run_underlying hu, hb, run_size hsz, h1]

/-! ### cuts -/
theorem xbound_sound {v : XV} {u : Value} (hv : VR ρ v u) {y n : Nat} (code : BoundsCode) (hx : xbound v y = some n) {y' : Nat} (hy : y ≤ y') : (Instr.sliceBound u y' code).run P w = .ok n w ∧ n ≤ y := by
  unfold xbound at hx
  split at hx
  case h_2 => cases hx
  case h_1 k i =>
  split at hx
  case isFalse => cases hx
  rename_i hb
  injection hx with hx
  subst hx
  cases hv
  refine ⟨?_, by omega⟩
  have : 0 ≤ i ∧ i ≤ (y' : Int) := by omega
  simp [Instr.sliceBound, asIntOf, this]

def OR (ρ : Emb) : Option XV → Option Value → Prop
  | none, none => True
  | some v, some u => VR ρ v u
  | _, _ => False

theorem xbounds_sound {lo hi mx : Option XV} {lo' hi' mx' : Option Value} (h1 : OR ρ lo lo') (h2 : OR ρ hi hi') (h3 : OR ρ mx mx') (isS : Bool) {len cap l h m : Nat}
    (hx : xbounds len cap lo hi mx = some (l, h, m)) {len' cap' : Nat} (hl : len' = len) (hcap : cap ≤ cap') (hlc : len ≤ cap) :
    (Instr.sliceBounds isS len' cap' lo' hi' mx').run P w = .ok (l, h, if mx.isSome then m else cap') w ∧ l ≤ h ∧ h ≤ m ∧ m ≤ cap ∧ (mx = none → m = cap) := by
  subst hl
  unfold xbounds at hx
  cases mx with
  | none =>
    cases mx' with
    | some _ => exact h3.elim
    | none =>
    simp only at hx
    cases hi with
    | none =>
      cases hi' with
      | some _ => exact h2.elim
      | none =>
      simp only at hx
      cases lo with
      | none =>
        cases lo' with
        | some _ => exact h1.elim
        | none =>
        simp only [Option.some.injEq, Prod.mk.injEq] at hx
        obtain ⟨rfl, rfl, rfl⟩ := hx
        exact ⟨by simp [Instr.sliceBounds], by omega, hlc, Nat.le_refl _, fun _ => rfl⟩
      | some a =>
        cases lo' with
        | none => exact h1.elim
        | some a' =>
        simp only at hx
        split at hx
        · cases hx
        rename_i n hn
        simp only [Option.some.injEq, Prod.mk.injEq] at hx
        obtain ⟨rfl, rfl, rfl⟩ := hx
        have hb := xbound_sound (P := P) (w := w) h1 .sliceB hn (Nat.le_refl _)
        exact ⟨by simp [Instr.sliceBounds, hb.1], by omega, hlc, Nat.le_refl _, fun _ => rfl⟩
    | some c =>
      cases hi' with
      | none => exact h2.elim
      | some c' =>
      simp only at hx
      split at hx
      · cases hx
      rename_i hh hhe
      have hb1 := xbound_sound (P := P) (w := w) h2 (if isS then .sliceAcap else .sliceAlen) hhe hcap
      cases lo with
      | none =>
        cases lo' with
        | some _ => exact h1.elim
        | none =>
        simp only [Option.some.injEq, Prod.mk.injEq] at hx
        obtain ⟨rfl, rfl, rfl⟩ := hx
        exact ⟨by simp [Instr.sliceBounds, hb1.1], by omega, hb1.2, Nat.le_refl _, fun _ => rfl⟩
      | some a =>
        cases lo' with
        | none => exact h1.elim
        | some a' =>
        simp only at hx
        split at hx
        · cases hx
        rename_i n hn
        simp only [Option.some.injEq, Prod.mk.injEq] at hx
        obtain ⟨rfl, rfl, rfl⟩ := hx
        have hb := xbound_sound (P := P) (w := w) h1 .sliceB hn (Nat.le_refl _)
        exact ⟨by simp [Instr.sliceBounds, hb1.1, hb.1], by omega, hb1.2, Nat.le_refl _, fun _ => rfl⟩
  | some q =>
    cases mx' with
    | none => exact h3.elim
    | some q' =>
    simp only at hx
    split at hx
    · cases hx
    rename_i mm hm
    have hb0 := xbound_sound (P := P) (w := w) h3 (if isS then .slice3Acap else .slice3Alen) hm hcap
    cases hi with
    | none => simp only at hx; cases hx
    | some c =>
      cases hi' with
      | none => exact h2.elim
      | some c' =>
      simp only at hx
      split at hx
      · cases hx
      rename_i hh hhe
      have hb1 := xbound_sound (P := P) (w := w) h2 .slice3B hhe (Nat.le_refl _)
      cases lo with
      | none =>
        cases lo' with
        | some _ => exact h1.elim
        | none =>
        simp only [Option.some.injEq, Prod.mk.injEq] at hx
        obtain ⟨rfl, rfl, rfl⟩ := hx
        exact ⟨by simp [Instr.sliceBounds, hb0.1, hb1.1], by omega, hb1.2, hb0.2, fun q => by cases q⟩
      | some a =>
        cases lo' with
        | none => exact h1.elim
        | some a' =>
        simp only at hx
        split at hx
        · cases hx
        rename_i n hn
        simp only [Option.some.injEq, Prod.mk.injEq] at hx
        obtain ⟨rfl, rfl, rfl⟩ := hx
        have hb := xbound_sound (P := P) (w := w) h1 .slice3C hn (Nat.le_refl _)
        exact ⟨by simp [Instr.sliceBounds, hb0.1, hb1.1, hb.1], by omega, hb1.2, hb0.2, fun q => by cases q⟩

end
end Go.XM

namespace Go.XM
set_option linter.unusedVariables false
set_option linter.unusedSimpArgs false
open Go.RowKit
set_option linter.unusedVariables false

theorem extract_list (s : List UInt8) (l h : Nat) : (⟨s.toArray⟩ : ByteArray).extract l h = ⟨((s.take h).drop l).toArray⟩ := by
  rw [ByteArray.extract_mk]
  congr 1
  apply Array.toList_inj.1
  simp [List.drop_take]

section
variable {P : Program} {B : Nat} {w0 : World} {base : Nat} {ρ : Emb} {S : XS} {w : World}

theorem xslicePart_sound (h : Rel B w0 ρ S w) {t e : TypeId} {n b o len : Nat} {v : XV} {u : Value} {lo hi mx : Option XV} {lo' hi' mx' : Option Value} (hv : VR ρ (.part b o len) u) (h1 : OR ρ lo lo') (h2 : OR ρ hi hi') (h3 : OR ρ mx mx')
    (he : sliceElem P t = some e) (hn : tsize P e = some n) (hx : xslicePart n b o len lo hi mx = some v) : Sim P B w0 base ρ S w (Instr.sliceAt t u lo' hi' mx') v S := by
  have hu := slice_elem he
  have hsz := run_size hn w
  have real : ∃ a cap' en, ρ b = some en ∧ u = .slice (some a) len cap' ∧ len ≤ cap' ∧ (a = en.at o ∨ len = 0) := by
    cases hv with
    | part _ _ _ cap' en hen hlc => exact ⟨_, cap', en, hen, rfl, hlc, .inl rfl⟩
    | partZ _ _ cap' en a hen => exact ⟨a, cap', en, hen, rfl, Nat.zero_le _, .inr rfl⟩
  obtain ⟨a, cap', en, hen, rfl, hlc, ha⟩ := real
  unfold xslicePart at hx
  split at hx
  · split at hx
    case h_2 => cases hx
    case h_1 l hh m hb =>
    injection hx with hx
    subst hx
    cases mx' with
    | some _ => exact h3.elim
    | none =>
    obtain ⟨r1, r2, r3, r4, r5⟩ := xbounds_sound (P := P) (w := w) (mx := none) (mx' := none) h1 h2 trivial true hb (len' := len) (cap' := cap') rfl hlc (Nat.le_refl _)
    simp only [Option.isSome_none, Bool.false_eq_true, if_false] at r1
    have hrun : (Instr.sliceAt t (.slice (some a) len cap') lo' hi' none).run P w = .ok (.slice (some (if cap' = l then a else a.add (l * n))) (hh - l) (cap' - l)) w := by
      simp only [Instr.sliceAt, Sem.run_bind, run_underlying hu, Result.andThen_ok, Instr.slice, r1, hsz, Sem.run_pure]
      by_cases hq : cap' = l <;> simp [hq]
    refine Sim.pure h hrun ?_
    rcases Nat.eq_zero_or_pos (hh - l) with z | z
    · rw [z]; exact .partZ _ _ _ en _ hen
    · rw [if_neg (by omega)]
      rcases ha with rfl | ha
      · rw [at_add]; exact .part _ _ _ _ en hen (by omega)
      · omega
  · rename_i vq
    split at hx
    case h_2 => cases hx
    case h_1 l hh m hb =>
    injection hx with hx
    subst hx
    cases mx' with
    | none => exact h3.elim
    | some vq' =>
    obtain ⟨r1, r2, r3, r4, r5⟩ := xbounds_sound (P := P) (w := w) (mx := some vq) (mx' := some vq') h1 h2 h3 true hb (len' := len) (cap' := cap') rfl hlc (Nat.le_refl _)
    simp only [Option.isSome_some, if_true] at r1
    have hrun : (Instr.sliceAt t (.slice (some a) len cap') lo' hi' (some vq')).run P w = .ok (.slice (some (if m = l then a else a.add (l * n))) (hh - l) (m - l)) w := by
      simp only [Instr.sliceAt, Sem.run_bind, run_underlying hu, Result.andThen_ok, Instr.slice, r1, hsz, Sem.run_pure]
      by_cases hq : m = l <;> simp [hq]
    refine Sim.pure h hrun ?_
    by_cases hq : m = l
    · have e1 : hh - l = 0 := by omega
      have e2 : m - l = 0 := by omega
      rw [if_pos hq, if_pos hq, e1, e2]
      exact .sliceZ _ _ en _ hen
    · rw [if_neg hq, if_neg hq]
      rcases ha with rfl | ha
      · rw [at_add]; exact .slice _ _ _ _ en hen (by omega)
      · omega

theorem xslice_sound (h : Rel B w0 ρ S w) {t : TypeId} {x v : XV} {u : Value} {lo hi mx : Option XV} {lo' hi' mx' : Option Value} (hv : VR ρ x u) (h1 : OR ρ lo lo') (h2 : OR ρ hi hi') (h3 : OR ρ mx mx')
    (hx : xslice P S t x lo hi mx = some v) : Sim P B w0 base ρ S w (Instr.sliceAt t u lo' hi' mx') v S := by
  unfold xslice at hx
  split at hx
  case h_7 => cases hx
  case h_1 s =>
    split at hx
    case isFalse => cases hx
    rename_i hc
    simp only [Bool.and_eq_true, Option.isNone_iff_eq_none] at hc
    obtain ⟨hst, rfl⟩ := hc
    split at hx
    case h_2 => cases hx
    case h_1 l hh m hb =>
    injection hx with hx
    subst hx
    cases hv
    cases mx' with
    | some _ => exact h3.elim
    | none =>
    have hs : (⟨s.toArray⟩ : ByteArray).size = s.length := by simp [ByteArray.size]
    obtain ⟨r1, r2, r3, r4, r5⟩ := xbounds_sound (P := P) (w := w) (mx := none) (mx' := none) h1 h2 trivial false hb (len' := s.length) (cap' := s.length) rfl (Nat.le_refl _) (Nat.le_refl _)
    have hu := is_str hst
    refine Sim.pure h (u := .string ⟨((s.take hh).drop l).toArray⟩) ?_ (.str _)
    simp only [Option.isSome_none, Bool.false_eq_true, if_false] at r1
    simp [Instr.sliceAt, run_underlying hu, Instr.slice, hs, r1, extract_list]
  case h_2 =>
    split at hx
    case h_2 => cases hx
    case h_1 e he =>
    split at hx
    case h_2 => cases hx
    case h_1 n q hn hb =>
    obtain ⟨l, hh, m⟩ := q
    injection hx with hx
    subst hx
    cases hv
    obtain ⟨r1, r2, r3, r4, r5⟩ := xbounds_sound (P := P) (w := w) h1 h2 h3 true hb (len' := 0) (cap' := 0) rfl (Nat.le_refl _) (Nat.le_refl _)
    have hl : l = 0 := by omega
    have hhh : hh = 0 := by omega
    have hm : m = 0 := by omega
    subst hl; subst hhh; subst hm
    have hu := slice_elem he
    refine Sim.pure h (u := .slice none 0 0) ?_ .nilSlice
    simp only [Instr.sliceAt, Sem.run_bind, run_underlying hu, Result.andThen_ok, Instr.slice, r1, run_size hn, Sem.run_pure]
    simp
  case h_3 b o len cap =>
    split at hx
    case h_2 => cases hx
    case h_1 e he =>
    have hu := slice_elem he
    split at hx
    case h_2 => cases hx
    case h_1 n hn =>
    have hsz := run_size hn w
    split at hx
    case isFalse => cases hx
    rename_i hlc
    split at hx
    case h_2 => cases hx
    case h_1 l hh m hb =>
    injection hx with hx
    subst hx
    obtain ⟨r1, r2, r3, r4, r5⟩ := xbounds_sound (P := P) (w := w) h1 h2 h3 true hb (len' := len) (cap' := cap) rfl (Nat.le_refl _) hlc
    have hmm : (if mx.isSome then m else cap) = m := by
      cases mx with
      | none => simp [r5 rfl]
      | some _ => simp
    rw [hmm] at r1
    have hrun : ∀ a, (Instr.sliceAt t (.slice (some a) len cap) lo' hi' mx').run P w = .ok (.slice (some (if m = l then a else a.add (l * n))) (hh - l) (m - l)) w := fun a => by
      simp only [Instr.sliceAt, Sem.run_bind, run_underlying hu, Result.andThen_ok, Instr.slice, r1, hsz, Sem.run_pure]
      by_cases hq : m = l <;> simp [hq]
    cases hv with
    | slice _ _ _ _ en hen hlc' =>
      refine Sim.pure h (hrun _) ?_
      by_cases hq : m = l
      · rw [if_pos hq, if_pos hq]
        exact .slice _ _ _ _ en hen (by omega)
      · rw [if_neg hq, if_neg hq, at_add]
        exact .slice _ _ _ _ en hen (by omega)
    | sliceZ _ _ en a hen =>
      have e1 : m = l := by omega
      have e2 : hh - l = 0 := by omega
      have e3 : m - l = 0 := by omega
      refine Sim.pure h (hrun _) ?_
      rw [if_pos e1, if_pos e1, e2, e3]
      exact .sliceZ _ _ en a hen
  case h_4 b =>
    split at hx
    case h_2 => cases hx
    case h_1 e he =>
    have hu := slice_elem he
    split at hx
    case h_2 => cases hx
    case h_1 n hn =>
    have hsz := run_size hn w
    split at hx
    · rename_i hc
      simp only [Bool.and_eq_true, Option.isNone_iff_eq_none] at hc
      obtain ⟨⟨rfl, rfl⟩, rfl⟩ := hc
      injection hx with hx
      subst hx
      cases lo' with
      | some _ => exact h1.elim
      | none =>
      cases hi' with
      | some _ => exact h2.elim
      | none =>
      cases mx' with
      | some _ => exact h3.elim
      | none =>
      cases hv with
      | sl _ cap' en esz k rsz hen hl hnc hroom =>
      refine Sim.pure h (u := .slice (some (en.at 0)) k cap') ?_ (.sl _ _ _ _ _ _ hen hl hnc hroom)
      simp only [Instr.sliceAt, Sem.run_bind, run_underlying hu, Result.andThen_ok, Instr.slice, Instr.sliceBounds, hsz, Sem.run_pure]
      by_cases hq : cap' = 0 <;> simp [hq, Addr.add]
    · split at hx
      case h_2 => cases hx
      case h_1 cs esz len hg =>
      cases hv with
      | sl _ cap' en esz' n' rsz hen hl hnc _ =>
        obtain ⟨rsz2, hl2, _⟩ := loose_n h hen hg
        rw [hl] at hl2
        injection hl2 with hl2
        simp only [Prod.mk.injEq] at hl2
        obtain ⟨rfl, rfl, rfl⟩ := hl2
        exact xslicePart_sound h (.part _ _ _ _ _ hen hnc) h1 h2 h3 he hn hx
  case h_5 b o len =>
    split at hx
    case h_2 => cases hx
    case h_1 e he =>
    split at hx
    case h_2 => cases hx
    case h_1 n hn =>
    exact xslicePart_sound h hv h1 h2 h3 he hn hx
  case h_6 tg mm cs len =>
    split at hx
    case h_2 => cases hx
    case h_1 e he =>
    have hu := slice_elem he
    split at hx
    case h_2 => cases hx
    case h_1 n hn =>
    have hsz := run_size hn w
    split at hx
    case h_2 => cases hx
    case h_1 l hh m hb =>
    injection hx with hx
    subst hx
    cases hv with
    | row _ _ _ _ _ hd =>
    cases hd with
    | rowNil =>
      obtain ⟨r1, r2, r3, r4, r5⟩ := xbounds_sound (P := P) (w := w) h1 h2 h3 true hb (len' := 0) (cap' := 0) rfl (Nat.le_refl _) (Nat.le_refl _)
      have hl : l = 0 := by omega
      have hhh : hh = 0 := by omega
      have hm : m = 0 := by omega
      subst hl; subst hhh; subst hm
      refine Sim.pure h (u := .slice none 0 0) ?_ ?_
      · simp only [Instr.sliceAt, Sem.run_bind, run_underlying hu, Result.andThen_ok, Instr.slice, r1, hsz, Sem.run_pure]
        simp
      · simp only [Nat.zero_mul, List.drop_zero, Nat.sub_self, List.take_zero]
        exact .row _ _ _ _ _ (.rowNil _ _ _)
    | row _ _ _ _ _ us a cap q1 q2 q3 q4 q5 q6 =>
    obtain ⟨r1, r2, r3, r4, r5⟩ := xbounds_sound (P := P) (w := w) h1 h2 h3 true hb (len' := len) (cap' := cap) rfl q4 (Nat.le_refl _)
    have hrun : (Instr.sliceAt t (.slice (some a) len cap) lo' hi' mx').run P w = .ok (.slice (some (if (if mx.isSome then m else cap) = l then a else a.add (l * n))) (hh - l) ((if mx.isSome then m else cap) - l)) w := by
      simp only [Instr.sliceAt, Sem.run_bind, run_underlying hu, Result.andThen_ok, Instr.slice, r1, hsz, Sem.run_pure]
      by_cases hq : (if mx.isSome then m else cap) = l <;> simp [hq]
    refine Sim.pure h hrun (.row _ _ _ _ _ ?_)
    have hlen : ∀ i v, ((us.drop (l * n)).take ((hh - l) * n))[i]? = some v → us[l * n + i]? = some v ∧ 0 < hh - l := fun i v hi => by
      rw [List.getElem?_take] at hi
      split at hi
      · rename_i q
        rw [List.getElem?_drop] at hi
        refine ⟨hi, ?_⟩
        rcases Nat.eq_zero_or_pos (hh - l) with z | z
        · rw [z] at q; omega
        · exact z
      · cases hi
    refine .row _ _ _ _ _ ((us.drop (l * n)).take ((hh - l) * n)) _ _ (q1.cut _ _) (fun i v hi => ?_) ?_ ?_ ?_ ?_
    · obtain ⟨k1, k2⟩ := hlen i v hi
      have hz := q2 _ _ k1
      have hcl : ¬ ((if mx.isSome then m else cap) = l) := by
        split <;> omega
      rw [if_neg hcl]
      unfold Addr.add
      split
      · rename_i z; rw [z] at hz; simpa using hz
      · show ρ.z tg a.block (a.off + l * n + i) = some v
        rw [Nat.add_assoc]; exact hz
    · rcases q3 with q3 | q3
      · exact .inl (by omega)
      · refine .inr ?_
        have hadd : ∀ k, (a.add k).spot = none := fun k => by unfold Addr.add; split; exact q3; rfl
        by_cases z : (if mx.isSome = true then m else cap) = l
        · rw [if_pos z]; exact q3
        · rw [if_neg z]; exact hadd _
    · split <;> omega
    · cases mx with
      | none =>
        intro hm
        simp only [Bool.and_eq_true, beq_iff_eq] at hm
        have := q5 hm.1
        simp; omega
      | some _ =>
        intro hm
        simp only [beq_iff_eq] at hm
        simp; omega
    · intro v hv hl
      exact q6 v (List.mem_of_mem_drop (List.mem_of_mem_take hv)) hl

end
end Go.XM

namespace Go.XM
set_option linter.unusedVariables false
set_option linter.unusedSimpArgs false
open Go.RowKit
set_option linter.unusedVariables false

section
variable {P : Program} {B : Nat} {w0 : World} {base : Nat} {ρ : Emb} {S : XS} {w : World}

/-! ### comparing -/
theorem toList_arr (s : List UInt8) : (⟨s.toArray⟩ : ByteArray).toList = s := by simp [ByteArray.toList_eq]

theorem vr_rptr {t : Bool} {cs : List XV} {o : Nat} {u : Value} (h : VR ρ (.rptr t cs o) u) : ∃ a, u = .pointer (some a) := by
  cases h with
  | rptr _ _ _ _ h1 => cases h1; exact ⟨_, rfl⟩

theorem vr_int {x : XV} {k : IntKind} {n : Int} (h : VR ρ x (.int k n)) : x = .int k n := by
  cases h with
  | int => rfl
  | row _ _ _ _ _ h1 => cases h1
  | rptr _ _ _ _ h1 => cases h1
theorem vr_str {x : XV} {s : ByteArray} (h : VR ρ x (.string s)) : ∃ l, x = .str l := by
  cases h with
  | str => exact ⟨_, rfl⟩
  | row _ _ _ _ _ h1 => cases h1
  | rptr _ _ _ _ h1 => cases h1
theorem vr_nilIface {x : XV} (h : VR ρ x .nilIface) : x = .nilIface := by
  cases h with
  | nilIface => rfl
  | row _ _ _ _ _ h1 => cases h1
  | rptr _ _ _ _ h1 => cases h1
theorem vr_agg {x : XV} {us : Array Value} (h : VR ρ x (.agg us)) : ∃ l, x = .agg l := by
  cases h with
  | agg => exact ⟨_, rfl⟩
  | row _ _ _ _ _ h1 => cases h1
  | rptr _ _ _ _ h1 => cases h1
theorem vr_float {x : XV} {k : FloatKind} {a} (h : VR ρ x (.float k a)) : False := by
  cases h with
  | row _ _ _ _ _ h1 => cases h1
  | rptr _ _ _ _ h1 => cases h1
theorem vr_complex {x : XV} {k} {a b} (h : VR ρ x (.complex k a b)) : False := by
  cases h with
  | row _ _ _ _ _ h1 => cases h1
  | rptr _ _ _ _ h1 => cases h1

theorem xEqFields_sound (rec : TypeId → XV → XV → Option Bool) (d' : Nat)
    (hrec : ∀ t x y u v r, VR ρ x u → VR ρ y v → rec t x y = some r → (Op.equalIn d' t u v).run P w = .ok r w)
    {xs ys : List XV} {us vs : Array Value} (hx : VRs ρ xs us.toList) (hy : VRs ρ ys vs.toList) :
    ∀ (fs : List Field) (r : Bool), xEqFields P rec xs ys fs = some r → (Op.eqFields d' us vs fs).run P w = .ok r w
  | [], r, h => by simp only [xEqFields] at h; injection h with h; subst h; rfl
  | f :: fs, r, h => by
    simp only [xEqFields] at h
    split at h
    · rename_i hn
      split at h
      case h_2 => cases h
      case h_1 a b ha hb =>
      obtain ⟨u, hu, hur⟩ := xpart_sound (P := P) (w := w) hx ha
      obtain ⟨v, hv, hvr⟩ := xpart_sound (P := P) (w := w) hy hb
      split at h
      · rename_i hr
        have := hrec _ _ _ _ _ _ hur hvr hr
        have ih := xEqFields_sound rec d' hrec hx hy fs r h
        simp [Op.eqFields, hn, hu, hv, this, ih]
      · rename_i hr
        injection h with h
        subst h
        have := hrec _ _ _ _ _ _ hur hvr hr
        simp [Op.eqFields, hn, hu, hv, this]
      · cases h
    · rename_i hn
      have ih := xEqFields_sound rec d' hrec hx hy fs r h
      simp [Op.eqFields, hn, ih]

set_option maxHeartbeats 1000000 in
theorem xEqIn_sound : ∀ (d : Nat) (d' : Nat), d ≤ d' → ∀ (t : TypeId) (x y : XV) (u v : Value) (r : Bool), VR ρ x u → VR ρ y v → xEqIn P d t x y = some r → (Op.equalIn d' t u v).run P w = .ok r w
  | 0, _, _, t, x, y, u, v, r, hx, hy, h => by simp [xEqIn] at h
  | d + 1, 0, hd, _, _, _, _, _, _, _, _, _ => by omega
  | d + 1, d' + 1, hd, t, x, y, u, v, r, hx, hy, h => by
    unfold xEqIn at h
    split at h
    case h_1 hu => injection h with h; subst h; cases hx; cases hy; simp [Op.equalIn, run_underlying hu]
    case h_2 hu =>
      split at h
      · rename_i hk; injection h with h; subst h; cases hx; cases hy; simp [Op.equalIn, run_underlying hu, hk]
      · cases h
    case h_3 hu => injection h with h; subst h; cases hx; cases hy; simp only [Op.equalIn, Sem.run_bind, run_underlying hu, Result.andThen_ok, beq_toListBytes, toList_arr]; rfl
    case h_4 hu => injection h with h; subst h; cases hx; cases hy; simp [Op.equalIn, run_underlying hu]
    case h_5 hu => injection h with h; subst h; cases hx; cases hy; simp [Op.equalIn, run_underlying hu]
    case h_6 hu => injection h with h; subst h; cases hx; cases hy; simp [Op.equalIn, run_underlying hu]
    case h_7 hu => injection h with h; subst h; cases hx; obtain ⟨_, rfl⟩ := vr_rptr hy; simp [Op.equalIn, run_underlying hu]
    case h_8 hu => injection h with h; subst h; cases hy; obtain ⟨_, rfl⟩ := vr_rptr hx; simp [Op.equalIn, run_underlying hu]
    case h_9 hu => injection h with h; subst h; cases hx; cases hy; simp [Op.equalIn, run_underlying hu]
    case h_10 hu => injection h with h; subst h; cases hx; cases hy <;> simp [Op.equalIn, run_underlying hu]
    case h_12 hu => injection h with h; subst h; cases hx; cases hy <;> simp [Op.equalIn, run_underlying hu]
    case h_14 hu => injection h with h; subst h; cases hx; cases hy <;> simp [Op.equalIn, run_underlying hu]
    case h_11 hu => injection h with h; subst h; cases hy; cases hx <;> simp [Op.equalIn, run_underlying hu]
    case h_13 hu => injection h with h; subst h; cases hy; cases hx <;> simp [Op.equalIn, run_underlying hu]
    case h_15 hu => injection h with h; subst h; cases hy; cases hx <;> simp [Op.equalIn, run_underlying hu]
    case h_16 hu => injection h with h; subst h; cases hx; cases hy; simp [Op.equalIn, run_underlying hu]
    case h_17 hu => injection h with h; subst h; cases hx; cases hy; simp [Op.equalIn, run_underlying hu]
    case h_18 tx vx ty vy hu =>
      cases hx with
      | iface _ _ a ha =>
      cases hy with
      | iface _ _ b hb =>
      split at h
      · rename_i hne
        injection h with h
        subst h
        simp [Op.equalIn, run_underlying hu, hne]
      · rename_i hne
        have he : tx = ty := by simpa using hne
        subst he
        split at h
        · rename_i i hi
          split at h
          · rename_i hc
            have := xEqIn_sound d d' (by omega) tx vx vy a b r ha hb h
            simp [Op.equalIn, run_underlying hu, run_info hi, hc, this]
          · cases h
        · cases h
    case h_19 fs xs ys hu =>
      split at h
      · cases h
      rename_i hs
      simp only [Bool.or_eq_true, not_or, Bool.not_eq_true] at hs
      cases hx with
      | agg _ us hus =>
      cases hy with
      | agg _ vs hvs =>
      have hf : P.underlying t = some (.struct (P.fieldsOf t)) := by simp [Program.fieldsOf, hu]
      have hfe : P.fieldsOf t = fs := by simp [Program.fieldsOf, hu]
      rw [run_equalIn_struct w d' t us.toArray vs.toArray hf hs.1, hfe]
      exact xEqFields_sound (xEqIn P d) d' (fun t x y u v r a b c => xEqIn_sound d d' (by omega) t x y u v r a b c) (by simpa using hus) (by simpa using hvs) fs.toList r h
    case h_20 => cases h

theorem bitsX_sound {op : BinOp} {k : IntKind} {a b : Int} {v : XV} (h : bitsX op k a b = some v) : ∃ n, v = .int k n ∧ (Op.intBits op k a b).run P w = .ok (.int k n) w := by
  unfold bitsX at h
  split at h <;> first | cases h | skip
  all_goals exact ⟨_, rfl, rfl⟩

theorem eqGuard_int (op : BinOp) (t : TypeId) (x y : Operand) (k k' : IntKind) (a b : Int) : (eqGuard op t x y (.int k a) (.int k' b)).run P w = .ok () w := by
  cases op <;> rfl
theorem eqGuard_str (op : BinOp) (t : TypeId) (x y : Operand) (a b : ByteArray) : (eqGuard op t x y (.string a) (.string b)).run P w = .ok () w := by
  cases op <;> rfl
theorem eqGuard_plain (op : BinOp) (hop : op = .eql ∨ op = .neq) (t : TypeId) (x y : Operand) (u v : Value) (h1 : ∀ (hu : u = .nilIface) (hv : v = .nilIface), False)
    (h2 : ∀ us vs, u = .agg us → v = .agg vs → P.eqGuardType P.depth t = false) : (eqGuard op t x y u v).run P w = .ok () w := by
  have key : (match u, v with
    | .nilIface, .nilIface =>
      if (x matches .const _) || (y matches .const _) then (pure () : Sem Unit) else do
      if ← Op.eqGuardIn Op.maxDepth t u v then unsupported (.noEntry "binop/eql: two nil values of an interface type with methods, neither of them the literal nil")
    | .agg _, .agg _ => do
      if !(← program).eqGuardType (← program).depth t then pure () else
      if ← Op.eqGuardIn Op.maxDepth t u v then unsupported (.noEntry "binop/eql: two nil values of an interface type with methods, in a part of a struct or an array")
    | _, _ => pure ()).run P w = .ok () w := by
    split
    · exact (h1 rfl rfl).elim
    · rename_i us vs
      have := h2 us vs rfl rfl
      simp [this]
    · rfl
  rcases hop with rfl | rfl <;> exact key

/-- what the comparison's guard looks for does not come up -/
theorem xEqIn_guard {d : Nat} {t : TypeId} {x y : XV} {u v : Value} {r : Bool} (hx : VR ρ x u) (hy : VR ρ y v) (h : xEqIn P d t x y = some r) :
    (∀ (hu : u = .nilIface) (hv : v = .nilIface), False) ∧ ∀ us vs, u = .agg us → v = .agg vs → P.eqGuardType P.depth t = false := by
  cases d with
  | zero => simp [xEqIn] at h
  | succ d =>
  constructor
  · rintro rfl rfl
    have e1 := vr_nilIface hx
    have e2 := vr_nilIface hy
    subst e1
    subst e2
    unfold xEqIn at h
    split at h <;> first | cases h | skip
    all_goals simp_all
  · rintro us vs rfl rfl
    obtain ⟨l1, e1⟩ := vr_agg hx
    obtain ⟨l2, e2⟩ := vr_agg hy
    subst e1
    subst e2
    unfold xEqIn at h
    split at h <;> first | cases h | skip
    all_goals simp_all

theorem xbin_int {op : BinOp} {t : TypeId} {k k' : IntKind} {a b : Int} {v : XV} (hb : xbin P op t (.int k a) (.int k' b) = some v) :
    ∃ r, (binOp op t (.int k a) (.int k' b)).run P w = .ok r w ∧ VR ρ v r := by
  cases op
  case shl | shr =>
    simp only [xbin] at hb
    split at hb
    · cases hb
    rename_i hn
    injection hb with hb
    subst hb
    exact ⟨_, by simp only [binOp, Op.shift, if_neg hn]; rfl, .int _ _⟩
  case quo | rem =>
    simp only [xbin] at hb
    split at hb
    · cases hb
    rename_i hk
    have hk' : k = k' := by simpa using hk
    subst hk'
    split at hb
    · cases hb
    rename_i h0
    injection hb with hb
    subst hb
    exact ⟨_, by simp only [binOp, ne_eq, not_true_eq_false, if_false, Op.intDiv, if_neg h0]; rfl, .int _ _⟩
  case and | or | xor | andNot =>
    simp only [xbin] at hb
    split at hb
    · cases hb
    rename_i hk
    have hk' : k = k' := by simpa using hk
    subst hk'
    obtain ⟨n, rfl, hr⟩ := bitsX_sound (P := P) (w := w) hb
    exact ⟨_, by simp only [binOp, ne_eq, not_true_eq_false, if_false]; exact hr, .int _ _⟩
  all_goals
    simp only [xbin, ilt_eq, ile_eq] at hb
    split at hb
    · cases hb
    rename_i hk
    have hk' : k = k' := by simpa using hk
    subst hk'
    injection hb with hb
    subst hb
    exact ⟨_, by simp only [binOp, ne_eq, not_true_eq_false, if_false, Op.intArith, Op.intCmp]; rfl, by constructor⟩

theorem xbin_str {op : BinOp} {t : TypeId} {a b : List UInt8} {v : XV} (hb : xbin P op t (.str a) (.str b) = some v) :
    ∃ r, (binOp op t (.string ⟨a.toArray⟩) (.string ⟨b.toArray⟩)).run P w = .ok r w ∧ VR ρ v r := by
  have hs : ∀ s : List UInt8, (⟨s.toArray⟩ : ByteArray).size = s.length := fun s => by simp [ByteArray.size]
  cases op
  case add =>
    simp only [xbin] at hb
    split at hb
    case isFalse => cases hb
    rename_i hle
    injection hb with hb
    subst hb
    refine ⟨.string ⟨(a ++ b).toArray⟩, ?_, .str _⟩
    have hmax : IntKind.i64.max = 9223372036854775807 := rfl
    have hn : ¬ (((⟨a.toArray⟩ : ByteArray).size + (⟨b.toArray⟩ : ByteArray).size : Nat) : Int) > IntKind.i64.max := by rw [hs, hs, hmax]; omega
    have happ : (⟨a.toArray⟩ : ByteArray) ++ ⟨b.toArray⟩ = ⟨(a ++ b).toArray⟩ := by
      apply ByteArray.ext
      simp [ByteArray.data_append]
    simp only [binOp, Op.stringOp, if_neg hn, happ]
    rfl
  all_goals first
    | (simp only [xbin] at hb
       injection hb with hb
       subst hb
       exact ⟨_, by simp only [binOp, Op.stringOp, toList_arr]; rfl, by constructor⟩)
    | (simp [xbin] at hb)

theorem xbin_sound (h : Rel B w0 ρ S w) {op : BinOp} {t : TypeId} {x y v : XV} {u u' : Value} (ox oy : Operand) (hx : VR ρ x u) (hy : VR ρ y u') (hb : xbin P op t x y = some v) :
    Sim P B w0 base ρ S w (do eqGuard op t ox oy u u'; binOp op t u u') v S := by
  by_cases hints : ∃ k a k' b, x = .int k a ∧ y = .int k' b
  · obtain ⟨k, a, k', b, rfl, rfl⟩ := hints
    cases hx; cases hy
    obtain ⟨r, h1, h2⟩ := xbin_int (ρ := ρ) (w := w) hb
    exact Sim.pure h (by simp only [Sem.run_bind, eqGuard_int, Result.andThen_ok]; exact h1) h2
  by_cases hstrs : ∃ a b, x = .str a ∧ y = .str b
  · obtain ⟨a, b, rfl, rfl⟩ := hstrs
    cases hx; cases hy
    obtain ⟨r, h1, h2⟩ := xbin_str (ρ := ρ) (w := w) hb
    exact Sim.pure h (by simp only [Sem.run_bind, eqGuard_str, Result.andThen_ok]; exact h1) h2
  have key : (op = .eql ∨ op = .neq) ∧ ∃ r, xEqIn P 100 t x y = some r ∧ v = .bool (if op = .eql then r else !r) := by
    unfold xbin at hb
    split at hb
    case h_1 k a k' b => exact absurd ⟨_, _, _, _, rfl, rfl⟩ hints
    case h_2 k a k' b => exact absurd ⟨_, _, _, _, rfl, rfl⟩ hints
    case h_3 k a k' b => exact absurd ⟨_, _, _, _, rfl, rfl⟩ hints
    case h_4 a b => exact absurd ⟨_, _, rfl, rfl⟩ hstrs
    case h_5 a b => exact absurd ⟨_, _, rfl, rfl⟩ hstrs
    case h_6 a b => exact absurd ⟨_, _, rfl, rfl⟩ hstrs
    case h_7 a b => exact absurd ⟨_, _, rfl, rfl⟩ hstrs
    case h_8 a b => exact absurd ⟨_, _, rfl, rfl⟩ hstrs
    case h_9 a b => exact absurd ⟨_, _, rfl, rfl⟩ hstrs
    case h_10 a b => exact absurd ⟨_, _, rfl, rfl⟩ hstrs
    case h_11 =>
      split at hb
      · rename_i r hr; injection hb with hb; exact ⟨.inl rfl, r, hr, by simp [← hb]⟩
      · cases hb
    case h_12 =>
      split at hb
      · rename_i r hr; injection hb with hb; exact ⟨.inr rfl, r, hr, by simp [← hb]⟩
      · cases hb
    case h_13 => cases hb
  obtain ⟨hop, r, hr, rfl⟩ := key
  obtain ⟨g1, g2⟩ := xEqIn_guard hx hy hr
  have hg := eqGuard_plain (P := P) (w := w) op hop t ox oy u u' g1 g2
  have he := xEqIn_sound (P := P) (w := w) 100 Op.maxDepth (by decide) t x y u u' r hx hy hr
  refine Sim.pure h (u := .bool (if op = .eql then r else !r)) ?_ (.bool _)
  simp only [Sem.run_bind, hg, Result.andThen_ok]
  have hni : ∀ k a k' b, ¬ (u = .int k a ∧ u' = .int k' b) := by
    rintro k a k' b ⟨rfl, rfl⟩
    exact hints ⟨_, _, _, _, vr_int hx, vr_int hy⟩
  have hns : ∀ a b, ¬ (u = .string a ∧ u' = .string b) := by
    rintro a b ⟨rfl, rfl⟩
    obtain ⟨_, e1⟩ := vr_str hx
    obtain ⟨_, e2⟩ := vr_str hy
    exact hstrs ⟨_, _, e1, e2⟩
  have hnf : ∀ k a k' b, ¬ (u = .float k a ∧ u' = .float k' b) := by
    rintro k a k' b ⟨rfl, rfl⟩
    exact vr_float hx
  have hnc : ∀ k a b k' c d, ¬ (u = .complex k a b ∧ u' = .complex k' c d) := by
    rintro k a b k' c d ⟨rfl, rfl⟩
    exact vr_complex hx
  rcases hop with rfl | rfl
  · have : binOp .eql t u u' = (do pure (.bool (← Op.equal t u u')) : Sem Value) := by
      unfold binOp
      split <;> first | rfl | (exfalso; simp_all; done) | skip
      all_goals (exfalso; first | exact hni _ _ _ _ ⟨rfl, rfl⟩ | exact hns _ _ ⟨rfl, rfl⟩ | exact hnf _ _ _ _ ⟨rfl, rfl⟩ | exact hnc _ _ _ _ _ _ ⟨rfl, rfl⟩ | simp_all)
    rw [this]
    simp [Op.equal, he]
  · have : binOp .neq t u u' = (do pure (.bool (!(← Op.equal t u u'))) : Sem Value) := by
      unfold binOp
      split <;> first | rfl | (exfalso; simp_all; done) | skip
      all_goals (exfalso; first | exact hni _ _ _ _ ⟨rfl, rfl⟩ | exact hns _ _ ⟨rfl, rfl⟩ | exact hnf _ _ _ _ ⟨rfl, rfl⟩ | exact hnc _ _ _ _ _ _ ⟨rfl, rfl⟩ | simp_all)
    rw [this]
    simp [Op.equal, he]

end
end Go.XM

namespace Go.XM
set_option linter.unusedVariables false
set_option linter.unusedSimpArgs false
open Go.RowKit
set_option linter.unusedVariables false

/-! ### runes -/
theorem get_bang (s : List UInt8) (j : Nat) : (⟨s.toArray⟩ : ByteArray).get! j = (s[j]?).getD 0 := by
  show s.toArray[j]! = _
  rw [getElem!_def]
  simp
  cases s[j]? <;> rfl

theorem decode_dec (s : List UInt8) (i : Nat) (h : i < s.length) : Utf8.decode ⟨s.toArray⟩ i = decL (s.drop i) := by
  have hsz : (⟨s.toArray⟩ : ByteArray).size = s.length := by simp [ByteArray.size]
  have hd : s.drop i = s[i] :: s.drop (i + 1) := List.drop_eq_getElem_cons h
  rw [hd]
  have g0 : (⟨s.toArray⟩ : ByteArray).get! (i + 0) = s[i] := by rw [get_bang]; simp [h]
  have gk : ∀ k, (⟨s.toArray⟩ : ByteArray).get! (i + (k + 1)) = ((s.drop (i + 1))[k]?).getD 0 := fun k => by
    rw [get_bang, List.getElem?_drop, show i + (k + 1) = i + 1 + k by omega]
  have lk : ∀ k, (decide (i + (k + 1) < s.length)) = decide (k < (s.drop (i + 1)).length) := fun k => by
    rw [decide_eq_decide, List.length_drop]; omega
  have g1 := gk 0
  have g2 := gk 1
  have g3 := gk 2
  have l1 := lk 0
  have l2 := lk 1
  have l3 := lk 2
  simp only [Nat.zero_add, Nat.reduceAdd] at g1 g2 g3 l1 l2 l3
  simp only [Utf8.decode, decL, hsz, g0, g1, g2, g3, l1, l2, l3]
  rfl

theorem runes_from (s : List UInt8) : ∀ (n i : Nat) (acc : Array Value), Conv.runesFrom ⟨s.toArray⟩ n i acc = acc ++ ((runesL n (s.drop i)).map fun r => Value.int .i32 (Int.ofNat r)).toArray
  | 0, i, acc => by simp [Conv.runesFrom, runesL]
  | n + 1, i, acc => by
    have hsz : (⟨s.toArray⟩ : ByteArray).size = s.length := by simp [ByteArray.size]
    rw [Conv.runesFrom, hsz]
    split
    · rename_i h
      rw [decode_dec s i h]
      show Conv.runesFrom ⟨s.toArray⟩ n (i + (decL (s.drop i)).2) (acc.push (Value.int .i32 (Int.ofNat (decL (s.drop i)).1))) = _
      rw [runes_from s n]
      have hd : s.drop i = s[i] :: s.drop (i + 1) := List.drop_eq_getElem_cons h
      have : runesL (n + 1) (s.drop i) = (decL (s.drop i)).1 :: runesL n ((s.drop i).drop (decL (s.drop i)).2) := by
        rw [hd]; rfl
      rw [this, List.drop_drop]
      simp
    · rename_i h
      have : s.drop i = [] := List.drop_eq_nil_of_le (by omega)
      rw [this]
      simp [runesL]

theorem bytes_fold (ns : List Int) : ∀ (a : ByteArray), (ns.foldl (fun r n => r.push (UInt8.ofNat n.toNat)) a) = ⟨(a.data.toList ++ ns.map fun n => UInt8.ofNat n.toNat).toArray⟩ := by
  induction ns with
  | nil => intro a; simp
  | cons n ns ih =>
    intro a
    simp only [List.foldl_cons, List.map_cons]
    rw [ih]
    simp [ByteArray.push]

theorem allBytes_vr {ρ : Emb} : ∀ {cs : List XV} {us : List Value} {l : List UInt8}, VLs ρ cs us → allBytes cs = some l → ∃ ns : List Int, us = ns.map (Value.int .u8) ∧ l = ns.map fun n => UInt8.ofNat n.toNat
  | [], us, l, hv, h => by
    simp only [allBytes] at h; injection h with h; subst h
    have : us = [] := List.eq_nil_of_length_eq_zero hv.1.symm
    exact ⟨[], by rw [this]; rfl, rfl⟩
  | c :: cs, [], l, hv, h => by have := hv.1; simp at this
  | c :: cs, u :: us, l, hv, h => by
    unfold allBytes at h
    split at h
    · cases ‹c :: cs = []›
    · rename_i n r heq
      injection heq with he1 he2
      subst he1
      subst he2
      split at h
      · rename_i l' hl'
        injection h with h
        subst h
        obtain ⟨ns, hn1, hn2⟩ := allBytes_vr (ρ := ρ) (cs := cs) (us := us) ⟨by simpa using hv.1, fun i x v hx hy hl => hv.2 (i + 1) x v (by simpa using hx) (by simpa using hy) hl⟩ hl'
        have h1 := hv.2 0 (.int .u8 n) u (by simp) (by simp) rfl
        cases h1
        exact ⟨n :: ns, by simp [hn1], by simp [hn2]⟩
      · cases h
    · cases h

section
variable {P : Program} {B : Nat} {w0 : World} {base : Nat} {ρ : Emb} {S : XS} {w : World}

theorem blk_loose_fr {ρ : Emb} {B : Nat} {w : World} (hB : B ≤ w.heap.size) (cs : List XV) (arr : Array Value) (t : TypeId) (fr : Nat × Nat) (hfr : arr.size ≤ fr.1 ∨ fr.2 = 0) (esz n : Nat) (hz : 0 < esz)
    (hlen : cs.length = n * esz) (hle : n * esz ≤ arr.size) (hfl : Flat cs)
    (h : ∀ (i : Nat) (v : XV), cs[i]? = some v → v.live = true → ∃ u, arr[i]? = some u ∧ VR ρ v u) :
    BlkR ρ B (w.alloc (.cells arr t fr)) ⟨w.heap.size, 0, some (esz, n, arr.size)⟩ (.cells cs (.loose esz n)) := by
  have hc : ∀ i, (w.alloc (.cells arr t fr)).cell? ⟨w.heap.size, i, none⟩ = arr[i]? := fun i => by simp only [World.cell?, World.alloc, Array.getElem?_push_size]; rfl
  have hf : ∀ i, i < arr.size → (w.alloc (.cells arr t fr)).frozen? ⟨w.heap.size, i, none⟩ = false := fun i hi => by
    obtain ⟨f1, f2⟩ := fr
    simp only [World.frozen?, World.alloc, Array.getElem?_push_size]
    simp only at hfr
    rw [Bool.and_eq_false_iff, decide_eq_false_iff_not, decide_eq_false_iff_not]
    omega
  refine ⟨⟨hB, hz, hlen, hfl, arr.size, rfl, by simpa using hle, fun j hj => ?_⟩, fun o v ho hv => ?_⟩
  · rw [hc]
    exact ⟨by simp [hj], hf j hj⟩
  · obtain ⟨u, hu, hr⟩ := h o v ho hv
    have hat : Ent.at ⟨w.heap.size, 0, some (esz, n, arr.size)⟩ o = ⟨w.heap.size, o, none⟩ := rfl
    rw [hat]
    refine ⟨u, (hc o).trans hu, hr, fun _ => hf o ?_⟩
    rcases Nat.lt_or_ge o arr.size with hq | hq
    · exact hq
    · rw [Array.getElem?_eq_none hq] at hu; cases hu

/-- a loose row of cells, whatever room the tape gives -/
theorem loose_alloc (h : Rel B w0 ρ S w) (hb : base ≤ S.size) (cs : List XV) (us : List Value) (hv : VLs ρ cs us) (hfl : Flat cs) (esz n : Nat) (hz : 0 < esz) (hlen : cs.length = n * esz) (rest : Array Value) (t : TypeId) (fr : Nat × Nat)
    (hfr : us.length + rest.size ≤ fr.1 ∨ fr.2 = 0) :
    ∃ ρ', Rel B w0 ρ' (S.push (.cells cs (.loose esz n))) (w.drew.alloc (.cells (us.toArray ++ rest) t fr)) ∧
      Ev base ρ S w ρ' (S.push (.cells cs (.loose esz n))) (w.drew.alloc (.cells (us.toArray ++ rest) t fr)) [] ∧
      ρ' S.size = some ⟨w.heap.size, 0, some (esz, n, us.length + rest.size)⟩ := by
  have hd := rel_drew h
  have hB : B ≤ w.drew.heap.size := Nat.le_trans hd.Bw hd.below.size
  have hsz : (us.toArray ++ rest).size = us.length + rest.size := by simp
  have hl := hv.1
  obtain ⟨h1, h2⟩ := rel_alloc hd base hb (.cells cs (.loose esz n)) (.cells (us.toArray ++ rest) t fr) (some (esz, n, (us.toArray ++ rest).size))
    (blk_loose_fr hB _ _ t fr (by rw [hsz]; exact hfr) esz n hz hlen (by rw [hsz]; omega) hfl fun i v hi hlv => by
      have hq : i < us.length := by
        rw [← hl]
        rcases Nat.lt_or_ge i cs.length with q | q
        · exact q
        · rw [List.getElem?_eq_none q] at hi; cases hi
      have hu := List.getElem?_eq_getElem hq
      refine ⟨us[i], ?_, hv.2 i v _ hi hu hlv⟩
      rw [Array.getElem?_append_left (by simp; omega)]
      simp [hq])
  refine ⟨_, h1, ?_, ?_⟩
  · have := (ev_drew (base := base) (ρ := ρ) (S := S) (w := w)).trans hb h2
    simpa using this
  · rw [Emb.set_same, hsz]; simp

theorem choose_cap (need old : Nat) (e : TypeId) : ∃ c, need ≤ c ∧ (choose (.appendCap need old e)).run P w = .ok c w.drew := by
  refine ⟨_, ?_, rfl⟩
  simp [Question.cut]

theorem sim_loose {ρ' : Emb} {S' : XS} {w' : World} {s : Sem Value} {W : List (Nat × Nat)} (hr : Rel B w0 ρ' S' w') (he : Ev base ρ S w ρ' S' w' W) (hlog : S'.log = W ++ S.log) {r esz n rsz : Nat}
    (hk : ρ' S.size = some ⟨r, 0, some (esz, n, rsz)⟩) (cap' : Nat) (hn : n ≤ cap') (hc : cap' * esz ≤ rsz)
    (hs : s.run P w = .ok (.slice (some ⟨r, 0, none⟩) n cap') w') : Sim P B w0 base ρ S w s (.sl S.size) S' := by
  refine ⟨_, w', ρ', W, hs, ?_, hr, he, hlog⟩
  have := VR.sl (ρ := ρ') S.size cap' _ esz n rsz hk rfl hn (by simpa using hc)
  simpa [Ent.at] using this

theorem flat_ints (k : IntKind) (l : List Int) : Flat (l.map (.int k)) := fun v hv _ => by
  obtain ⟨n, _, rfl⟩ := List.mem_map.1 hv
  exact ⟨rfl, rfl⟩

/-- a row's real cells -/
theorem rowOf_sound (h : Rel B w0 ρ S w) {x : XV} {u : Value} {cs : List XV} (hv : VR ρ x u) (hx : rowOf S x = some cs) :
    ∃ a len cap us, u = .slice a len cap ∧ VLs ρ cs us ∧ us.length = len ∧ (a = none → len = 0) ∧ ∀ a', a = some a' → ∀ j v, us[j]? = some v → w.cell? (a'.add j) = some v := by
  unfold rowOf at hx
  split at hx
  · injection hx with hx
    subst hx
    cases hv
    exact ⟨none, 0, 0, [], rfl, .nil, rfl, fun _ => rfl, fun a' q => by cases q⟩
  · rename_i b o len cap
    have real : ∃ a, u = .slice (some a) len cap ∧ ∃ en, ρ b = some en ∧ (a = en.at o ∨ len = 0) := by
      cases hv with
      | slice _ _ _ _ en hen hlc => exact ⟨_, rfl, en, hen, .inl rfl⟩
      | sliceZ _ _ en a hen => exact ⟨a, rfl, en, hen, .inr rfl⟩
    obtain ⟨a, rfl, en, hen, ha⟩ := real
    obtain ⟨us, h1, h2, h3⟩ := cells_read h hen len o cs hx
    refine ⟨some a, len, cap, us, rfl, h1.vls, h2, (fun q => by cases q), fun a' q j v hj => ?_⟩
    injection q with q
    subst q
    rcases ha with rfl | ha
    · exact h3 j v hj
    · have : us = [] := List.eq_nil_of_length_eq_zero (by omega)
      rw [this] at hj; simp at hj
  · rename_i b o len
    have real : ∃ a cap', u = .slice (some a) len cap' ∧ ∃ en, ρ b = some en ∧ (a = en.at o ∨ len = 0) := by
      cases hv with
      | part _ _ _ cap' en hen _ => exact ⟨_, _, rfl, en, hen, .inl rfl⟩
      | partZ _ _ cap' en a hen => exact ⟨a, _, rfl, en, hen, .inr rfl⟩
    obtain ⟨a, cap', rfl, en, hen, ha⟩ := real
    obtain ⟨us, h1, h2, h3⟩ := cells_read h hen len o cs hx
    refine ⟨some a, len, cap', us, rfl, h1.vls, h2, (fun q => by cases q), fun a' q j v hj => ?_⟩
    injection q with q
    subst q
    rcases ha with rfl | ha
    · exact h3 j v hj
    · have : us = [] := List.eq_nil_of_length_eq_zero (by omega)
      rw [this] at hj; simp at hj
  · rename_i b
    split at hx
    case h_2 => cases hx
    case h_1 cs' esz n hg =>
    split at hx
    case isFalse => cases hx
    rename_i he1
    injection hx with hx
    subst hx
    subst he1
    obtain ⟨cap', us, en, _, rfl, _, _, h1, h2, h3⟩ := sl_cells h hv hg
    exact ⟨_, _, _, us, rfl, h1, by simpa using h2, (fun q => by cases q), fun a' q j v hj => by injection q with q; subst q; exact h3 j v hj⟩
  · rename_i t m cs' len
    split at hx
    case isFalse => cases hx
    rename_i hl
    injection hx with hx
    subst hx
    obtain ⟨a, cap, us, rfl, _, _, h1, _, h0, h2⟩ := row_cells h hv
    refine ⟨a, len, cap, us, rfl, h1, by rw [← h1.1]; exact hl, fun q => (h0 q).2.1, fun a' q j v hj => ?_⟩
    refine h2 a' q ?_ j v hj
    have : j < us.length := by
      rcases Nat.lt_or_ge j us.length with z | z
      · exact z
      · rw [List.getElem?_eq_none z] at hj; cases hj
    rw [← h1.1, hl] at this
    omega
  · cases hx

theorem freeze_alloc (w : World) (arr : Array Value) (t : TypeId) (c : Nat) : (w.alloc (.cells arr t)).freeze ⟨w.heap.size, c, none⟩ 1 = w.alloc (.cells arr t (c, c + 1)) := by
  have e : (w.heap.push (.cells arr t)).modify w.heap.size (fun
      | .cells c_1 elem (lo, hi) => .cells c_1 elem (if lo == hi then (c, c + 1) else (min lo c, max hi (c + 1)))
      | o => o) = w.heap.push (.cells arr t (c, c + 1)) := by
    apply Array.ext_getElem?
    intro i
    simp only [Array.getElem?_modify, Array.getElem?_push]
    by_cases hi : w.heap.size = i
    · subst hi; simp
    · rw [if_neg hi, if_neg (by omega), if_neg (by omega)]
  unfold World.freeze World.alloc
  rw [if_neg (by decide)]
  exact congrArg (fun h => ({ w with heap := h } : World)) e

theorem run_mark_new (w : World) (arr : Array Value) (t : TypeId) : (markStringish ⟨w.heap.size, 0, none⟩).run P (w.alloc (.cells arr t)) = .ok () (w.alloc (.cells arr t (arr.size, arr.size + 1))) := by
  have hs : (w.alloc (.cells arr t)).shape? w.heap.size = some (t, arr.size) := by
    simp only [World.shape?, World.alloc, Array.getElem?_push_size]
  simp only [markStringish, Sem.run_bind, run_shape, Result.andThen_ok, hs, run_freeze, freeze_alloc]

theorem xconvert_sound (h : Rel B w0 ρ S w) (hb : base ≤ S.size) {src dst : TypeId} {x v : XV} {u : Value} {S' : XS} (hv : VR ρ x u) (hx : xconvert P S src dst x = some (v, S')) :
    Sim P B w0 base ρ S w (convert src dst u) v S' := by
  unfold xconvert at hx
  split at hx
  · cases hx
  rename_i hsrc
  obtain ⟨ds, hds⟩ : ∃ d, P.underlying src = some d := by
    cases hq : P.underlying src with
    | none => rw [hq] at hsrc; simp at hsrc
    | some d => exact ⟨d, rfl⟩
  split at hx
  case h_1 k n =>
    cases hv
    split at hx
    · rename_i k' hk'
      injection hx with hx
      simp only [Prod.mk.injEq] at hx
      obtain ⟨rfl, rfl⟩ := hx
      refine Sim.pure h (u := .int k' (k'.wrap n)) ?_ (.int _ _)
      simp [convert, run_underlying hds, run_underlying (int_t hk'), Conv.intToInt]
    · split at hx
      · rename_i hst
        injection hx with hx
        simp only [Prod.mk.injEq] at hx
        obtain ⟨rfl, rfl⟩ := hx
        refine Sim.pure h (u := .string (Utf8.encode n)) ?_ ?_
        · simp [convert, run_underlying hds, run_underlying (is_str hst), Conv.intToString]
        · have := VR.str (ρ := ρ) (encL n)
          simpa [encL, bytes_eta] using this
      · cases hx
  case h_2 s =>
    cases hv
    split at hx
    · rename_i hst
      injection hx with hx
      simp only [Prod.mk.injEq] at hx
      obtain ⟨rfl, rfl⟩ := hx
      refine Sim.pure h (u := .string ⟨s.toArray⟩) ?_ (.str _)
      simp [convert, run_underlying hds, run_underlying (is_str hst)]
    · split at hx
      case h_2 => cases hx
      case h_1 e he =>
      have hue := slice_elem he
      split at hx
      · rename_i hu8
        injection hx with hx
        unfold looseOf at hx
        simp only [Prod.mk.injEq] at hx
        obtain ⟨rfl, rfl⟩ := hx
        have hsz : (⟨s.toArray⟩ : ByteArray).size = s.length := by simp [ByteArray.size]
        obtain ⟨c, hc, hrun⟩ := choose_cap (P := P) (w := w) s.length 0 e
        have hf1 : Flat (s.map fun b => .int .u8 b.toNat) := fun v hv _ => by
          obtain ⟨n, _, rfl⟩ := List.mem_map.1 hv
          exact ⟨rfl, rfl⟩
        have hv1 : VRs ρ (s.map fun b => .int .u8 b.toNat) (s.map fun b => Value.int .u8 b.toNat) := VRs.of_get (by simp) fun i x v hx hv => by
          simp only [List.getElem?_map, Option.map_eq_some_iff] at hx hv
          obtain ⟨a, ha, rfl⟩ := hx
          obtain ⟨b, hb, rfl⟩ := hv
          rw [ha] at hb; injection hb with hb; subst hb
          exact .int _ _
        obtain ⟨ρ', r1, r2, r3⟩ := loose_alloc h hb _ _ hv1.vls hf1 1 s.length (by omega) (by simp) (Array.replicate (c - s.length) (.int .u8 0)) e (c, c + 1) (.inl (by simp; omega))
        refine sim_loose (esz := 1) (n := s.length) r1 r2 rfl (by simpa using r3) c hc (by simp; omega) ?_
        have hmap : (⟨s.toArray⟩ : ByteArray).data.map (fun b => Value.int .u8 b.toNat) = (s.map fun b => Value.int .u8 b.toNat).toArray := by simp
        have hasz : ((s.map fun b : UInt8 => Value.int .u8 b.toNat).toArray ++ Array.replicate (c - s.length) (Value.int .u8 0)).size = c := by simp; omega
        have hm := run_mark_new (P := P) w.drew ((s.map fun b : UInt8 => Value.int .u8 b.toNat).toArray ++ Array.replicate (c - s.length) (Value.int .u8 0)) e
        rw [hasz, World.size_drew] at hm
        simp only [convert, Sem.run_bind, run_underlying hds, run_underlying hue, run_underlying (is_u8 hu8), Result.andThen_ok, Conv.stringToBytes, hsz, hrun, hmap, newRow, run_newObj, World.size_drew, World.alloc_eq, Sem.run_pure, hm]
      · split at hx
        · rename_i hi32
          injection hx with hx
          unfold looseOf at hx
          simp only [Prod.mk.injEq] at hx
          obtain ⟨rfl, rfl⟩ := hx
          have hsz : (⟨s.toArray⟩ : ByteArray).size = s.length := by simp [ByteArray.size]
          generalize hL : runesL s.length s = L
          obtain ⟨c, hc, hrun⟩ := choose_cap (P := P) (w := w) L.length 0 e
          have hf1 : Flat (L.map fun r => .int .i32 (Int.ofNat r)) := fun v hv _ => by
            obtain ⟨n, _, rfl⟩ := List.mem_map.1 hv
            exact ⟨rfl, rfl⟩
          have hv1 : VRs ρ (L.map fun r => .int .i32 (Int.ofNat r)) (L.map fun r => Value.int .i32 (Int.ofNat r)) := VRs.of_get (by simp) fun i x v hx hv => by
            simp only [List.getElem?_map, Option.map_eq_some_iff] at hx hv
            obtain ⟨a, ha, rfl⟩ := hx
            obtain ⟨b, hb, rfl⟩ := hv
            rw [ha] at hb; injection hb with hb; subst hb
            exact .int _ _
          obtain ⟨ρ', r1, r2, r3⟩ := loose_alloc h hb _ _ hv1.vls hf1 1 L.length (by omega) (by simp) (Array.replicate (c - L.length) (.int .i32 0)) e (0, 0) (.inr rfl)
          refine sim_loose (esz := 1) (n := L.length) r1 r2 rfl (by simpa using r3) c hc (by simp; omega) ?_
          have hfrom := runes_from s s.length 0 #[]
          simp only [List.drop_zero, hL] at hfrom
          have hel : (Conv.runesFrom ⟨s.toArray⟩ s.length 0 #[]) = (L.map fun r => Value.int .i32 (Int.ofNat r)).toArray := by rw [hfrom]; simp
          have hes : ((L.map fun r => Value.int .i32 (Int.ofNat r)).toArray).size = L.length := by simp
          simp only [convert, Sem.run_bind, run_underlying hds, run_underlying hue, run_underlying (is_i32 hi32), Result.andThen_ok, Conv.stringToRunes, hsz, hel, hes, hrun, newRow, run_newObj, World.size_drew, World.alloc_eq, Sem.run_pure]
        · cases hx
  case h_3 =>
    split at hx
    case h_2 => cases hx
    case h_1 e he =>
    split at hx
    case isFalse => cases hx
    rename_i hst
    simp only [Bool.and_eq_true] at hst
    split at hx
    case h_2 => cases hx
    case h_1 cs hcs =>
    split at hx
    case h_2 => cases hx
    case h_1 l hl =>
    injection hx with hx
    simp only [Prod.mk.injEq] at hx
    obtain ⟨rfl, rfl⟩ := hx
    obtain ⟨a, len, cap, us, rfl, h1, h2, h0, h3⟩ := rowOf_sound h hv hcs
    obtain ⟨ns, hn1, hn2⟩ := allBytes_vr h1 hl
    cases a with
    | none =>
      have := h0 rfl
      subst this
      have hus : us = [] := List.eq_nil_of_length_eq_zero h2
      rw [hus] at hn1
      have hns : ns = [] := by simpa using hn1.symm
      rw [hns] at hn2
      simp only [List.map_nil] at hn2
      subst hn2
      refine Sim.pure h (u := .string .empty) ?_ ?_
      · simp only [convert, Sem.run_bind, run_underlying (slice_elem he), run_underlying (is_str hst.1), run_underlying (is_u8 hst.2), Result.andThen_ok, Conv.bytesToString, Sem.run_pure]
      · exact VR.str []
    | some a =>
      have hload : (loadCells a len).run P w = .ok (ns.map (Value.int .u8)).toArray w := by
        have := run_loadCells_list (P := P) w a us (h3 a rfl)
        rw [h2, hn1] at this
        exact this
      have hb2 := run_bytesToString (P := P) w a len cap ns hload
      rw [bytes_fold] at hb2
      refine Sim.pure h (u := .string ⟨l.toArray⟩) ?_ (.str _)
      rw [run_convert_bytes_string w src dst e (some a) len cap (slice_elem he) (is_u8 hst.2) (is_str hst.1), hb2, hn2]
      simp

end
end Go.XM

namespace Go.XM
set_option linter.unusedVariables false
set_option linter.unusedSimpArgs false
open Go.RowKit
set_option linter.unusedVariables false

section
variable {P : Program} {B : Nat} {w0 : World} {base : Nat} {ρ : Emb} {S : XS} {w : World}

theorem xun_sound (h : Rel B w0 ρ S w) {op : UnOp} {x v : XV} {u : Value} (hv : VR ρ x u) (hx : xun op x = some v) : Sim P B w0 base ρ S w (Op.unary op u) v S := by
  unfold xun at hx
  split at hx
  · injection hx with hx; subst hx; cases hv; exact Sim.pure h rfl (.int _ _)
  · cases hv
    obtain ⟨n, rfl, hr⟩ := bitsX_sound (P := P) (w := w) hx
    exact Sim.pure h hr (.int _ _)
  · injection hx with hx; subst hx; cases hv; exact Sim.pure h rfl (.bool _)
  · cases hx

theorem xrange_sound (h : Rel B w0 ρ S w) (hb : base ≤ S.size) {t : TypeId} {s : List UInt8} (ht : P.underlying t = some .string) :
    Sim P B w0 base ρ S w (Instr.range t (.string ⟨s.toArray⟩)) (.ptr S.size 0) (S.push (.iter s 0)) := by
  have hB : B ≤ w.heap.size := Nat.le_trans h.Bw h.below.size
  obtain ⟨h1, h2⟩ := rel_alloc h base hb (.iter s 0) (.stringIter ⟨s.toArray⟩ 0) none ⟨⟨hB, rfl, rfl⟩, by simp only [World.alloc, Array.getElem?_push_size]⟩
  refine sim_ptr h1 h2 rfl (Emb.set_same _ _ _) ?_
  simp [Instr.range, run_underlying ht]

theorem xnext_sound (h : Rel B w0 ρ S w) {x v : XV} {u : Value} {S' : XS} (ty : TypeId) (hv : VR ρ x u) (hx : xnext base S x = some (v, S')) : Sim P B w0 base ρ S w (Instr.next u true ty) v S' := by
  unfold xnext at hx
  split at hx
  case h_2 => cases hx
  case h_1 b =>
  split at hx
  case h_2 => cases hx
  case h_1 s pos hg =>
  cases hv with
  | ptr _ _ e he =>
  have hblk := h.blk b e he
  rw [hg] at hblk
  obtain ⟨⟨hBe, hsh, _⟩, hobj⟩ := hblk
  have hsz : (⟨s.toArray⟩ : ByteArray).size = s.length := by simp [ByteArray.size]
  have hget : (getObj e.blk).run P w = .ok (.stringIter ⟨s.toArray⟩ pos) w := by
    simp [getObj, Sem.run, hobj]
  split at hx
  · rename_i hlt
    injection hx with hx
    simp only [Prod.mk.injEq] at hx
    obtain ⟨rfl, rfl⟩ := hx
    obtain ⟨h1, h2⟩ := rel_iter h base he (pos' := pos + (decL (s.drop pos)).2) hg
    refine ⟨.tuple #[.bool true, goInt pos, .int .i32 ((decL (s.drop pos)).1 : Nat)], _, ρ, _, ?_, ?_, h1, h2, ?_⟩
    · have hset : ∀ o, (setObj e.blk o).run P w = .ok () { w with heap := w.heap.setIfInBounds e.blk o } := fun o => by
        simp [setObj, Sem.run, hobj]
      simp only [Instr.next, Ent.at, hsh, Nat.add_zero, Sem.run_bind, hget, Result.andThen_ok, hsz, if_pos hlt, decode_dec s pos hlt, hset, Sem.run_pure]
    · exact VR.tuple _ [_, _, _] (.cons _ _ _ _ (.bool _) (.cons _ _ _ _ (.int _ _) (.cons _ _ _ _ (.int _ _) .nil)))
    · rw [XS.log_note, XS.log_put]
  · rename_i hlt
    injection hx with hx
    simp only [Prod.mk.injEq] at hx
    obtain ⟨rfl, rfl⟩ := hx
    refine Sim.pure h (u := .tuple #[.bool false]) ?_ (VR.tuple _ [_] (.cons _ _ _ _ (.bool _) .nil))
    simp only [Instr.next, Ent.at, hsh, Nat.add_zero, Sem.run_bind, hget, Result.andThen_ok, hsz, if_neg hlt, Sem.run_pure]

theorem assertFails_sound {t : TypeId} {ok : Bool} {r : XV} (hr : assertFails P t ok = some r) : ok = true ∧ ∃ z, (zeroValue t).run P w = .ok z w ∧ VR ρ r (.tuple #[z, .bool false]) := by
  unfold assertFails at hr
  split at hr
  · rename_i hok
    split at hr
    · rename_i i hi
      split at hr
      · rename_i z hz
        split at hr
        · rename_i zv hzv
          injection hr with hr
          subst hr
          exact ⟨hok, z, by simp [zeroValue, run_info hi, hz], VR.tuple _ [_, _] (.cons _ _ _ _ (ofValue_vr hzv) (.cons _ _ _ _ (.bool _) .nil))⟩
        · cases hr
      · cases hr
    · cases hr
  · cases hr

theorem xassert_sound (h : Rel B w0 ρ S w) {x v : XV} {u : Value} {xt t : TypeId} {ok : Bool} (hv : VR ρ x u) (hx : xassert P x t ok = some v) : Sim P B w0 base ρ S w (Instr.typeAssert u xt t ok) v S := by
  unfold xassert at hx
  split at hx
  case isFalse => cases hx
  rename_i hp
  obtain ⟨d, hd, hdi⟩ : ∃ d, P.underlying t = some d ∧ ∀ ms, d ≠ .interface ms := by
    unfold plainT at hp
    split at hp
    · cases hp
    · cases hp
    · rename_i d hni hd
      exact ⟨d, hd, fun ms q => hni ms q⟩
  split at hx
  · cases hv
    obtain ⟨hok, z, h1, h2⟩ := assertFails_sound (P := P) (w := w) (ρ := ρ) hx
    subst hok
    refine Sim.pure h ?_ h2
    cases d <;> first | exact absurd rfl (hdi _) | simp [Instr.typeAssert, run_underlying hd, h1]
  · rename_i ty vv
    cases hv with
    | iface _ _ vu hvu =>
    split at hx
    · rename_i he
      injection hx with hx
      subst hx
      cases ok with
      | true =>
        refine Sim.pure h (u := .tuple #[vu, .bool true]) ?_ (VR.tuple _ [_, _] (.cons _ _ _ _ hvu (.cons _ _ _ _ (.bool _) .nil)))
        cases d <;> first | exact absurd rfl (hdi _) | simp [Instr.typeAssert, run_underlying hd, he]
      | false =>
        refine Sim.pure h (u := vu) ?_ hvu
        cases d <;> first | exact absurd rfl (hdi _) | simp [Instr.typeAssert, run_underlying hd, he]
    · rename_i hne
      obtain ⟨hok, z, h1, h2⟩ := assertFails_sound (P := P) (w := w) (ρ := ρ) hx
      subst hok
      refine Sim.pure h ?_ h2
      cases d <;> first | exact absurd rfl (hdi _) | simp [Instr.typeAssert, run_underlying hd, hne, h1]
  · cases hx

theorem xlen_sound (h : Rel B w0 ρ S w) {ts : Array TypeId} {t ty : TypeId} (ht : ts[0]? = some t) {us : Array Value} {x v : XV} {u : Value} (hu : us[0]? = some u) (hv : VR ρ x u) (hx : xlen P S t x = some v) :
    Sim P B w0 base ρ S w (Builtin.len_ ts ty us) v S := by
  unfold xlen at hx
  split at hx
  case h_9 => cases hx
  case h_1 hd =>
    injection hx with hx
    subst hx
    cases hv
    have hsz : ∀ s : List UInt8, (⟨s.toArray⟩ : ByteArray).size = s.length := fun s => by simp [ByteArray.size]
    refine Sim.pure h ?_ (.int _ _)
    simp only [Builtin.len_, ht, hu, Sem.run_bind, run_underlying hd, Result.andThen_ok, hsz]
    rfl
  case h_2 hd =>
    injection hx with hx
    subst hx
    refine Sim.pure h ?_ (.int _ _)
    simp only [Builtin.len_, ht, hu, Sem.run_bind, run_underlying hd, Result.andThen_ok]
    rfl
  case h_3 hd =>
    injection hx with hx
    subst hx
    cases hv
    refine Sim.pure h ?_ (.int _ _)
    simp [Builtin.len_, ht, hu, run_underlying hd, goInt]
  case h_4 hd =>
    injection hx with hx
    subst hx
    refine Sim.pure h ?_ (.int _ _)
    cases hv <;> simp [Builtin.len_, ht, hu, run_underlying hd, goInt]
  case h_5 hd =>
    injection hx with hx
    subst hx
    refine Sim.pure h ?_ (.int _ _)
    cases hv <;> simp [Builtin.len_, ht, hu, run_underlying hd, goInt]
  case h_6 hd =>
    injection hx with hx
    subst hx
    refine Sim.pure h ?_ (.int _ _)
    obtain ⟨a, cap, us', rfl, _⟩ := row_cells h hv
    simp [Builtin.len_, ht, hu, run_underlying hd, goInt]
  case h_7 hd =>
    split at hx
    case h_2 => cases hx
    case h_1 cs esz n hg =>
    injection hx with hx
    subst hx
    refine Sim.pure h ?_ (.int _ _)
    obtain ⟨cap', us', en, _, rfl, _⟩ := sl_cells h hv hg
    simp [Builtin.len_, ht, hu, run_underlying hd, goInt]
  case h_8 hd =>
    injection hx with hx
    subst hx
    cases hv
    refine Sim.pure h ?_ (.int _ _)
    simp [Builtin.len_, ht, hu, run_underlying hd, goInt]

theorem xcap_sound (h : Rel B w0 ρ S w) {ts : Array TypeId} {t ty : TypeId} (ht : ts[0]? = some t) {us : Array Value} {x v : XV} {u : Value} (hu : us[0]? = some u) (hv : VR ρ x u) (hx : xcap P t x = some v) :
    Sim P B w0 base ρ S w (Builtin.cap_ ts ty us) v S := by
  unfold xcap at hx
  split at hx
  case h_4 => cases hx
  case h_1 hd =>
    injection hx with hx
    subst hx
    cases hv
    refine Sim.pure h ?_ (.int _ _)
    simp [Builtin.cap_, ht, hu, run_underlying hd, goInt]
  case h_2 hd =>
    injection hx with hx
    subst hx
    refine Sim.pure h ?_ (.int _ _)
    cases hv <;> simp [Builtin.cap_, ht, hu, run_underlying hd, goInt]
  case h_3 hd =>
    injection hx with hx
    subst hx
    refine Sim.pure h ?_ (.int _ _)
    cases hv with
    | row _ _ _ _ _ h1 =>
    cases h1 with
    | rowNil => simp [Builtin.cap_, ht, hu, run_underlying hd, goInt]
    | row _ _ _ _ _ us' a cap q1 q2 q3 q4 q5 q6 =>
    have := q5 rfl
    subst this
    simp [Builtin.cap_, ht, hu, run_underlying hd, goInt]

theorem foldMin_sound : ∀ (xs : List XV) (us : List Value) (x v : XV) (u : Value), VR ρ x u → VRs ρ xs us → foldMin x xs = some v → ∃ r, (us.foldlM Builtin.min2 u).run P w = .ok r w ∧ VR ρ v r
  | [], us, x, v, u, hx, hxs, hm => by
    cases hxs
    cases x <;> (simp only [foldMin] at hm; injection hm with hm; subst hm; exact ⟨u, by simp, hx⟩)
  | y :: xs, us, x, v, u, hx, hxs, hm => by
    cases hxs with
    | cons _ uy _ us h1 h2 =>
    unfold foldMin at hm
    split at hm
    · cases ‹y :: xs = []›
    · rename_i k a k' b r heq
      injection heq with e1 e2
      subst e1; subst e2
      cases hx; cases h1
      obtain ⟨q, hq, hr⟩ := foldMin_sound xs us _ v _ (.int k (if b < a then b else a)) h2 hm
      refine ⟨q, ?_, hr⟩
      simp only [List.foldlM_cons, Sem.run_bind, Builtin.min2, Sem.run_pure, Result.andThen_ok]
      exact hq
    · cases hm

theorem foldMax_sound : ∀ (xs : List XV) (us : List Value) (x v : XV) (u : Value), VR ρ x u → VRs ρ xs us → foldMax x xs = some v → ∃ r, (us.foldlM Builtin.max2 u).run P w = .ok r w ∧ VR ρ v r
  | [], us, x, v, u, hx, hxs, hm => by
    cases hxs
    cases x <;> (simp only [foldMax] at hm; injection hm with hm; subst hm; exact ⟨u, by simp, hx⟩)
  | y :: xs, us, x, v, u, hx, hxs, hm => by
    cases hxs with
    | cons _ uy _ us h1 h2 =>
    unfold foldMax at hm
    split at hm
    · cases ‹y :: xs = []›
    · rename_i k a k' b r heq
      injection heq with e1 e2
      subst e1; subst e2
      cases hx; cases h1
      obtain ⟨q, hq, hr⟩ := foldMax_sound xs us _ v _ (.int k (if b > a then b else a)) h2 hm
      refine ⟨q, ?_, hr⟩
      simp only [List.foldlM_cons, Sem.run_bind, Builtin.max2, Sem.run_pure, Result.andThen_ok]
      exact hq
    · cases hm

end
end Go.XM

namespace Go.XM
set_option linter.unusedVariables false
set_option linter.unusedSimpArgs false
open Go.RowKit
set_option linter.unusedVariables false

section
variable {P : Program} {B : Nat} {w0 : World} {base : Nat} {ρ : Emb} {S : XS} {w : World}

/-- the second argument's type says no number -/
def NoZeros (P : Program) (ts : Array TypeId) : Prop := ts[1]? = none ∨ ∃ tt d, ts[1]? = some tt ∧ P.underlying tt = some d ∧ ((∃ e', d = .slice e') ∨ d = .string)
def Zeros (P : Program) (ts : Array TypeId) : Prop := ∃ tt k, ts[1]? = some tt ∧ P.underlying tt = some (.int k)

theorem append_room {ts : Array TypeId} {t e ty : TypeId} {us : Array Value} {x : Value} {a : Addr} {sLen sCap n : Nat} (ht : ts[0]? = some t) (hs : us[0]? = some (.slice (some a) sLen sCap)) (hx : us[1]? = some x)
    (he : P.underlying t = some (.slice e)) {size : Nat} (hsz : tsize P e = some size) (hz : NoZeros P ts) (hlen : ∀ w, (Builtin.lenOf x).run P w = .ok n w) {new : List Value}
    (hnew : (Builtin.firstCells size n x).run P w = .ok new.toArray w) (hroom : sLen + n ≤ sCap) {w' : World} (hst : (storeCells (a.add (sLen * size)) new).run P w = .ok () w') :
    (Builtin.append_ ts ty us).run P w = .ok (.slice (some a) (sLen + n) sCap) w' := by
  rcases hz with hz | ⟨tt, d, hz, hd, hk⟩
  · simp [Builtin.append_, ht, hs, hx, run_underlying he, run_size hsz, hz, hlen, hroom, hnew, hst]
  · rcases hk with ⟨e', rfl⟩ | rfl <;> simp [Builtin.append_, ht, hs, hx, run_underlying he, run_size hsz, hz, run_underlying hd, hlen, hroom, hnew, hst]

theorem append_same {ts : Array TypeId} {t e ty : TypeId} {us : Array Value} {x : Value} {ba : Option Addr} {sLen sCap : Nat} (ht : ts[0]? = some t) (hs : us[0]? = some (.slice ba sLen sCap)) (hx : us[1]? = some x)
    (he : P.underlying t = some (.slice e)) {size : Nat} (hsz : tsize P e = some size) (hz : NoZeros P ts) (hlen : ∀ w, (Builtin.lenOf x).run P w = .ok 0 w)
    (hnew : (Builtin.firstCells size 0 x).run P w = .ok #[] w) (hroom : sLen ≤ sCap) :
    (Builtin.append_ ts ty us).run P w = .ok (.slice ba sLen sCap) w := by
  rcases hz with hz | ⟨tt, d, hz, hd, hk⟩
  · cases ba <;> simp [Builtin.append_, ht, hs, hx, run_underlying he, run_size hsz, hz, hlen, hroom, hnew, storeCells]
  · rcases hk with ⟨e', rfl⟩ | rfl <;> cases ba <;> simp [Builtin.append_, ht, hs, hx, run_underlying he, run_size hsz, hz, run_underlying hd, hlen, hroom, hnew, storeCells]

theorem fits {need cap bytes : Nat} (h : cap < need) (hb : need * bytes ≤ 35184372088832) : ¬ (281474976710656 < Builtin.nextslicecap need cap * bytes) := by
  have h1 := nextslicecap_le h
  have h2 : Builtin.nextslicecap need cap * bytes ≤ 2 * need * bytes := Nat.mul_le_mul_right _ h1
  have h3 : 2 * need * bytes = 2 * (need * bytes) := Nat.mul_assoc ..
  omega

theorem append_grow {ts : Array TypeId} {t e ty : TypeId} {us : Array Value} {x : Value} {ba : Option Addr} {sLen sCap n : Nat} (ht : ts[0]? = some t) (hs : us[0]? = some (.slice ba sLen sCap)) (hx : us[1]? = some x)
    (he : P.underlying t = some (.slice e)) {i : TypeInfo} (hi : P.info? e = some i) (hb0 : i.bytes ≠ 0) {z : Value} (hzero : i.zero = some z) (hzs : z.cells.size = i.size) (hz : NoZeros P ts) (hlen : ∀ w, (Builtin.lenOf x).run P w = .ok n w) {old new : List Value}
    (hold : (Builtin.firstCells i.size sLen (.slice ba sLen sCap)).run P w.drew = .ok old.toArray w.drew)
    (hnew : (Builtin.firstCells i.size n x).run P w.drew = .ok new.toArray w.drew) (hroom : sCap < sLen + n) (hbound : (sLen + n) * i.bytes ≤ 35184372088832) :
    ∃ c, sLen + n ≤ c ∧ (Builtin.append_ ts ty us).run P w = .ok (.slice (some ⟨w.heap.size, 0, none⟩) (sLen + n) c) (w.drew.alloc (.cells (old.toArray ++ (new.toArray ++ Builtin.zeroCells z.cells (c - (sLen + n)))) e)) := by
  refine ⟨grownCap w (sLen + n) sCap e, grownCap_ge w (sLen + n) sCap e, ?_⟩
  have hf := fits hroom hbound
  have hnr : ¬ (sLen + n ≤ sCap) := by omega
  have hinfo := fun w => run_info hi (P := P) w
  have hzr : ∀ w, (zeroValue e).run P w = .ok z w := fun w => by simp [zeroValue, hinfo, hzero]
  have hsr : ∀ w, (sizeOf e).run P w = .ok i.size w := fun w => by simp [sizeOf, hinfo]
  have hforced : (Question.appendCap (sLen + n) sCap e).forced = false := rfl
  rcases hz with hz | ⟨tt, d, hz, hd, hk⟩
  · simp [Builtin.append_, ht, hs, hx, run_underlying he, hsr, hinfo, hz, hlen, hnr, hnew, hold, hb0, hf, hforced, hzr, newRow, grownCap]
  · rcases hk with ⟨e', rfl⟩ | rfl <;> simp [Builtin.append_, ht, hs, hx, run_underlying he, hsr, hinfo, hz, run_underlying hd, hlen, hnr, hnew, hold, hb0, hf, hforced, hzr, newRow, grownCap]


theorem append_zeros_grow {ts : Array TypeId} {t e ty : TypeId} {us : Array Value} {ba : Option Addr} {sLen sCap : Nat} {k : IntKind} {l : Int} (ht : ts[0]? = some t) (hs : us[0]? = some (.slice ba sLen sCap)) (hx : us[1]? = some (.int k l))
    (he : P.underlying t = some (.slice e)) {i : TypeInfo} (hi : P.info? e = some i) (hb0 : i.bytes ≠ 0) (hs0 : 0 < i.size) {z : Value} (hzero : i.zero = some z) (hzs : z.cells.size = i.size) (hz : Zeros P ts) (hl0 : 0 < l) (hl1 : l ≤ 1099511627776)
    (hl2 : l * i.bytes ≤ 35184372088832) {old : List Value}
    (hold : (Builtin.firstCells i.size sLen (.slice ba sLen sCap)).run P w.drew = .ok old.toArray w.drew) (hroom : sCap < sLen + l.toNat) (hbound : (sLen + l.toNat) * i.bytes ≤ 35184372088832) :
    ∃ c, sLen + l.toNat ≤ c ∧ (Builtin.append_ ts ty us).run P w = .ok (.slice (some ⟨w.heap.size, 0, none⟩) (sLen + l.toNat) c) (w.drew.alloc (.cells (old.toArray ++ (Builtin.zeroCells z.cells l.toNat ++ Builtin.zeroCells z.cells (c - (sLen + l.toNat)))) e)) := by
  refine ⟨grownCap w (sLen + l.toNat) sCap e, grownCap_ge w (sLen + l.toNat) sCap e, ?_⟩
  have hf := fits hroom hbound
  have hnr : ¬ (sLen + l.toNat ≤ sCap) := by omega
  have hinfo := fun w => run_info hi (P := P) w
  have hzr : ∀ w, (zeroValue e).run P w = .ok z w := fun w => by simp [zeroValue, hinfo, hzero]
  have hsr : ∀ w, (sizeOf e).run P w = .ok i.size w := fun w => by simp [sizeOf, hinfo]
  have hforced : (Question.appendCap (sLen + l.toNat) sCap e).forced = false := rfl
  have hbl : sLen + l.toNat ≤ 35184372088832 := by
    have : (sLen + l.toNat) * 1 ≤ (sLen + l.toNat) * i.bytes := Nat.mul_le_mul_left _ (by omega)
    omega
  have hw : IntKind.i64.wrap l = l := by rw [IntKind.wrap_i64]; omega
  have h1 : ¬ l < 0 := by omega
  have h2 : ¬ (281474976710656 < l * (i.bytes : Int)) := by omega
  have h3 : ¬ (9223372036854775807 < (sLen : Int) + max l 0) := by omega
  have h4 : ¬ (l.toNat * i.size = 0) := by
    intro hq
    rcases Nat.mul_eq_zero.1 hq with q | q <;> omega
  obtain ⟨tt, kk, hz, hd⟩ := hz
  simp [Builtin.append_, ht, hs, hx, run_underlying he, hsr, hinfo, hz, run_underlying hd, asInt, asIntOf, hw, h1, h2, h3, h4, hnr, hold, hb0, hf, hforced, hzr, newRow, grownCap]

end
end Go.XM

namespace Go.XM
set_option linter.unusedVariables false
set_option linter.unusedSimpArgs false
open Go.RowKit
set_option linter.unusedVariables false

section
variable {P : Program} {B : Nat} {w0 : World} {base : Nat} {ρ : Emb} {S : XS} {w : World}

theorem firstCells_slice {size n : Nat} {a : Addr} {len cap : Nat} {us : List Value} (hl : us.length = n * size) {w w' : World} (hc : ∀ a, w'.cell? a = w.cell? a) (h : ∀ j v, us[j]? = some v → w.cell? (a.add j) = some v) :
    (Builtin.firstCells size n (.slice (some a) len cap)).run P w' = .ok us.toArray w' :=
  run_firstCells_some (P := P) w' size n a len cap us hl (fun j v hv => by rw [hc]; exact h j v hv)

/-- the real slice behind a plain one -/
theorem slice_real {b o len cap : Nat} {u : Value} (hv : VR ρ (.slice b o len cap) u) : ∃ a en, ρ b = some en ∧ u = .slice (some a) len cap ∧ len ≤ cap ∧ (a = en.at o ∨ (len = 0 ∧ cap = 0)) := by
  cases hv with
  | slice _ _ _ _ en hen hlc => exact ⟨_, en, hen, rfl, hlc, .inl rfl⟩
  | sliceZ _ _ en a hen => exact ⟨a, en, hen, rfl, Nat.le_refl _, .inr ⟨rfl, rfl⟩⟩

theorem slice_cells (h : Rel B w0 ρ S w) {b o len : Nat} {a : Addr} {en : Ent} (hen : ρ b = some en) (ha : a = en.at o ∨ len = 0) {size : Nat} {cs : List XV} (hcs : S.cellsFrom b o (len * size) = some cs) :
    ∃ us, VRs ρ cs us ∧ us.length = len * size ∧ ∀ j v, us[j]? = some v → w.cell? (a.add j) = some v := by
  obtain ⟨us, h1, h2, h3⟩ := cells_read h hen (len * size) o cs hcs
  refine ⟨us, h1, h2, fun j v hj => ?_⟩
  rcases ha with ha | ha
  · rw [ha]; exact h3 j v hj
  · have : us = [] := List.eq_nil_of_length_eq_zero (by rw [h2, ha]; simp)
    rw [this] at hj; simp at hj

/-- what was read of a block -/
theorem cellsFrom_mem {S : XS} {b : Nat} {cs : List XV} {k : XKind} (hg : S.get b = .cells cs k) : ∀ (n o : Nat) (l : List XV), S.cellsFrom b o n = some l → ∀ v, v ∈ l → v ∈ cs ∧ v.live = true
  | 0, o, l, h, v, hv => by simp only [XS.cellsFrom] at h; injection h with h; subst h; cases hv
  | n + 1, o, l, h, v, hv => by
    simp only [XS.cellsFrom] at h
    split at h
    case h_2 => cases h
    case h_1 x hx =>
    split at h
    case h_2 => cases h
    case h_1 r hr =>
    injection h with h
    subst h
    rcases List.mem_cons.1 hv with rfl | hv
    · unfold XS.cell at hx
      rw [hg] at hx
      obtain ⟨q1, q2⟩ := cellAt_get hx
      exact ⟨List.mem_of_getElem? q1, q2⟩
    · exact cellsFrom_mem hg n (o + 1) r hr v hv

theorem ok_flat (h : Rel B w0 ρ S w) {b : Nat} {e : Ent} (he : ρ b = some e) {cs : List XV} {k : XKind} (hg : S.get b = .cells cs k) {n o : Nat} {l : List XV} (hl : S.cellsFrom b o n = some l) (hok : okCells k l = true) : Flat l := by
  intro v hv hlv
  have hblk := h.blk b e he
  rw [hg] at hblk
  unfold okCells at hok
  rw [Bool.or_eq_true] at hok
  rcases hok with hk | hk
  · obtain ⟨q1, q2⟩ := cellsFrom_mem hg n o l hl v hv
    cases k with
    | ro => cases hk
    | own => cases hk
    | arr esz => exact hblk.1.2.2.1 v q1 q2
    | loose esz m => exact hblk.1.2.2.2.1 v q1 q2
  · have := List.all_eq_true.1 hk v hv
    simpa using this

theorem appended_run (h : Rel B w0 ρ S w) {e : TypeId} {x : XV} {ux : Value} {new : List XV} {n size : Nat} (hx : xappended P S e false x = some (new, n)) (hv : VR ρ x ux) (hsz : tsize P e = some size) :
    ∃ us, VRs ρ new us ∧ Flat new ∧ us.length = n * size ∧ (∀ w, (Builtin.lenOf ux).run P w = .ok n w) ∧ ∀ w', (∀ a, w'.cell? a = w.cell? a) → (Builtin.firstCells size n ux).run P w' = .ok us.toArray w' := by
  unfold xappended at hx
  rw [hsz] at hx
  simp only [Bool.false_eq_true, if_false] at hx
  split at hx
  · injection hx with hx
    simp only [Prod.mk.injEq] at hx
    obtain ⟨rfl, rfl⟩ := hx
    cases hv
    exact ⟨[], .nil, (fun v hv => by cases hv), by simp, fun w => rfl, fun w' _ => rfl⟩
  · rename_i b o m cap
    split at hx
    case h_2 => cases hx
    case h_1 cs0 k cs hg hcs =>
    split at hx
    case isFalse => cases hx
    rename_i hok
    injection hx with hx
    simp only [Prod.mk.injEq] at hx
    obtain ⟨rfl, rfl⟩ := hx
    obtain ⟨a, en, hen, rfl, _, ha⟩ := slice_real hv
    obtain ⟨us, h1, h2, h3⟩ := slice_cells h hen (ha.imp id (·.1)) hcs
    exact ⟨us, h1, ok_flat h hen hg hcs hok, h2, fun w => rfl, fun w' hw => firstCells_slice h2 hw h3⟩
  · rename_i b o m
    split at hx
    case h_2 => cases hx
    case h_1 cs0 k cs hg hcs =>
    split at hx
    case isFalse => cases hx
    rename_i hok
    injection hx with hx
    simp only [Prod.mk.injEq] at hx
    obtain ⟨rfl, rfl⟩ := hx
    have real : ∃ a cap' en, ρ b = some en ∧ ux = .slice (some a) m cap' ∧ (a = en.at o ∨ m = 0) := by
      cases hv with
      | part _ _ _ cap' en hen _ => exact ⟨_, cap', en, hen, rfl, .inl rfl⟩
      | partZ _ _ cap' en a hen => exact ⟨a, cap', en, hen, rfl, .inr rfl⟩
    obtain ⟨a, cap', en, hen, rfl, ha⟩ := real
    obtain ⟨us, h1, h2, h3⟩ := slice_cells h hen ha hcs
    exact ⟨us, h1, ok_flat h hen hg hcs hok, h2, fun w => rfl, fun w' hw => firstCells_slice h2 hw h3⟩
  · rename_i b
    split at hx
    case h_2 => cases hx
    case h_1 cs esz m hg =>
    split at hx
    case isFalse => cases hx
    rename_i hc
    obtain ⟨rfl, hlive⟩ := hc
    injection hx with hx
    simp only [Prod.mk.injEq] at hx
    obtain ⟨rfl, rfl⟩ := hx
    obtain ⟨cap', us, en, hen, rfl, _, _, h1, h2, h3⟩ := sl_cells h hv hg
    obtain ⟨_, _, _, _, _, hfl, _⟩ := loose_n h hen hg
    exact ⟨us, h1.vrs fun v hv => List.all_eq_true.1 hlive v hv, hfl, h2, fun w => rfl, fun w' hw => firstCells_slice h2 hw h3⟩
  · rename_i t mm cs m
    split at hx
    case isFalse => cases hx
    rename_i hc
    obtain ⟨hlen, hlive⟩ := hc
    injection hx with hx
    simp only [Prod.mk.injEq] at hx
    obtain ⟨rfl, rfl⟩ := hx
    obtain ⟨a, cap, us, rfl, _, _, h1, hfl, h0, h3⟩ := row_cells h hv
    have h2 : us.length = m * size := by rw [← h1.1]; exact hlen
    cases a with
    | none =>
      obtain ⟨rfl, rfl, rfl⟩ := h0 rfl
      have : us = [] := List.eq_nil_of_length_eq_zero (by simpa using h2)
      subst this
      exact ⟨[], .nil, hfl, by simp, fun w => rfl, fun w' _ => rfl⟩
    | some a =>
    refine ⟨us, h1.vrs fun v hv => List.all_eq_true.1 hlive v hv, hfl, h2, fun w => rfl, fun w' hw => firstCells_slice h2 hw fun j v hj => h3 a rfl ?_ j v hj⟩
    rcases Nat.eq_zero_or_pos m with z | z
    · subst z
      have : us = [] := List.eq_nil_of_length_eq_zero (by simpa using h2)
      rw [this] at hj; simp at hj
    · exact z
  · rename_i s
    split at hx
    case isFalse => cases hx
    rename_i hs1
    subst hs1
    injection hx with hx
    simp only [Prod.mk.injEq] at hx
    obtain ⟨rfl, rfl⟩ := hx
    cases hv
    have hsz' : (⟨s.toArray⟩ : ByteArray).size = s.length := by simp [ByteArray.size]
    refine ⟨s.map fun b => Value.int .u8 b.toNat, ?_, fun v hv _ => ?_, by simp, fun w => ?_, fun w' _ => ?_⟩
    · refine VRs.of_get (by simp) fun i x v hx hv => ?_
      simp only [List.getElem?_map, Option.map_eq_some_iff] at hx hv
      obtain ⟨a, ha, rfl⟩ := hx
      obtain ⟨b, hb, rfl⟩ := hv
      rw [ha] at hb; injection hb with hb; subst hb
      exact .int _ _
    · obtain ⟨n, _, rfl⟩ := List.mem_map.1 hv
      exact ⟨rfl, rfl⟩
    · simp only [Builtin.lenOf, Sem.run_pure, hsz']
    · simp only [Builtin.firstCells, extract_list, Sem.run_pure]
      simp
  · cases hx

theorem flat_ones {new : List XV} {us : List Value} (hv : VRs ρ new us) (hf : Flat new) : ∀ u, u ∈ us → u.oneCell' = true := by
  intro u hu
  obtain ⟨i, hi⟩ := List.mem_iff_getElem?.1 hu
  have hlt : i < new.length := by
    rw [hv.length]
    rcases Nat.lt_or_ge i us.length with hq | hq
    · exact hq
    · rw [List.getElem?_eq_none hq] at hi; cases hi
  obtain ⟨v, hv1, hv2⟩ := hv.get (List.getElem?_eq_getElem hlt)
  rw [hi] at hv1
  injection hv1 with hv1
  subst hv1
  have hl : (new[i]).live = true := by
    generalize new[i] = x at hv2
    cases hv2 <;> rfl
  exact XV.one_of hv2 (hf _ (List.getElem_mem hlt) hl).1

/-- behind a growth -/
theorem grown_sim (h : Rel B w0 ρ S w) {S1 : XS} (hb : base ≤ S.size) (hb1 : S1.size = S.size) (hr1 : Rel B w0 ρ S1 w) {W : List (Nat × Nat)} (he1 : Ev base ρ S w ρ S1 w W) (hlog : S1.log = W ++ S.log)
    {old new : List XV} {uo un : List Value} (ho : VLs ρ old uo) (hn : VLs ρ new un) (hfo : Flat old) (hfn : Flat new) {size m n c : Nat} (hs0 : 0 < size) (hol : uo.length = m * size) (hnl : un.length = n * size) (hc : m + n ≤ c) (rest : Array Value) (hrest : rest.size = (c - (m + n)) * size) (t : TypeId) {s : Sem Value}
    (hrun : s.run P w = .ok (.slice (some ⟨w.heap.size, 0, none⟩) (m + n) c) (w.drew.alloc (.cells (uo.toArray ++ (un.toArray ++ rest)) t))) :
    Sim P B w0 base ρ S w s (.sl S.size) (S1.push (.cells (old ++ new) (.loose size (m + n)))) := by
  have hlen : (old ++ new).length = (m + n) * size := by
    rw [(ho.append hn).1, List.length_append, hol, hnl, Nat.add_mul]
  obtain ⟨ρ', r1, r2, r3⟩ := loose_alloc hr1 (base := base) (by omega) (old ++ new) (uo ++ un) (ho.append hn) (hfo.append hfn) size (m + n) hs0 hlen rest t (0, 0) (.inr rfl)
  have harr : (uo ++ un).toArray ++ rest = uo.toArray ++ (un.toArray ++ rest) := by apply Array.toList_inj.1; simp
  rw [harr] at r1 r2
  rw [hb1] at r3
  have hrs : (uo ++ un).length + rest.size = c * size := by
    rw [List.length_append, hol, hnl, hrest, ← Nat.add_mul, ← Nat.add_mul, show m + n + (c - (m + n)) = c by omega]
  rw [hrs] at r3
  exact sim_loose r1 (he1.trans hb r2) (by rw [XS.log_push, hlog]; rfl) r3 c hc (Nat.le_refl _) hrun

theorem xappend_sound (h : Rel B w0 ρ S w) (hb : base ≤ S.size) {ts : Array TypeId} {t e ty : TypeId} {us : Array Value} {s x v : XV} {u ux : Value} {new : List XV} {n : Nat} {S' : XS}
    (ht : ts[0]? = some t) (hu : us[0]? = some u) (hux : us[1]? = some ux) (he : sliceElem P t = some e) (hz : NoZeros P ts) (hvs : VR ρ s u) (hvx : VR ρ x ux) (happ : xappended P S e false x = some (new, n))
    (hx : xappend P base S t s new n = some (v, S')) : Sim P B w0 base ρ S w (Builtin.append_ ts ty us) v S' := by
  have hue := slice_elem he
  unfold xappend at hx
  rw [he] at hx
  simp only at hx
  split at hx
  case h_2 => cases hx
  case h_1 i hi =>
  split at hx
  · cases hx
  rename_i hcond
  simp only [not_or, Decidable.not_not] at hcond
  obtain ⟨hs0, hby0, hnl0, hzo⟩ := hcond
  have hsz : tsize P e = some i.size := by simp [tsize, hi]
  obtain ⟨un, hn1, hnf, hn2, hn3, hn4⟩ := appended_run h happ hvx hsz
  have hones := flat_ones hn1 hnf
  obtain ⟨z, hzero, hzs⟩ : ∃ z, i.zero = some z ∧ z.cells.size = i.size := by
    have hzo' : zeroOK P e i.size = true := by simpa using hzo
    unfold zeroOK zeroCells at hzo'
    rw [hi] at hzo'
    simp only at hzo'
    split at hzo'
    · rename_i zl hzl
      split at hzl
      case h_2 => cases hzl
      case h_1 z hz0 =>
      split at hzl
      case h_2 => cases hzl
      case h_1 zv hzv =>
      injection hzl with hzl
      refine ⟨z, hz0, ?_⟩
      have := size_cells (ofValue_vr (ρ := ρ) hzv)
      rw [this, hzl]
      simpa using hzo'
    · cases hzo'
  have hrest : ∀ k, (Builtin.zeroCells z.cells k).size = k * i.size := fun k => by rw [size_zeroCells, hzs]
  split at hx
  case h_5 => cases hx
  case h_1 =>
    cases hvs
    split at hx
    · rename_i hn0
      subst hn0
      injection hx with hx
      simp only [Prod.mk.injEq] at hx
      obtain ⟨rfl, rfl⟩ := hx
      have hun : un = [] := List.eq_nil_of_length_eq_zero (by simpa using hn2)
      refine Sim.pure h ?_ .nilSlice
      exact append_same ht hu hux hue hsz hz hn3 (by rw [hn4 w (fun _ => rfl), hun]) (Nat.le_refl _)
    · rename_i hn0
      split at hx
      case isFalse => cases hx
      rename_i hbd
      injection hx with hx
      simp only [Prod.mk.injEq] at hx
      obtain ⟨rfl, rfl⟩ := hx
      obtain ⟨c, hc, hrun⟩ := append_grow (P := P) (w := w) (ty := ty) ht hu hux hue hi hby0 hzero hzs hz hn3 (old := []) (new := un) (n := n) (by simp [Builtin.firstCells]) (hn4 _ (fun _ => rfl)) (by omega) (by simpa using hbd)
      have := grown_sim (P := P) (m := 0) (n := n) (size := i.size) h hb rfl h Ev.refl rfl .nil hn1.vls (fun v hv => by cases hv) hnf (by omega) (by simp) hn2 (by simpa using hc) _ (hrest (c - (0 + n))) e (by simpa using hrun)
      simpa using this
  case h_2 b =>
    split at hx
    · rename_i hn0
      subst hn0
      injection hx with hx
      simp only [Prod.mk.injEq] at hx
      obtain ⟨rfl, rfl⟩ := hx
      have hun : un = [] := List.eq_nil_of_length_eq_zero (by simpa using hn2)
      refine Sim.pure h (u := u) ?_ hvs
      cases hvs with
      | sl _ cap' en esz k rsz hen hl hnc hroom =>
      exact append_same ht hu hux hue hsz hz hn3 (by rw [hn4 w (fun _ => rfl), hun]) hnc
    · rename_i hn0
      split at hx
      case h_2 => cases hx
      case h_1 cs esz m hg =>
      split at hx
      case isFalse => cases hx
      rename_i hc3
      obtain ⟨rfl, hbd⟩ := hc3
      injection hx with hx
      simp only [Prod.mk.injEq] at hx
      obtain ⟨rfl, rfl⟩ := hx
      obtain ⟨cap', uo, en, hen, rfl, hmc, ⟨rsz, hlo, hrs⟩, ho1, ho2, ho3⟩ := sl_cells h hvs hg
      obtain ⟨rsz2, hlo2, hBe, hz0, hcl, hcf, hin, hroomy⟩ := loose_n h hen hg
      rw [hlo] at hlo2
      injection hlo2 with hlo2
      simp only [Prod.mk.injEq, true_and] at hlo2
      subst hlo2
      by_cases hroom : m + n ≤ cap'
      · -- in its own spare room
        have hsum : (m + n) * i.size ≤ cap' * i.size := Nat.mul_le_mul_right _ hroom
        have hmul : (m + n) * i.size = m * i.size + n * i.size := Nat.add_mul ..
        obtain ⟨q1, q2⟩ := rel_inplace h base hb hen hg hlo hn1.vls hnf (m := n) (by rw [hn1.length, hn2]) (by omega)
        have hst := run_storeCells P en.blk un 0 (en.sh + m * i.size) w hones (fun j hj => hroomy _ (by rw [hn2] at hj; omega))
        have hrun := append_room (P := P) (w := w) (ty := ty) ht hu hux hue hsz hz hn3 (hn4 w fun _ => rfl) hroom (w' := setCells w en.blk (en.sh + m * i.size) un) (by
          rw [at_add]
          have e1 : en.at (0 + m * i.size) = ⟨en.blk, en.sh + m * i.size, none⟩ := by unfold Ent.at; simp only [Addr.mk.injEq, true_and, and_true]; omega
          rw [e1]
          simpa using hst)
        refine ⟨_, _, _, _, hrun, ?_, q1, q2, ?_⟩
        · have := VR.sl (ρ := ρ.set S.size ⟨en.blk, en.sh, some (i.size, m + n, rsz)⟩) S.size cap' _ i.size (m + n) rsz (Emb.set_same _ _ _) rfl hroom hrs
          simpa [Ent.at] using this
        · rw [XS.log_push, XS.log_kill]
      · obtain ⟨k1, k2⟩ := rel_kill h base b hen cs (.loose i.size m) (by simp) hg (by simp [XKind.room])
        obtain ⟨c, hc, hrun⟩ := append_grow (P := P) (w := w) (ty := ty) ht hu hux hue hi hby0 hzero hzs hz hn3 (old := uo) (new := un) (n := n) (firstCells_slice ho2 (fun _ => rfl) ho3) (hn4 _ (fun _ => rfl)) (by omega) hbd
        exact grown_sim (P := P) (m := m) (n := n) (size := i.size) h hb (XS.size_kill S base b (cs.length + 1)) k1 k2 (XS.log_kill S base b (cs.length + 1)) ho1 hn1.vls hcf hnf (by omega) ho2 hn2 hc _ (hrest (c - (m + n))) e hrun
  case h_3 b o len cap =>
    obtain ⟨a, en, hen, rfl, hlc0, ha⟩ := slice_real hvs
    split at hx
    · rename_i hn0
      subst hn0
      injection hx with hx
      simp only [Prod.mk.injEq] at hx
      obtain ⟨rfl, rfl⟩ := hx
      have hun : un = [] := List.eq_nil_of_length_eq_zero (by simpa using hn2)
      refine Sim.pure h ?_ hvs
      exact append_same ht hu hux hue hsz hz hn3 (by rw [hn4 w (fun _ => rfl), hun]) hlc0
    · rename_i hn0
      split at hx
      · rename_i hroom
        split at hx
        case h_2 => cases hx
        case h_1 S2 hS2 =>
        injection hx with hx
        simp only [Prod.mk.injEq] at hx
        obtain ⟨rfl, rfl⟩ := hx
        have ha' : a = en.at o := by rcases ha with q | q <;> first | exact q | omega
        subst ha'
        obtain ⟨p1, p2, W, p3, p4, p5, p6⟩ := rel_storeN hen new un (o + len * i.size) S S2 w h hb hS2 hn1
        have hst := run_storeCells P en.blk un 0 (o + len * i.size + en.sh) w p1 (by simpa using p2)
        have hrun := append_room (P := P) (w := w) (ty := ty) ht hu hux hue hsz hz hn3 (hn4 w fun _ => rfl) hroom (w' := setCells w en.blk (o + len * i.size + en.sh) un) (by
          rw [at_add]
          simpa [Ent.at] using hst)
        exact ⟨_, _, ρ, W, hrun, .slice _ _ _ _ en hen hroom, p3, p4, p5⟩
      · rename_i hroom
        split at hx
        case isFalse => cases hx
        rename_i hbd
        split at hx
        case h_2 => cases hx
        case h_1 cs0 k hg =>
        split at hx
        case h_2 => cases hx
        case h_1 old hold =>
        split at hx
        case isFalse => cases hx
        rename_i hok
        injection hx with hx
        simp only [Prod.mk.injEq] at hx
        obtain ⟨rfl, rfl⟩ := hx
        obtain ⟨uo, ho1, ho2, ho3⟩ := slice_cells h hen (ha.imp id (·.1)) hold
        obtain ⟨c, hc, hrun⟩ := append_grow (P := P) (w := w) (ty := ty) ht hu hux hue hi hby0 hzero hzs hz hn3 (old := uo) (new := un) (n := n) (firstCells_slice ho2 (fun _ => rfl) ho3) (hn4 _ (fun _ => rfl)) (by omega) hbd
        exact grown_sim (P := P) (m := len) (n := n) (size := i.size) h hb rfl h Ev.refl rfl ho1.vls hn1.vls (ok_flat h hen hg hold hok) hnf (by omega) ho2 hn2 hc _ (hrest (c - (len + n))) e hrun
  case h_4 tg mm cs len =>
    obtain ⟨a, cap, uo, rfl, hm, hlc, ho1, hcf, ho0, ho3⟩ := row_cells h hvs
    split at hx
    · rename_i hn0
      subst hn0
      injection hx with hx
      simp only [Prod.mk.injEq] at hx
      obtain ⟨rfl, rfl⟩ := hx
      have hun : un = [] := List.eq_nil_of_length_eq_zero (by simpa using hn2)
      refine Sim.pure h ?_ hvs
      exact append_same ht hu hux hue hsz hz hn3 (by rw [hn4 w (fun _ => rfl), hun]) hlc
    · rename_i hn0
      split at hx
      case isFalse => cases hx
      rename_i hc3
      obtain ⟨hmt, hclen, hbd⟩ := hc3
      injection hx with hx
      simp only [Prod.mk.injEq] at hx
      obtain ⟨rfl, rfl⟩ := hx
      have hcap := hm hmt
      subst hcap
      have ho2 : uo.length = cap * i.size := by rw [← ho1.1]; exact hclen
      have hold2 : ∀ w' : World, (∀ a, w'.cell? a = w.cell? a) → (Builtin.firstCells i.size cap (.slice a cap cap)).run P w' = .ok uo.toArray w' := fun w' hw => by
        cases a with
        | none =>
          obtain ⟨_, rfl, _⟩ := ho0 rfl
          have : uo = [] := List.eq_nil_of_length_eq_zero (by simpa using ho2)
          subst this
          simp [Builtin.firstCells]
        | some a =>
          refine firstCells_slice ho2 hw fun j v hj => ho3 a rfl ?_ j v hj
          rcases Nat.eq_zero_or_pos cap with z | z
          · rw [z] at ho2
            have : uo = [] := List.eq_nil_of_length_eq_zero (by simpa using ho2)
            rw [this] at hj; simp at hj
          · exact z
      obtain ⟨c, hc, hrun⟩ := append_grow (P := P) (w := w) (ty := ty) ht hu hux hue hi hby0 hzero hzs hz hn3 (old := uo) (new := un) (n := n) (hold2 _ (fun _ => rfl)) (hn4 _ (fun _ => rfl)) (by omega) hbd
      exact grown_sim (P := P) (m := cap) (n := n) (size := i.size) h hb rfl h Ev.refl rfl ho1 hn1.vls hcf hnf (by omega) ho2 hn2 hc _ (hrest (c - (cap + n))) e hrun

end
end Go.XM

namespace Go.XM
set_option linter.unusedVariables false
set_option linter.unusedSimpArgs false
open Go.RowKit
set_option linter.unusedVariables false

section
variable {P : Program} {B : Nat} {w0 : World} {base : Nat} {ρ : Emb} {S : XS} {w : World}

theorem zeros_append_sound (h : Rel B w0 ρ S w) (hb : base ≤ S.size) {ts : Array TypeId} {t e ty : TypeId} {us : Array Value} {x v : XV} {ux : Value} {new : List XV} {n : Nat} {S' : XS}
    (ht : ts[0]? = some t) (hu : us[0]? = some (.slice none 0 0)) (hux : us[1]? = some ux) (he : sliceElem P t = some e) (hz : Zeros P ts) (hvx : VR ρ x ux) (happ : xappended P S e true x = some (new, n))
    (hx : xappend P base S t .nilSlice new n = some (v, S')) : Sim P B w0 base ρ S w (Builtin.append_ ts ty us) v S' := by
  have hue := slice_elem he
  unfold xappended at happ
  split at happ
  case h_1 => cases happ
  case h_2 size hsz =>
  simp only [if_true] at happ
  split at happ
  case h_2 => cases happ
  case h_1 k l =>
  split at happ
  case h_2 => cases happ
  case h_1 z i hzc hi =>
  split at happ
  case isFalse => cases happ
  rename_i hc
  obtain ⟨hl0, hl1, hl2, hzl, hs0, hzf⟩ := hc
  injection happ with happ
  simp only [Prod.mk.injEq] at happ
  obtain ⟨rfl, rfl⟩ := happ
  have hsize : i.size = size := by simp [tsize, hi] at hsz; exact hsz
  subst hsize
  cases hvx
  unfold xappend at hx
  rw [he] at hx
  simp only [hi] at hx
  split at hx
  · cases hx
  rename_i hcond
  simp only [not_or, Decidable.not_not] at hcond
  obtain ⟨hs00, hby0, hnl0, hzo⟩ := hcond
  split at hx
  · rename_i q; omega
  split at hx
  case isFalse => cases hx
  rename_i hbd
  injection hx with hx
  simp only [Prod.mk.injEq] at hx
  obtain ⟨rfl, rfl⟩ := hx
  unfold zeroCells at hzc
  rw [hi] at hzc
  simp only at hzc
  split at hzc
  case h_2 => cases hzc
  case h_1 zc hz0 =>
  split at hzc
  case h_2 => cases hzc
  case h_1 zv hzv =>
  injection hzc with hzc
  have hcells := cells_of (ofValue_vr (ρ := ρ) hzv)
  rw [hzc] at hcells
  have hzs : zc.cells.size = i.size := by
    have := hcells.length
    simp at this
    omega
  obtain ⟨c, hcc, hrun⟩ := append_zeros_grow (P := P) (w := w) (ty := ty) ht hu hux hue hi hby0 (by omega) hz0 hzs hz hl0 hl1 hl2 (old := []) (by simp [Builtin.firstCells]) (by omega) (by simpa using hbd)
  have hzeros := zeros_vr (ρ := ρ) hcells (by omega) l.toNat (l.toNat * i.size) (by rw [hzl])
  have heq : (Builtin.zeroCells zc.cells l.toNat) = (Array.range (l.toNat * i.size)).map (zc.cells[· % zc.cells.size]!) := by
    unfold Builtin.zeroCells; rw [hzs]
  rw [← heq] at hzeros
  have hflat : Flat (repeatL z l.toNat) := fun v hv _ => by
    have := List.all_eq_true.1 (repeatL_all _ hzf l.toNat) v hv
    simpa [XV.fits, XKind.flat] using this
  have harr : (Builtin.zeroCells zc.cells l.toNat).toList.toArray = Builtin.zeroCells zc.cells l.toNat := by simp
  have := grown_sim (P := P) (m := 0) (n := l.toNat) (size := i.size) h hb rfl h Ev.refl rfl .nil hzeros.vls (fun v hv => by cases hv) hflat (by omega) (by simp) (by simp [size_zeroCells, hzs]) (by simpa using hcc) (Builtin.zeroCells zc.cells (c - (0 + l.toNat))) (by rw [size_zeroCells, hzs]) e (by rw [harr]; simpa using hrun)
  simpa using this

theorem head_get {l : List TypeId} {ts : Array TypeId} {t : TypeId} (h : ts.toList = t :: l) : ts[0]? = some t ∧ ts[1]? = l.head? := by
  obtain ⟨ts⟩ := ts
  simp at h
  subst h
  cases l <;> simp

theorem xbuiltin_sound (h : Rel B w0 ρ S w) (hb : base ≤ S.size) {b : Builtin} {ts : Array TypeId} {ty : TypeId} {cs : Array Bool} {us : Array Value} {xs : List XV} {v : XV} {S' : XS} (hv : VRs ρ xs us.toList)
    (hx : xbuiltin P base S b ts.toList xs = some (v, S')) : ∃ s, builtin b ts ty cs us = (do pure (.value (← s)) : Sem Next) ∧ Sim P B w0 base ρ S w s v S' := by
  unfold xbuiltin at hx
  split at hx
  case h_1 t t2 s x hts =>
    obtain ⟨ht0, ht1⟩ := head_get hts
    split at hx
    case h_2 => cases hx
    case h_1 e he =>
    split at hx
    case h_2 => cases hx
    case h_1 z hz =>
    split at hx
    case h_2 => cases hx
    case h_1 new n happ =>
    split at hx
    · cases hx
    rename_i hzn
    obtain ⟨u, hu, hur⟩ := hv.get (i := 0) (x := s) rfl
    obtain ⟨ux, hux, huxr⟩ := hv.get (i := 1) (x := x) rfl
    have hu' : us[0]? = some u := by simpa using hu
    have hux' : us[1]? = some ux := by simpa using hux
    refine ⟨Builtin.append_ ts ty us, rfl, ?_⟩
    cases z with
    | false =>
      have hno : NoZeros P ts := by
        unfold zerosT at hz
        split at hz
        · rename_i hq; exact .inl (by rw [ht1]; exact hq)
        · rename_i tt hq
          split at hz
          · cases hz
          · rename_i e' hd; exact .inr ⟨tt, _, by rw [ht1]; exact hq, hd, .inl ⟨e', rfl⟩⟩
          · rename_i hd; exact .inr ⟨tt, _, by rw [ht1]; exact hq, hd, .inr rfl⟩
          · cases hz
      exact xappend_sound h hb ht0 hu' hux' he hno hur huxr happ hx
    | true =>
      have hyes : Zeros P ts := by
        unfold zerosT at hz
        split at hz
        · cases hz
        · rename_i tt hq
          split at hz
          · rename_i k hd; exact ⟨tt, k, by rw [ht1]; exact hq, hd⟩
          · cases hz
          · cases hz
          · cases hz
      have hnil : s = .nilSlice := by
        cases s <;> simp [isNilSlice] at hzn ⊢
      subst hnil
      cases hur
      exact zeros_append_sound h hb ht0 hu' hux' he hyes huxr happ hx
  case h_2 t t2 x r hts =>
    obtain ⟨ht0, _⟩ := head_get hts
    split at hx
    case h_2 => cases hx
    case h_1 v' hv' =>
    injection hx with hx
    simp only [Prod.mk.injEq] at hx
    obtain ⟨rfl, rfl⟩ := hx
    obtain ⟨u, hu, hur⟩ := hv.get (i := 0) (x := x) rfl
    exact ⟨Builtin.len_ ts ty us, rfl, xlen_sound h ht0 (by simpa using hu) hur hv'⟩
  case h_3 t t2 x r hts =>
    obtain ⟨ht0, _⟩ := head_get hts
    split at hx
    case h_2 => cases hx
    case h_1 v' hv' =>
    injection hx with hx
    simp only [Prod.mk.injEq] at hx
    obtain ⟨rfl, rfl⟩ := hx
    obtain ⟨u, hu, hur⟩ := hv.get (i := 0) (x := x) rfl
    exact ⟨Builtin.cap_ ts ty us, rfl, xcap_sound h ht0 (by simpa using hu) hur hv'⟩
  case h_4 tl x r =>
    split at hx
    case h_2 => cases hx
    case h_1 v' hv' =>
    injection hx with hx
    simp only [Prod.mk.injEq] at hx
    obtain ⟨rfl, rfl⟩ := hx
    refine ⟨Builtin.min_ ts ty us, rfl, ?_⟩
    generalize hul : us.toList = ul at hv
    cases hv with
    | cons _ u _ ur h1 h2 =>
    obtain ⟨q, hq, hr⟩ := foldMin_sound (P := P) (w := w) r ur x v' u h1 h2 hv'
    exact Sim.pure h (by simp only [Builtin.min_, hul]; exact hq) hr
  case h_5 tl x r =>
    split at hx
    case h_2 => cases hx
    case h_1 v' hv' =>
    injection hx with hx
    simp only [Prod.mk.injEq] at hx
    obtain ⟨rfl, rfl⟩ := hx
    refine ⟨Builtin.max_ ts ty us, rfl, ?_⟩
    generalize hul : us.toList = ul at hv
    cases hv with
    | cons _ u _ ur h1 h2 =>
    obtain ⟨q, hq, hr⟩ := foldMax_sound (P := P) (w := w) r ur x v' u h1 h2 hv'
    exact Sim.pure h (by simp only [Builtin.max_, hul]; exact hq) hr
  case h_6 => cases hx

/-- what an operation comes to, as the machine has it -/
def SimN (P : Program) (B : Nat) (w0 : World) (base : Nat) (ρ : Emb) (S : XS) (w : World) (s : Sem Next) (v : XV) (S' : XS) : Prop :=
  ∃ n u w' ρ' W, s.run P w = .ok n w' ∧ (n = .value u ∨ (n = .skip ∧ u = undef)) ∧ VR ρ' v u ∧ Rel B w0 ρ' S' w' ∧ Ev base ρ S w ρ' S' w' W ∧ S'.log = W ++ S.log

theorem SimN.of {s : Sem Value} {v : XV} {S' : XS} (h : Sim P B w0 base ρ S w s v S') : SimN P B w0 base ρ S w (do pure (.value (← s))) v S' := by
  obtain ⟨u, w', ρ', W, h1, h2, h3, h4, h5⟩ := h
  exact ⟨.value u, u, w', ρ', W, by simp [h1], .inl rfl, h2, h3, h4, h5⟩

theorem evalOpt_or {T : Tmps} {a : Act} (hT : TR ρ T a.tmps) {x : Option Operand} {y : Option XV} (h : evalOpt T x = some y) : OR ρ y (x.map a.eval) := by
  unfold evalOpt at h
  split at h
  · injection h with h; subst h; trivial
  · split at h
    · rename_i x v hv; injection h with h; subst h; exact evalX_vr hT hv
    · cases h

theorem xop_sound (h : Rel B w0 ρ S w) (hb : base ≤ S.size) {o : Oper} {T : Tmps} {a : Act} (hT : TR ρ T a.tmps) {v : XV} {S' : XS} (hx : xop P base o T S = some (v, S')) :
    SimN P B w0 base ρ S w (execOp a.eval o) v S' := by
  obtain ⟨dst, op, ty, pos, after, guard⟩ := o
  unfold xop at hx
  cases op with
  | move x =>
    simp only [Option.map_eq_some_iff, Prod.mk.injEq] at hx
    obtain ⟨v', hv, rfl, rfl⟩ := hx
    exact ⟨_, _, w, ρ, [], rfl, .inl rfl, evalX_vr hT hv, h, Ev.refl, rfl⟩
  | assign x =>
    simp only [Option.map_eq_some_iff, Prod.mk.injEq] at hx
    obtain ⟨v', hv, rfl, rfl⟩ := hx
    exact ⟨_, _, w, ρ, [], rfl, .inl rfl, evalX_vr hT hv, h, Ev.refl, rfl⟩
  | pick c x y =>
    simp only at hx
    split at hx
    · rename_i hc
      simp only [Option.map_eq_some_iff, Prod.mk.injEq] at hx
      obtain ⟨v', hv, rfl, rfl⟩ := hx
      have hcr := evalX_vr hT hc
      have hcv : a.eval c = .bool true := by cases hq : a.eval c <;> rw [hq] at hcr <;> cases hcr <;> rfl
      exact ⟨_, _, w, ρ, [], by simp [execOp, hcv, asBool], .inl rfl, evalX_vr hT hv, h, Ev.refl, rfl⟩
    · rename_i hc
      simp only [Option.map_eq_some_iff, Prod.mk.injEq] at hx
      obtain ⟨v', hv, rfl, rfl⟩ := hx
      have hcr := evalX_vr hT hc
      have hcv : a.eval c = .bool false := by cases hq : a.eval c <;> rw [hq] at hcr <;> cases hcr <;> rfl
      exact ⟨_, _, w, ρ, [], by simp [execOp, hcv, asBool], .inl rfl, evalX_vr hT hv, h, Ev.refl, rfl⟩
    · cases hx
  | alloc t =>
    simp only at hx
    split at hx
    case h_2 => cases hx
    case h_1 z n hz hn =>
    split at hx
    case isFalse => cases hx
    injection hx with hx
    simp only [Prod.mk.injEq] at hx
    obtain ⟨rfl, rfl⟩ := hx
    obtain ⟨zv, hzr, hzv⟩ := run_zero (ρ := ρ) hz w
    obtain ⟨ρ', r1, r2, r3⟩ := alloc_own h hb z zv.cells t hzv
    exact SimN.of (sim_ptr r1 r2 rfl r3 (by simp [Instr.alloc, hzr, newVar, newRow]))
  | box t x =>
    simp only at hx
    split at hx
    case h_2 => cases hx
    case h_1 v' hv =>
    split at hx
    case isFalse => cases hx
    injection hx with hx
    simp only [Prod.mk.injEq] at hx
    obtain ⟨rfl, rfl⟩ := hx
    have hvr := evalX_vr hT hv
    obtain ⟨ρ', r1, r2, r3⟩ := alloc_own h hb v'.cells (a.eval x).cells t (cells_of hvr)
    exact SimN.of (sim_ptr r1 r2 rfl r3 (by simp [Instr.box, newVar, newRow]))
  | build t ps =>
    simp only at hx
    split at hx
    case h_2 => cases hx
    case h_1 l hl =>
    simp only [Option.map_eq_some_iff, Prod.mk.injEq] at hx
    obtain ⟨v', hv, rfl, rfl⟩ := hx
    exact SimN.of (xbuild_sound h (by have := evalParts_vr hT hl; simpa using this) hv)
  | buildSlice t n ps =>
    simp only at hx
    split at hx
    case h_2 => cases hx
    case h_1 l hl =>
    exact SimN.of (xbuildSlice_sound h hb (by have := evalParts_vr hT hl; simpa using this) hx)
  | load t x =>
    simp only at hx
    split at hx
    case h_2 => cases hx
    case h_1 p hp =>
    simp only [Option.map_eq_some_iff, Prod.mk.injEq] at hx
    obtain ⟨v', hv, rfl, rfl⟩ := hx
    exact SimN.of (xload_sound h (evalX_vr hT hp) hv)
  | store t x y =>
    simp only at hx
    split at hx
    case h_2 => cases hx
    case h_1 p q hp hq =>
    simp only [Option.map_eq_some_iff, Prod.mk.injEq] at hx
    obtain ⟨S2, hS, rfl, rfl⟩ := hx
    obtain ⟨w', W, h1, h2, h3, h4⟩ := xstore_sound (P := P) h hb (evalX_vr hT hp) (evalX_vr hT hq) hS
    exact ⟨.skip, undef, w', ρ, W, by simp [execOp, h1], .inr ⟨rfl, rfl⟩, VR.tuple [] [] .nil, h2, h3, h4⟩
  | nilCheck x =>
    simp only at hx
    split at hx
    · rename_i b o hp
      injection hx with hx
      simp only [Prod.mk.injEq] at hx
      obtain ⟨rfl, rfl⟩ := hx
      have hr := evalX_vr hT hp
      refine ⟨.value (a.eval x), a.eval x, w, ρ, [], ?_, .inl rfl, hr, h, Ev.refl, rfl⟩
      generalize hu : a.eval x = u at hr
      cases hr
      simp [execOp, hu]
    · rename_i tg cs o hp
      injection hx with hx
      simp only [Prod.mk.injEq] at hx
      obtain ⟨rfl, rfl⟩ := hx
      have hr := evalX_vr hT hp
      refine ⟨.value (a.eval x), a.eval x, w, ρ, [], ?_, .inl rfl, hr, h, Ev.refl, rfl⟩
      generalize hu : a.eval x = u at hr
      obtain ⟨_, rfl⟩ := vr_rptr hr
      simp [execOp, hu]
    · rename_i f c hp
      injection hx with hx
      simp only [Prod.mk.injEq] at hx
      obtain ⟨rfl, rfl⟩ := hx
      have hr := evalX_vr hT hp
      refine ⟨.value (a.eval x), a.eval x, w, ρ, [], ?_, .inl rfl, hr, h, Ev.refl, rfl⟩
      generalize hu : a.eval x = u at hr
      cases hr
      simp [execOp, hu]
    · cases hx
  | binOp op t x y yt =>
    simp only at hx
    split at hx
    case h_2 => cases hx
    case h_1 p q hp hq =>
    simp only [Option.map_eq_some_iff, Prod.mk.injEq] at hx
    obtain ⟨v', hv, rfl, rfl⟩ := hx
    exact SimN.of (xbin_sound h x y (evalX_vr hT hp) (evalX_vr hT hq) hv)
  | unOp op t x =>
    simp only at hx
    split at hx
    case h_2 => cases hx
    case h_1 p hp =>
    simp only [Option.map_eq_some_iff, Prod.mk.injEq] at hx
    obtain ⟨v', hv, rfl, rfl⟩ := hx
    exact SimN.of (xun_sound h (evalX_vr hT hp) hv)
  | convert src dst x =>
    simp only at hx
    split at hx
    case h_2 => cases hx
    case h_1 p hp =>
    exact SimN.of (xconvert_sound h hb (evalX_vr hT hp) hx)
  | makeInterface t x =>
    simp only at hx
    split at hx
    case h_2 => cases hx
    case h_1 p hp =>
    split at hx
    · cases hx
    · rename_i d hni hd
      injection hx with hx
      simp only [Prod.mk.injEq] at hx
      obtain ⟨rfl, rfl⟩ := hx
      refine SimN.of (Sim.pure h (u := .iface t (a.eval x)) ?_ (.iface _ _ _ (evalX_vr hT hp)))
      cases d <;> first | exact absurd rfl (hni _) | simp [Instr.makeInterface, run_underlying hd]
    · cases hx
  | makeFunc fn first caps =>
    cases fn <;> first | cases hx | skip
    simp only at hx
    split at hx
    case isFalse => cases hx
    rename_i f hf
    simp only [Option.map_eq_some_iff, Prod.mk.injEq] at hx
    obtain ⟨l, hl, rfl, rfl⟩ := hx
    have hfe : first = #[] := by
      have : first.toList = [] := by simpa using hf
      simpa using this
    refine SimN.of (Sim.pure h (u := .func (.func f) #[] (caps.map a.eval)) ?_ ?_)
    · simp [Instr.makeFunc, hfe]
    · have := VR.func (ρ := ρ) f _ _ (evalAll_vr hT hl)
      rwa [show (caps.toList.map a.eval).toArray = caps.map a.eval from by apply Array.toList_inj.1; simp] at this
  | makeSlice t x y =>
    simp only at hx
    split at hx
    case h_2 => cases hx
    case h_1 p q hp hq =>
    exact SimN.of (xmakeSlice_sound h hb (evalX_vr hT hp) (evalX_vr hT hq) hx)
  | slice t x lo hi mx =>
    simp only at hx
    split at hx
    case h_2 => cases hx
    case h_1 p q r s hp hq hr hs =>
    simp only [Option.map_eq_some_iff, Prod.mk.injEq] at hx
    obtain ⟨v', hv, rfl, rfl⟩ := hx
    exact SimN.of (xslice_sound h (evalX_vr hT hp) (evalOpt_or hT hq) (evalOpt_or hT hr) (evalOpt_or hT hs) hv)
  | fieldAddr t x f =>
    simp only at hx
    split at hx
    case h_2 => cases hx
    case h_1 p hp =>
    simp only [Option.map_eq_some_iff, Prod.mk.injEq] at hx
    obtain ⟨v', hv, rfl, rfl⟩ := hx
    exact SimN.of (xfieldAddr_sound h (evalX_vr hT hp) hv)
  | field t x f =>
    simp only at hx
    split at hx
    case h_2 => cases hx
    case h_1 p hp =>
    simp only [Option.map_eq_some_iff, Prod.mk.injEq] at hx
    obtain ⟨v', hv, rfl, rfl⟩ := hx
    exact SimN.of (xfield_sound h (evalX_vr hT hp) hv)
  | indexAddr t x i =>
    simp only at hx
    split at hx
    case h_2 => cases hx
    case h_1 p q hp hq =>
    simp only [Option.map_eq_some_iff, Prod.mk.injEq] at hx
    obtain ⟨v', hv, rfl, rfl⟩ := hx
    exact SimN.of (xindexAddr_sound h (evalX_vr hT hp) (evalX_vr hT hq) hv)
  | index t x i =>
    simp only at hx
    split at hx
    case h_2 => cases hx
    case h_1 p q hp hq =>
    simp only [Option.map_eq_some_iff, Prod.mk.injEq] at hx
    obtain ⟨v', hv, rfl, rfl⟩ := hx
    exact SimN.of (xindex_sound h (evalX_vr hT hp) (evalX_vr hT hq) hv)
  | range t x =>
    simp only at hx
    split at hx
    · rename_i s hp
      split at hx
      case isFalse => cases hx
      rename_i hst
      injection hx with hx
      simp only [Prod.mk.injEq] at hx
      obtain ⟨rfl, rfl⟩ := hx
      have hr := evalX_vr hT hp
      have he : a.eval x = .string ⟨s.toArray⟩ := by cases hq : a.eval x <;> rw [hq] at hr <;> cases hr; rfl
      have := xrange_sound (P := P) (s := s) h hb (is_str hst)
      rw [← he] at this
      exact SimN.of this
    · cases hx
  | next x isS =>
    simp only at hx
    split at hx
    case isFalse => cases hx
    rename_i hs
    subst hs
    split at hx
    case h_2 => cases hx
    case h_1 p hp =>
    exact SimN.of (xnext_sound h _ (evalX_vr hT hp) hx)
  | typeAssert x xt t ok =>
    simp only at hx
    split at hx
    case h_2 => cases hx
    case h_1 p hp =>
    simp only [Option.map_eq_some_iff, Prod.mk.injEq] at hx
    obtain ⟨v', hv, rfl, rfl⟩ := hx
    exact SimN.of (xassert_sound h (evalX_vr hT hp) hv)
  | extract x i =>
    simp only at hx
    split at hx
    · rename_i vs hp
      simp only [Option.map_eq_some_iff, Prod.mk.injEq] at hx
      obtain ⟨v', hv, rfl, rfl⟩ := hx
      have hr := evalX_vr hT hp
      generalize hu : a.eval x = u at hr
      cases hr with
      | tuple _ ds hd =>
      obtain ⟨u', h1, h2⟩ := hd.get hv
      refine SimN.of (Sim.pure h (u := u') ?_ h2)
      simp [Instr.extract, hu, h1]
    · cases hx
  | call c =>
    simp only at hx
    split at hx
    · rename_i bq hbq
      split at hx
      case h_2 => cases hx
      case h_1 xs hxs =>
      have hvs : VRs ρ xs (c.args.map a.eval).toList := by have := evalAll_vr hT hxs; simpa using this
      obtain ⟨s, h1, h2⟩ := xbuiltin_sound (P := P) (ty := ty) (cs := c.args.map fun | .const _ => true | _ => false) h hb hvs hx
      have he : execOp a.eval ⟨dst, .call c, ty, pos, after, guard⟩ = (do pure (.value (← s)) : Sem Next) := by
        simp only [execOp, resolve, hbq]
        exact h1
      rw [he]
      exact SimN.of h2
    · cases hx
  | _ => cases hx

end
end Go.XM

namespace Go.XM
set_option linter.unusedVariables false
set_option linter.unusedSimpArgs false
open Go.RowKit
set_option linter.unusedVariables false
set_option linter.unusedSimpArgs false

section
variable {P : Program} {B : Nat} {w0 : World}

/-- a function that a call enters -/
def Enters (P : Program) (f : FuncId) : Prop := ∃ fn, P.funcs[f]? = some fn ∧ fn.body.isSome = true ∧ (fn.name == "runtime.NumGoroutine") = false

theorem run_enter {f : FuncId} (h : Enters P f) (args : Array Value) (w : World) : (callFunc f args).run P w = .ok (.enter f args) w := by
  obtain ⟨fn, h1, h2, h3⟩ := h
  have h4 : fn.body.isNone = false := by cases hb : fn.body <;> simp_all
  simp only [callFunc, Sem.run_bind, run_program, Result.andThen_ok, h1, h3, h4, Bool.false_eq_true, if_false, Sem.run_pure]

def CallOK (P : Program) (B : Nat) (w0 : World) (call : XCallFn) : Prop :=
  ∀ f args base S v S', call f args base S = some (v, S') → Enters P f ∧
    ∀ ρ w (args' : List Value), Rel B w0 ρ S w → base ≤ S.size → VRs ρ args args' →
      Calls P f args'.toArray w fun e w' => ∃ u ρ' W, e = .returned u ∧ VR ρ' v u ∧ Rel B w0 ρ' S' w' ∧ Ev base ρ S w ρ' S' w' W ∧ S'.log = W ++ S.log

variable {call : XCallFn} {base : Nat} {ρ : Emb} {S : XS} {w : World}

theorem simN_wp {s : Sem Next} {v : XV} {S' : XS} {o : Oper} {a : Act} (he : execOp a.eval o = s) (h : SimN P B w0 base ρ S w s v S') {K : Act → World → Prop} {Q : Exit → Act → World → Prop}
    (hK : ∀ u w' ρ' W, VR ρ' v u → Rel B w0 ρ' S' w' → Ev base ρ S w ρ' S' w' W → S'.log = W ++ S.log → K (a.put o.dst u) w') : o.wp P a w K Q := by
  obtain ⟨n, u, w', ρ', W, h1, h2, h3, h4, h5, h6⟩ := h
  unfold Oper.wp
  rw [he, h1]
  rcases h2 with rfl | ⟨rfl, rfl⟩
  · exact hK u w' ρ' W h3 h4 h5 h6
  · exact hK undef w' ρ' W h3 h4 h5 h6

theorem xstep_wpA (hc : CallOK P B w0 call) (h : Rel B w0 ρ S w) (hb : base ≤ S.size) {o : Oper} {T : Tmps} {a0 a : Act} (hT : TR ρ T a0.tmps) {v : XV} {S' : XS} (hx : xstep P call base o T S = some (v, S')) (hev : execOp a.eval o = execOp a0.eval o) {K : Act → World → Prop} {Q : Exit → Act → World → Prop}
    (hK : ∀ u w' ρ' W, VR ρ' v u → Rel B w0 ρ' S' w' → Ev base ρ S w ρ' S' w' W → S'.log = W ++ S.log → K (a.put o.dst u) w') : o.wp P a w K Q := by
  have plain : xop P base o T S = some (v, S') → o.wp P a w K Q := fun hx => simN_wp hev (xop_sound h hb hT hx) hK
  unfold xstep at hx
  split at hx
  · rename_i c hop
    split at hx
    · rename_i f hf
      split at hx
      case h_2 => cases hx
      case h_1 g caps xs hg hxs =>
      obtain ⟨hent, hcall⟩ := hc g (xs ++ caps) base S v S' hx
      have hfr := evalX_vr hT hg
      generalize hu : a0.eval f = u at hfr
      cases hfr with
      | func _ _ ds hds =>
      have hargs := (evalAll_vr hT hxs).append hds
      have hcalls := hcall ρ w _ h hb hargs
      have hrun : (execOp a0.eval o).run P w = .ok (.enter g (((c.args.toList.map a0.eval) ++ ds).toArray)) w := by
        have harr : c.args.map a0.eval ++ ds.toArray = ((c.args.toList.map a0.eval) ++ ds).toArray := by apply Array.toList_inj.1; simp
        simp [execOp, hop, resolve, hf, hu, Deferred.ofValue, invoke, run_enter hent, harr]
      unfold Oper.wp
      rw [hev, hrun]
      refine hcalls.mono ?_
      rintro e w' ⟨u, ρ', W, rfl, h1, h2, h3, h4⟩
      exact hK u w' ρ' W h1 h2 h3 h4
    · exact plain hx
  · exact plain hx

theorem xstep_wp (hc : CallOK P B w0 call) (h : Rel B w0 ρ S w) (hb : base ≤ S.size) {o : Oper} {T : Tmps} {a : Act} (hT : TR ρ T a.tmps) {v : XV} {S' : XS} (hx : xstep P call base o T S = some (v, S')) {K : Act → World → Prop} {Q : Exit → Act → World → Prop}
    (hK : ∀ u w' ρ' W, VR ρ' v u → Rel B w0 ρ' S' w' → Ev base ρ S w ρ' S' w' W → S'.log = W ++ S.log → K (a.put o.dst u) w') : o.wp P a w K Q := xstep_wpA hc h hb hT hx rfl hK

/-! ### temporaries -/
def okDst (n : Nat) (o : Oper) : Bool := match o.dst with | some d => d < n | none => true

theorem TR.mono {ρ ρ' : Emb} (hl : ρ.le ρ') {T : Tmps} {tmps : Array Value} (h : TR ρ T tmps) : TR ρ' T tmps := fun t ht => (h t ht).mono hl

theorem put_getD (a : Act) (d : Nat) (u : Value) (t : Nat) (hd : d < a.tmps.size) : (a.put (some d) u).tmps.getD t undef = if t = d then u else a.tmps.getD t undef := by
  simp only [Act.put, Array.getD_eq_getD_getElem?, Array.getElem?_setIfInBounds]
  by_cases h : t = d
  · subst h; simp [hd]
  · rw [if_neg (fun q => h q.symm), if_neg h]

theorem TR.put {ρ : Emb} {T : Tmps} {a : Act} (h : TR ρ T a.tmps) {o : Oper} (hd : okDst a.tmps.size o = true) {v : XV} {u : Value} (hv : VR ρ v u) : TR ρ (putX T o.dst v) (a.put o.dst u).tmps := by
  intro t
  unfold putX
  unfold okDst at hd
  cases hq : o.dst with
  | none => exact h t
  | some d =>
    rw [hq] at hd
    simp only at hd ⊢
    rw [put_getD a d u t (by simpa using hd), tget_tset]
    split
    · exact fun _ => hv
    · exact h t

@[simp] theorem put_size (a : Act) (d : Option Tmp) (u : Value) : (a.put d u).tmps.size = a.tmps.size := by cases d <;> simp [Act.put]
@[simp] theorem put_defers (a : Act) (d : Option Tmp) (u : Value) : (a.put d u).defers = a.defers := by cases d <;> rfl

theorem wanted_of {ρ : Emb} {T : Tmps} {a : Act} (ops : Array Oper) (o : Oper) (h : ∀ j want d, o.guard = some (j, want) → (ops[j]?).bind (·.dst) = some d → (tget T d).live = true → VR ρ (tget T d) (a.tmps.getD d undef))
    {b : Bool} (hw : wantedX ops.toList T o = some b) : Region.wanted o (yielded ops a.tmps) = b := by
  unfold wantedX at hw
  unfold Region.wanted yielded
  split at hw
  · rename_i hg
    injection hw with hw
    rw [hg]; exact hw
  · rename_i j want hg
    rw [hg]
    simp only [Array.getElem?_toList] at hw
    simp only
    split at hw
    · rename_i d hd
      rw [hd]
      simp only [Option.bind_some]
      have hr := h j want d hg hd
      rw [Array.getD_eq_getD_getElem?] at hr
      generalize tget T d = x at hr hw
      cases hq : a.tmps[d]? with
      | none =>
        rw [hq] at hr
        simp only [Option.getD_none] at hr
        split at hw
        · have := hr rfl; cases this
        · cases hw
        · injection hw with hw
          all_goals (subst hw; rfl)
      | some u =>
        rw [hq] at hr
        simp only [Option.getD_some] at hr
        split at hw
        · have := hr rfl
          cases this
          injection hw with hw
          all_goals (subst hw; rfl)
        · cases hw
        · rename_i hnb hnd
          injection hw with hw
          subst hw
          have hlive : x.live = true := by cases x <;> first | rfl | exact absurd rfl hnd
          have := hr hlive
          cases this with
          | bool b => exact absurd rfl (hnb b)
          | row _ _ _ _ _ h1 => cases h1 <;> rfl
          | rptr _ _ _ _ h1 => cases h1; rfl
          | _ => rfl
    · rename_i hd
      injection hw with hw
      rw [hd]; subst hw; rfl

theorem wanted_eq {ρ : Emb} {T : Tmps} {a : Act} (h : TR ρ T a.tmps) (ops : Array Oper) (o : Oper) {b : Bool} (hw : wantedX ops.toList T o = some b) : Region.wanted o (yielded ops a.tmps) = b :=
  wanted_of ops o (fun _ _ d _ _ => h d) hw

/-- what is behind a piece of code: W since 'base' -/
def Now (P : Program) (B : Nat) (w0 : World) (base n : Nat) (ρ0 : Emb) (S0 : XS) (wi : World) (T' : Tmps) (S' : XS) (a' : Act) (w' : World) : Prop :=
  ∃ ρ' W, Rel B w0 ρ' S' w' ∧ Ev base ρ0 S0 wi ρ' S' w' W ∧ S'.log = W ++ S0.log ∧ TR ρ' T' a'.tmps ∧ a'.tmps.size = n ∧ a'.defers = []

theorem xops_wp (hc : CallOK P B w0 call) (ops : Array Oper) {n : Nat} {ρ0 : Emb} {S0 : XS} {wi : World} (hb : base ≤ S0.size) {Q : Exit → Act → World → Prop} {T' : Tmps} {S' : XS}
    (hQ : ∀ a' w', Now P B w0 base n ρ0 S0 wi T' S' a' w' → Q .normal a' w') :
    ∀ (l : List Oper) (T : Tmps) (S : XS) (a : Act) (w : World), (∀ o, o ∈ l → okDst n o = true) → Now P B w0 base n ρ0 S0 wi T S a w → xops P call base ops.toList l T S = some (T', S') → wpList P ops Q l a w
  | [], T, S, a, w, hl, hn, hx => by
    simp only [xops] at hx
    injection hx with hx
    simp only [Prod.mk.injEq] at hx
    obtain ⟨rfl, rfl⟩ := hx
    exact hQ a w hn
  | o :: l, T, S, a, w, hl, hn, hx => by
    obtain ⟨ρ', W, h1, h2, h3, h4, h5, h6⟩ := hn
    have hd : okDst a.tmps.size o = true := by rw [h5]; exact hl o (by simp)
    simp only [xops] at hx
    unfold wpList
    split at hx
    · rename_i hw
      rw [wanted_eq h4 ops o hw, if_pos rfl]
      split at hx
      case h_2 => cases hx
      case h_1 v S1 hs =>
      refine .inl ?_
      refine xstep_wp hc h1 (by have := h2.size; omega) h4 hs fun u w1 ρ1 W1 q1 q2 q3 q4 => ?_
      refine xops_wp hc ops hb hQ l _ S1 _ w1 (fun o ho => hl o (by simp [ho])) ⟨ρ1, W1 ++ W, q2, h2.trans hb q3, by rw [q4, h3, List.append_assoc], ?_, by simpa using h5, by simpa using h6⟩ hx
      exact (h4.mono q3.ext).put hd q1
    · rename_i hw
      rw [wanted_eq h4 ops o hw, if_neg (by decide)]
      refine xops_wp hc ops hb hQ l _ S _ w (fun o ho => hl o (by simp [ho])) ⟨ρ', W, h1, h2, h3, ?_, by simpa using h5, by simpa using h6⟩ hx
      exact h4.put hd (VR.tuple [] [] .nil)
    · cases hx

end
end Go.XM

namespace Go.XM
set_option linter.unusedVariables false
set_option linter.unusedSimpArgs false
open Go.RowKit
set_option linter.unusedVariables false

section
variable {P : Program} {B : Nat} {w0 : World}

/-- what a region of open order owes (proved in Xt) -/
def DrawOK (P : Program) (B : Nat) (w0 : World) (good : Nat → Array Oper → Bool) (okc : XCallFn → Prop) : Prop :=
  ∀ (call : XCallFn) (base n id : Nat) (ops : Array Oper) (ρ0 : Emb) (S0 : XS) (wi : World) (T T' : Tmps) (S S' : XS) (a : Act) (w : World) (Q : Exit → Act → World → Prop),
    CallOK P B w0 call → okc call → base ≤ S0.size → good n ops = true → Now P B w0 base n ρ0 S0 wi T S a w → xdraw P call base ops.toList T S = some (T', S') →
    (∀ a' w', Now P B w0 base n ρ0 S0 wi T' S' a' w' → Q .normal a' w') → (Code.region id ops true).wp P Q a w

def goodCode (good : Nat → Array Oper → Bool) (n : Nat) : Code → Bool
  | .region _ ops draw => ops.toList.all (okDst n) && (!draw || good n ops)
  | .seq a b => goodCode good n a && goodCode good n b
  | .cond _ a b => goodCode good n a && goodCode good n b
  | .block _ c => goodCode good n c
  | .loop c => goodCode good n c
  | _ => true

def exitOf : XExit → Exit
  | .normal => .normal
  | .exit id => .exit id
  | .ret => .ret

theorem cond_val {ρ : Emb} {T : Tmps} {a : Act} (hT : TR ρ T a.tmps) {c : Operand} {b : Bool} (h : evalX T c = some (.bool b)) : a.eval c = .bool b := by
  have hr := evalX_vr hT h
  generalize a.eval c = u at hr
  cases hr
  rfl

/-! ### a loop's head -/
theorem hardAll_get {f : XV → Option XV} : ∀ {xs ys : List XV}, hardAll f xs = some ys → ys.length = xs.length ∧ ∀ (i : Nat) (y : XV), ys[i]? = some y → ∃ x : XV, xs[i]? = some x ∧ f x = some y
  | [], ys, h => by simp only [hardAll] at h; injection h with h; subst h; exact ⟨rfl, fun i y hy => by simp at hy⟩
  | x :: xs, ys, h => by
    simp only [hardAll] at h
    split at h
    · rename_i a l ha hl
      injection h with h
      subst h
      obtain ⟨h1, h2⟩ := hardAll_get hl
      refine ⟨by simp [h1], fun i y hy => ?_⟩
      cases i with
      | zero => simp at hy; subst hy; exact ⟨x, by simp, ha⟩
      | succ i => simp at hy; obtain ⟨x', q1, q2⟩ := h2 i y hy; exact ⟨x', by simpa using q1, q2⟩
    · cases h

theorem idxOf_some {b : Nat} : ∀ {keep : List Nat} {i : Nat}, idxOf b keep = some i → keep[i]? = some b
  | [], i, h => by simp [idxOf] at h
  | x :: r, i, h => by
    simp only [idxOf] at h
    split at h
    · rename_i hx
      injection h with h
      subst h
      simpa using hx
    · split at h
      · rename_i j hj
        injection h with h
        subst h
        simpa using idxOf_some hj
      · cases h

def keepE (ρ : Emb) (keep : List Nat) : Emb := ⟨fun i => (keep[i]?).bind ρ.m, ρ.z⟩

theorem keepE_some {ρ : Emb} {keep : List Nat} {i b : Nat} {e : Ent} (hi : keep[i]? = some b) (he : ρ b = some e) : keepE ρ keep i = some e := by
  unfold keepE
  simp only [hi, Option.bind_some]
  exact he
theorem keepE_inv {ρ : Emb} {keep : List Nat} {i : Nat} {e : Ent} (h : keepE ρ keep i = some e) : ∃ b, keep[i]? = some b ∧ ρ b = some e := by
  unfold keepE at h
  simp only at h
  cases hq : keep[i]? with
  | none => rw [hq] at h; cases h
  | some b => rw [hq] at h; exact ⟨b, rfl, h⟩

theorem hardAll_vrs {ρ ρ' : Emb} {f : XV → Option XV} (hf : ∀ x y u, f x = some y → VR ρ x u → VR ρ' y u) {xs ys : List XV} {us : List Value} (h : hardAll f xs = some ys) (hv : VRs ρ xs us) : VRs ρ' ys us := by
  obtain ⟨h1, h2⟩ := hardAll_get h
  refine VRs.of_get (by rw [h1, hv.length]) fun i y u hy hu => ?_
  obtain ⟨x, q1, q2⟩ := h2 i y hy
  obtain ⟨u', q3, q4⟩ := hv.get q1
  rw [hu] at q3
  injection q3 with q3
  subst q3
  exact hf x y u q2 q4

theorem ren_vr {ρ : Emb} {keep : List Nat} : ∀ (n : Nat) (x y : XV) (u : Value), ren keep n x = some y → VR ρ x u → VR (keepE ρ keep) y u
  | 0, x, y, u, h, hv => by simp [ren] at h
  | n + 1, x, y, u, h, hv => by
    have ih := ren_vr (ρ := ρ) (keep := keep) n
    unfold ren at h
    split at h
    · split at h
      · rename_i i hi
        injection h with h; subst h
        cases hv with
        | ptr _ _ e he => exact .ptr _ _ e (keepE_some (idxOf_some hi) he)
      · cases h
    · split at h
      · rename_i i hi
        injection h with h; subst h
        cases hv with
        | slice _ _ _ _ e he hlc => exact .slice _ _ _ _ e (keepE_some (idxOf_some hi) he) hlc
        | sliceZ _ _ e a he => exact .sliceZ _ _ e a (keepE_some (idxOf_some hi) he)
      · cases h
    · split at h
      · rename_i i hi
        injection h with h; subst h
        cases hv with
        | sl _ cap' e esz k rsz he q1 q2 q3 => exact .sl _ cap' e esz k rsz (keepE_some (idxOf_some hi) he) q1 q2 q3
      · cases h
    · split at h
      · rename_i i hi
        injection h with h; subst h
        cases hv with
        | part _ _ _ cap' e he q1 => exact .part _ _ _ cap' e (keepE_some (idxOf_some hi) he) q1
        | partZ _ _ cap' e a he => exact .partZ _ _ cap' e a (keepE_some (idxOf_some hi) he)
      · cases h
    · split at h
      · rename_i l hl
        injection h with h; subst h
        cases hv with
        | func _ _ ds hd => exact .func _ _ _ (hardAll_vrs ih hl hd)
      · cases h
    · split at h
      · rename_i y' hy
        injection h with h; subst h
        cases hv with
        | iface _ _ v' hv' => exact .iface _ _ _ (ih _ _ _ hy hv')
      · cases h
    · split at h
      · rename_i l hl
        injection h with h; subst h
        cases hv with
        | agg _ ds hd => exact .agg _ _ (hardAll_vrs ih hl hd)
      · cases h
    · split at h
      · rename_i l hl
        injection h with h; subst h
        cases hv with
        | tuple _ ds hd => exact .tuple _ _ (hardAll_vrs ih hl hd)
      · cases h
    · split at h
      · rename_i hu
        injection h with h; subst h
        exact VR.under (ρ := keepE ρ keep) (ρ' := ρ) (n := 0) (fun b e hb _ => by omega) (ZMap.le_refl _) hu hv
      · cases h

theorem ren_live {keep : List Nat} {n : Nat} {x y : XV} (h : ren keep n x = some y) (hy : y.live = true) : x.live = true := by
  cases x <;> first | rfl | skip
  cases n with
  | zero => simp [ren] at h
  | succ n =>
    unfold ren at h
    simp [XV.under] at h
    subst h
    exact hy

theorem pruneT_tr {ρ : Emb} {keep : List Nat} {T : Tmps} {tmps : Array Value} (hT : TR ρ T tmps) : ∀ (ts : List Nat) (A T' : Tmps), TR (keepE ρ keep) A tmps → pruneT keep T ts A = some T' → TR (keepE ρ keep) T' tmps
  | [], A, T', hA, h => by simp only [pruneT] at h; injection h with h; subst h; exact hA
  | t :: ts, A, T', hA, h => by
    simp only [pruneT] at h
    split at h
    · rename_i hl
      split at h
      · rename_i v hv
        refine pruneT_tr hT ts _ T' ?_ h
        intro s hs
        rw [tget_tset] at hs ⊢
        by_cases q : s = t
        · subst q
          rw [if_pos rfl] at hs ⊢
          exact ren_vr 20 _ _ _ hv (hT s hl)
        · rw [if_neg q] at hs ⊢
          exact hA s hs
      · cases h
    · exact pruneT_tr hT ts _ T' hA h

theorem deadT_tr {ρ : Emb} {rows n : Nat} {tmps : Array Value} (hn : tmps.size = n) (hr : n ≤ rows * 8) : TR ρ (deadT rows) tmps := by
  intro t ht
  have hrow : ∀ {α : Type} (d v : α) (k i : Nat), nthX d (List.replicate k v) i = if i < k then v else d := fun d v k => by
    induction k with
    | zero => intro i; rfl
    | succ k ih =>
      intro i
      rw [List.replicate_succ]
      cases i with
      | zero => rfl
      | succ i => rw [nthX_succ, ih]; by_cases q : i < k <;> simp [q]
  unfold deadT tget at ht ⊢
  rw [hrow] at ht ⊢
  by_cases q : t / 8 < rows
  · rw [if_pos q, hrow, if_pos (Nat.mod_lt _ (by omega))] at ht
    cases ht
  · rw [if_neg q]
    have : tmps.getD t undef = undef := by
      rw [Array.getD_eq_getD_getElem?, Array.getElem?_eq_none (by omega)]; rfl
    rw [this]
    exact VR.tuple [] [] .nil

theorem pruneB_get {keep : List Nat} {S : XS} : ∀ {ks : List Nat} {l : List XBlk}, pruneB keep S ks = some l → l.length = ks.length ∧ ∀ (i : Nat) (x : XBlk), l[i]? = some x → ∃ b, ks[i]? = some b ∧ renBlk keep (S.get b) = some x
  | [], l, h => by simp only [pruneB] at h; injection h with h; subst h; exact ⟨rfl, fun i x hx => by simp at hx⟩
  | b :: r, l, h => by
    simp only [pruneB] at h
    split at h
    · rename_i x l' hx hl
      injection h with h
      subst h
      obtain ⟨h1, h2⟩ := pruneB_get hl
      refine ⟨by simp [h1], fun i y hy => ?_⟩
      cases i with
      | zero => simp at hy; subst hy; exact ⟨b, by simp, hx⟩
      | succ i => simp at hy; obtain ⟨b', q1, q2⟩ := h2 i y hy; exact ⟨b', by simpa using q1, q2⟩
    · cases h

theorem nodupN_spec : ∀ {l : List Nat}, nodupN l = true → ∀ {i j b : Nat}, l[i]? = some b → l[j]? = some b → i = j
  | [], _, i, j, b, hi, _ => by simp at hi
  | x :: r, h, i, j, b, hi, hj => by
    simp only [nodupN, Bool.and_eq_true, Bool.not_eq_true'] at h
    have hx : x ∉ r := fun q => by have := h.1; simp [q] at this
    cases i with
    | zero =>
      simp at hi
      subst hi
      cases j with
      | zero => rfl
      | succ j => simp at hj; exact absurd (List.mem_of_getElem? hj) hx
    | succ i =>
      simp at hi
      cases j with
      | zero => simp at hj; subst hj; exact absurd (List.mem_of_getElem? hi) hx
      | succ j => simp at hj; rw [nodupN_spec h.2 hi hj]

theorem renBlk_kind {keep : List Nat} {x y : XBlk} (h : renBlk keep x = some y) : y.isRo = x.isRo ∧ y.isGone = x.isGone := by
  unfold renBlk at h
  split at h
  · split at h
    · injection h with h; subst h; exact ⟨rfl, rfl⟩
    · split at h
      · injection h with h; subst h
        rename_i cs k _ _ _ _
        cases k <;> exact ⟨rfl, rfl⟩
      · cases h
  · injection h with h; subst h; exact ⟨rfl, rfl⟩
  · cases h

theorem renBlk_rel {ρ : Emb} {keep : List Nat} {w : World} {e : Ent} {x y : XBlk} (h : renBlk keep x = some y) (hb : BlkR ρ B w e x) : BlkR (keepE ρ keep) B w e y := by
  unfold renBlk at h
  split at h
  · rename_i cs k
    obtain ⟨h1, h2⟩ := hb
    split at h
    · rename_i hk
      injection h with h
      subst h
      refine ⟨h1, fun o v ho hv => ?_⟩
      obtain ⟨u, q1, q2, q3⟩ := h2 o v ho hv
      have hu : v.under 0 = true := by
        cases k with
        | ro => cases hk
        | own => cases hk
        | arr esz => exact (h1.2.2.1 v (List.mem_of_getElem? ho) hv).2
        | loose esz m => exact (h1.2.2.2.1 v (List.mem_of_getElem? ho) hv).2
      exact ⟨u, q1, VR.under (ρ := keepE ρ keep) (ρ' := ρ) (n := 0) (fun b e hb _ => by omega) (ZMap.le_refl _) hu q2, q3⟩
    · rename_i hk
      split at h
      case h_2 => cases h
      case h_1 l hl =>
      injection h with h
      subst h
      obtain ⟨l1, l2⟩ := hardAll_get hl
      refine ⟨?_, fun o v ho hv => ?_⟩
      · cases k with
        | ro => exact h1
        | own => exact h1
        | arr esz => exact absurd rfl hk
        | loose esz m => exact absurd rfl hk
      · obtain ⟨x, q1, q2⟩ := l2 o v ho
        obtain ⟨u, r1, r2, r3⟩ := h2 o x q1 (ren_live q2 hv)
        exact ⟨u, r1, ren_vr 20 _ _ _ q2 r2, r3⟩
  · injection h with h
    subst h
    exact hb
  · cases h

theorem prune_now {n : Nat} {ρ0 : Emb} {S0 : XS} {wi : World} (hS : S0.size = 0) (hdom : ∀ b e, ρ0 b = some e → b < S0.size) {rows : Nat} {ts : List Nat} {T T' : Tmps} {S S' : XS} {a : Act} {w : World} (hr : n ≤ rows * 8)
    (hn : Now P B w0 0 n ρ0 S0 wi T S a w) (h : prune rows ts T S = some (T', S')) : Now P B w0 0 n ρ0 S0 wi T' S' a w := by
  obtain ⟨ρ, W, h1, h2, h3, h4, h5, h6⟩ := hn
  unfold prune at h
  simp only at h
  generalize growKeep S 200 (ts.flatMap fun t => (tget T t).addrs) [] = keep at h
  split at h
  case isFalse => cases h
  rename_i hnd
  split at h
  case h_2 => cases h
  case h_1 T2 l hT2 hl =>
  injection h with h
  simp only [Prod.mk.injEq] at h
  obtain ⟨rfl, rfl⟩ := h
  obtain ⟨l1, l2⟩ := pruneB_get hl
  have hget : ∀ i b, keep[i]? = some b → ∃ x, renBlk keep (S.get b) = some x ∧ XS.get { heap := l.reverse, size := keep.length, log := S.log } i = x := fun i b hi => by
    have hik : i < keep.length := by
      rcases Nat.lt_or_ge i keep.length with q | q
      · exact q
      · rw [List.getElem?_eq_none q] at hi; cases hi
    have hil : i < l.length := by omega
    obtain ⟨b', q1, q2⟩ := l2 i _ (List.getElem?_eq_getElem hil)
    rw [hi] at q1
    injection q1 with q1
    subst q1
    refine ⟨_, q2, ?_⟩
    unfold XS.get
    simp only
    rw [if_pos hik, List.getElem?_reverse (by omega)]
    have : l.length - 1 - (keep.length - 1 - i) = i := by omega
    rw [this, List.getElem?_eq_getElem hil]
    rfl
  have hW : W = [] := by
    cases W with
    | nil => rfl
    | cons p W => have := h2.wb p (by simp); omega
  subst hW
  refine ⟨keepE ρ keep, [], ⟨h1.below, h1.Bw, fun i e he => ?_, fun i e he => ?_, fun i j e e' he he' hq hne => ?_, fun i e he => ?_, h1.fz.ok, h1.fz.zc, fun i e he => ?_⟩,
    ⟨⟨fun b e he => absurd (hdom b e he) (by omega), h2.ext.z⟩, fun b e he hb => by omega, by rw [hS]; exact Nat.zero_le _, h2.wsize, fun b hb => by omega, fun b _ hb => by omega, fun p hp => (by cases hp), fun i e he _ => ?_, fun r o hr => (h2.frame r o hr).imp id (Or.imp (fun ⟨p, hp, _⟩ => by cases hp) id), fun r hr => (h2.frameI r hr).imp id (Or.imp (fun ⟨p, hp, _⟩ => by cases hp) id), h2.keep, fun p hp => (by cases hp), fun p hp => (by cases hp), h2.zold⟩,
    h3, ?_, h5, h6⟩
  · obtain ⟨b, q1, q2⟩ := keepE_inv he
    rcases Nat.lt_or_ge i keep.length with q | q
    · exact q
    · rw [List.getElem?_eq_none q] at q1; cases q1
  · obtain ⟨b, q1, q2⟩ := keepE_inv he
    obtain ⟨x, r1, r2⟩ := hget i b q1
    rw [r2]
    exact renBlk_rel r1 (h1.blk b e q2)
  · obtain ⟨b, q1, q2⟩ := keepE_inv he
    obtain ⟨b', q1', q2'⟩ := keepE_inv he'
    obtain ⟨x, r1, r2⟩ := hget i b q1
    obtain ⟨x', r1', r2'⟩ := hget j b' q1'
    have hbb : b ≠ b' := fun q => by subst q; exact hne (nodupN_spec hnd q1 q1')
    obtain ⟨k1, k2⟩ := renBlk_kind r1
    obtain ⟨k1', k2'⟩ := renBlk_kind r1'
    rw [r2, r2', k1, k2, k1', k2']
    exact h1.inj b b' e e' q2 q2' hq hbb
  · obtain ⟨b, q1, q2⟩ := keepE_inv he
    exact h1.lt b e q2
  · obtain ⟨b, q1, q2⟩ := keepE_inv he
    exact h1.fz.zd b e q2
  · obtain ⟨b, q1, q2⟩ := keepE_inv he
    rcases h2.new b e q2 (Nat.zero_le _) with z | ⟨b0, e0, z1, z2, z3⟩ | ⟨p, hp, _⟩
    · exact .inl z
    · exact absurd (hdom b0 e0 z2) (by omega)
    · cases hp
  · exact pruneT_tr h4 ts _ T2 (deadT_tr h5 hr) hT2

/-- the head of a loop, and its end -/
theorem head_now {n base : Nat} {ρ0 : Emb} {S0 : XS} {wi : World} (hb : base = S0.size) (hdom : ∀ b e, ρ0 b = some e → b < S0.size) {lv : Lives} (hlv : ∀ id rows ts, lv id = some (rows, ts) → n ≤ rows * 8) {c : Code} {T T' : Tmps} {S S' : XS} {a : Act} {w : World}
    (hn : Now P B w0 base n ρ0 S0 wi T S a w) (h : headPr lv base c T S = some (T', S')) : Now P B w0 base n ρ0 S0 wi T' S' a w := by
  unfold headPr at h
  split at h
  · rename_i rows ts hl
    split at h
    · rename_i h0
      subst h0
      exact prune_now hb.symm hdom (hlv _ _ _ hl) hn h
    · injection h with h
      simp only [Prod.mk.injEq] at h
      obtain ⟨rfl, rfl⟩ := h
      exact hn
  · injection h with h
    simp only [Prod.mk.injEq] at h
    obtain ⟨rfl, rfl⟩ := h
    exact hn

theorem xcode_wp {good : Nat → Array Oper → Bool} {okc : XCallFn → Prop} (hD : DrawOK P B w0 good okc) {call : XCallFn} (hc : CallOK P B w0 call) (hok : okc call) {fuel base n : Nat} {ρ0 : Emb} {S0 : XS} {wi : World} (hbe : base = S0.size) (hdom : ∀ b e, ρ0 b = some e → b < S0.size) {lv : Lives} (hlv : ∀ id rows ts, lv id = some (rows, ts) → n ≤ rows * 8) :
    ∀ (c : Code) (T : Tmps) (S : XS) (a : Act) (w : World) (e : XExit) (T' : Tmps) (S' : XS) (Q : Exit → Act → World → Prop), goodCode good n c = true → Now P B w0 base n ρ0 S0 wi T S a w →
      xcode P call lv fuel base c T S = some (e, T', S') → (∀ a' w', Now P B w0 base n ρ0 S0 wi T' S' a' w' → Q (exitOf e) a' w') → c.wp P Q a w := by
  have hb : base ≤ S0.size := Nat.le_of_eq hbe
  intro c
  induction c with
  | skip =>
    intro T S a w e T' S' Q hg hn hx hQ
    simp only [xcode, Option.some.injEq, Prod.mk.injEq] at hx
    obtain ⟨rfl, rfl, rfl⟩ := hx
    exact wp_skip (hQ a w hn)
  | region id ops draw =>
    intro T S a w e T' S' Q hg hn hx hQ
    simp only [goodCode, Bool.and_eq_true] at hg
    simp only [xcode] at hx
    split at hx
    case h_2 => cases hx
    case h_1 T1 S1 hr =>
    simp only [Option.some.injEq, Prod.mk.injEq] at hx
    obtain ⟨rfl, rfl, rfl⟩ := hx
    cases draw with
    | false =>
      simp only [Bool.false_eq_true, if_false] at hr
      exact wp_region_list (xops_wp hc ops hb hQ ops.toList T S a w (fun o ho => List.all_eq_true.1 hg.1 o ho) hn hr)
    | true =>
      simp only [if_true] at hr
      exact hD call base n id ops ρ0 S0 wi T T1 S S1 a w Q hc hok hb (by simpa using hg.2) hn hr hQ
  | seq x y ihx ihy =>
    intro T S a w e T' S' Q hg hn hx hQ
    simp only [goodCode, Bool.and_eq_true] at hg
    simp only [xcode] at hx
    refine wp_seq ?_
    split at hx
    · rename_i T1 S1 h1
      refine ihx T S a w .normal T1 S1 _ hg.1 hn h1 fun a1 w1 hn1 => ?_
      exact ihy T1 S1 a1 w1 e T' S' Q hg.2 hn1 hx hQ
    · rename_i hne
      refine ihx T S a w e T' S' _ hg.1 hn hx fun a1 w1 hn1 => ?_
      have := hQ a1 w1 hn1
      cases e with
      | normal => exact absurd hx (hne _ _)
      | exit id => exact this
      | ret => exact this
  | cond c x y ihx ihy =>
    intro T S a w e T' S' Q hg hn hx hQ
    simp only [goodCode, Bool.and_eq_true] at hg
    simp only [xcode] at hx
    obtain ⟨ρ', W, h1, h2, h3, h4, h5, h6⟩ := hn
    split at hx
    · rename_i hcv
      exact wp_cond_true (cond_val h4 hcv) (ihx T S a w e T' S' Q hg.1 ⟨ρ', W, h1, h2, h3, h4, h5, h6⟩ hx hQ)
    · rename_i hcv
      exact wp_cond_false (cond_val h4 hcv) (ihy T S a w e T' S' Q hg.2 ⟨ρ', W, h1, h2, h3, h4, h5, h6⟩ hx hQ)
    · cases hx
  | block id c ih =>
    intro T S a w e T' S' Q hg hn hx hQ
    simp only [goodCode] at hg
    simp only [xcode] at hx
    refine wp_block ?_
    split at hx
    · rename_i id' T1 S1 h1
      refine ih T S a w (.exit id') T1 S1 _ hg hn h1 fun a1 w1 hn1 => ?_
      show Exit.inBlock id Q (.exit id') a1 w1
      simp only [Exit.inBlock]
      split at hx
      · rename_i hid
        simp only [Option.some.injEq, Prod.mk.injEq] at hx
        obtain ⟨rfl, rfl, rfl⟩ := hx
        rw [if_pos hid]
        exact hQ a1 w1 hn1
      · rename_i hid
        simp only [Option.some.injEq, Prod.mk.injEq] at hx
        obtain ⟨rfl, rfl, rfl⟩ := hx
        rw [if_neg hid]
        exact hQ a1 w1 hn1
    · rename_i hne
      refine ih T S a w e T' S' _ hg hn hx fun a1 w1 hn1 => ?_
      have := hQ a1 w1 hn1
      cases e with
      | normal => exact this
      | exit id => exact absurd hx (hne _ _ _)
      | ret => exact this
  | loop c ih =>
    intro T S a w e T' S' Q hg hn hx hQ
    simp only [goodCode] at hg
    simp only [xcode] at hx
    have key : ∀ (k : Nat) (T : Tmps) (S : XS) (a : Act) (w : World), Now P B w0 base n ρ0 S0 wi T S a w → xloop (headPr lv base c) (xcode P call lv fuel base c) k T S = some (e, T', S') → Code.rounds P c Q k a w := by
      intro k
      induction k with
      | zero => intro T S a w hn hx; simp [xloop] at hx
      | succ k ihk =>
        intro T S a w hn hx
        rw [rounds_succ]
        simp only [xloop] at hx
        split at hx
        · cases hx
        rename_i T0 S1 hpr
        have hn0 := head_now hbe hdom hlv hn hpr
        split at hx
        · cases hx
        · rename_i T1 S2 h1
          refine ih T0 S1 a w .normal T1 S2 _ hg hn0 h1 fun a1 w1 hn1 => ?_
          exact ihk T1 S2 a1 w1 hn1 hx
        · rename_i e1 T1 S2 hne h1
          split at hx
          case h_2 => cases hx
          case h_1 T2 S3 hpr2 =>
          injection hx with hx
          simp only [Prod.mk.injEq] at hx
          obtain ⟨rfl, rfl, rfl⟩ := hx
          refine ih T0 S1 a w e1 T1 S2 _ hg hn0 h1 fun a1 w1 hn1 => ?_
          have := hQ a1 w1 (head_now hbe hdom hlv hn1 hpr2)
          cases e1 with
          | normal => exact (hne rfl).elim
          | exit id => exact this
          | ret => exact this
    exact wp_loop_rounds fuel (key fuel T S a w hn hx)
  | exit id =>
    intro T S a w e T' S' Q hg hn hx hQ
    simp only [xcode, Option.some.injEq, Prod.mk.injEq] at hx
    obtain ⟨rfl, rfl, rfl⟩ := hx
    exact wp_exit (hQ a w hn)
  | ret =>
    intro T S a w e T' S' Q hg hn hx hQ
    simp only [xcode, Option.some.injEq, Prod.mk.injEq] at hx
    obtain ⟨rfl, rfl, rfl⟩ := hx
    exact wp_ret (hQ a w hn)
  | rangeFunc f ps x y ihx ihy => intro T S a w e T' S' Q hg hn hx hQ; simp [xcode] at hx
  | scope c ih => intro T S a w e T' S' Q hg hn hx hQ; simp [xcode] at hx
  | label l => intro T S a w e T' S' Q hg hn hx hQ; simp [xcode] at hx
  | goto l => intro T S a w e T' S' Q hg hn hx hQ; simp [xcode] at hx
  | refuse why => intro T S a w e T' S' Q hg hn hx hQ; simp [xcode] at hx

end
end Go.XM
