/- A plain machine beside the model, and that what it tells the model does: part Xk. Conditions: those of each theorem below. -/
import Derived.Test.YtlaamopkgopleaaXj
namespace Go.XM
set_option linter.unusedVariables false
set_option linter.unusedSimpArgs false
open Go.RowKit
set_option linter.unusedVariables false

theorem extract_list (s : List UInt8) (l h : Nat) : (⟨s.toArray⟩ : ByteArray).extract l h = ⟨((s.take h).drop l).toArray⟩ := by
  rw [ByteArray.extract_mk]
  congr 1
  apply Array.toList_inj.1
  simp [List.drop_take]

section
variable {P : Program} {B : Nat} {w0 : World} {base : Nat} {ρ : Emb} {S : XS} {w : World}

theorem xslicePart_sound (h : Rel B w0 ρ S w) {t e : TypeId} {n b o len : Nat} {v : XV} {u : Value} {lo hi mx : Option XV} {lo' hi' mx' : Option Value} (hv : VR ρ (.part b o len) u) (h1 : OR ρ lo lo') (h2 : OR ρ hi hi') (h3 : OR ρ mx mx')
    (he : sliceElem P t = some e) (hn : tsize P e = some n) (hx : xslicePart n b o len lo hi mx = some v) : Sim P B w0 base ρ S w (Instr.sliceAt t u lo' hi' mx') v S := by
  have hu := slice_elem he
  have hsz := run_size hn w
  have real : ∃ a cap' en, ρ b = some en ∧ u = .slice (some a) len cap' ∧ len ≤ cap' ∧ (a = en.at o ∨ len = 0) := by
    cases hv with
    | part _ _ _ cap' en hen hlc => exact ⟨_, cap', en, hen, rfl, hlc, .inl rfl⟩
    | partZ _ _ cap' en a hen => exact ⟨a, cap', en, hen, rfl, Nat.zero_le _, .inr rfl⟩
  obtain ⟨a, cap', en, hen, rfl, hlc, ha⟩ := real
  unfold xslicePart at hx
  split at hx
  · split at hx
    case h_2 => cases hx
    case h_1 l hh m hb =>
    injection hx with hx
    subst hx
    cases mx' with
    | some _ => exact h3.elim
    | none =>
    obtain ⟨r1, r2, r3, r4, r5⟩ := xbounds_sound (P := P) (w := w) (mx := none) (mx' := none) h1 h2 trivial true hb (len' := len) (cap' := cap') rfl hlc (Nat.le_refl _)
    simp only [Option.isSome_none, Bool.false_eq_true, if_false] at r1
    have hrun : (Instr.sliceAt t (.slice (some a) len cap') lo' hi' none).run P w = .ok (.slice (some (if cap' = l then a else a.add (l * n))) (hh - l) (cap' - l)) w := by
      simp only [Instr.sliceAt, Sem.run_bind, run_underlying hu, Result.andThen_ok, Instr.slice, r1, hsz, Sem.run_pure]
      by_cases hq : cap' = l <;> simp [hq]
    refine Sim.pure h hrun ?_
    rcases Nat.eq_zero_or_pos (hh - l) with z | z
    · rw [z]; exact .partZ _ _ _ en _ hen
    · rw [if_neg (by omega)]
      rcases ha with rfl | ha
      · rw [at_add]; exact .part _ _ _ _ en hen (by omega)
      · omega
  · rename_i vq
    split at hx
    case h_2 => cases hx
    case h_1 l hh m hb =>
    injection hx with hx
    subst hx
    cases mx' with
    | none => exact h3.elim
    | some vq' =>
    obtain ⟨r1, r2, r3, r4, r5⟩ := xbounds_sound (P := P) (w := w) (mx := some vq) (mx' := some vq') h1 h2 h3 true hb (len' := len) (cap' := cap') rfl hlc (Nat.le_refl _)
    simp only [Option.isSome_some, if_true] at r1
    have hrun : (Instr.sliceAt t (.slice (some a) len cap') lo' hi' (some vq')).run P w = .ok (.slice (some (if m = l then a else a.add (l * n))) (hh - l) (m - l)) w := by
      simp only [Instr.sliceAt, Sem.run_bind, run_underlying hu, Result.andThen_ok, Instr.slice, r1, hsz, Sem.run_pure]
      by_cases hq : m = l <;> simp [hq]
    refine Sim.pure h hrun ?_
    by_cases hq : m = l
    · have e1 : hh - l = 0 := by omega
      have e2 : m - l = 0 := by omega
      rw [if_pos hq, if_pos hq, e1, e2]
      exact .sliceZ _ _ en _ hen
    · rw [if_neg hq, if_neg hq]
      rcases ha with rfl | ha
      · rw [at_add]; exact .slice _ _ _ _ en hen (by omega)
      · omega

theorem xslice_sound (h : Rel B w0 ρ S w) {t : TypeId} {x v : XV} {u : Value} {lo hi mx : Option XV} {lo' hi' mx' : Option Value} (hv : VR ρ x u) (h1 : OR ρ lo lo') (h2 : OR ρ hi hi') (h3 : OR ρ mx mx')
    (hx : xslice P S t x lo hi mx = some v) : Sim P B w0 base ρ S w (Instr.sliceAt t u lo' hi' mx') v S := by
  unfold xslice at hx
  split at hx
  case h_7 => cases hx
  case h_1 s =>
    split at hx
    case isFalse => cases hx
    rename_i hc
    simp only [Bool.and_eq_true, Option.isNone_iff_eq_none] at hc
    obtain ⟨hst, rfl⟩ := hc
    split at hx
    case h_2 => cases hx
    case h_1 l hh m hb =>
    injection hx with hx
    subst hx
    cases hv
    cases mx' with
    | some _ => exact h3.elim
    | none =>
    have hs : (⟨s.toArray⟩ : ByteArray).size = s.length := by simp [ByteArray.size]
    obtain ⟨r1, r2, r3, r4, r5⟩ := xbounds_sound (P := P) (w := w) (mx := none) (mx' := none) h1 h2 trivial false hb (len' := s.length) (cap' := s.length) rfl (Nat.le_refl _) (Nat.le_refl _)
    have hu := is_str hst
    refine Sim.pure h (u := .string ⟨((s.take hh).drop l).toArray⟩) ?_ (.str _)
    simp only [Option.isSome_none, Bool.false_eq_true, if_false] at r1
    simp [Instr.sliceAt, run_underlying hu, Instr.slice, hs, r1, extract_list]
  case h_2 =>
    split at hx
    case h_2 => cases hx
    case h_1 e he =>
    split at hx
    case h_2 => cases hx
    case h_1 n q hn hb =>
    obtain ⟨l, hh, m⟩ := q
    injection hx with hx
    subst hx
    cases hv
    obtain ⟨r1, r2, r3, r4, r5⟩ := xbounds_sound (P := P) (w := w) h1 h2 h3 true hb (len' := 0) (cap' := 0) rfl (Nat.le_refl _) (Nat.le_refl _)
    have hl : l = 0 := by omega
    have hhh : hh = 0 := by omega
    have hm : m = 0 := by omega
    subst hl; subst hhh; subst hm
    have hu := slice_elem he
    refine Sim.pure h (u := .slice none 0 0) ?_ .nilSlice
    simp only [Instr.sliceAt, Sem.run_bind, run_underlying hu, Result.andThen_ok, Instr.slice, r1, run_size hn, Sem.run_pure]
    simp
  case h_3 b o len cap =>
    split at hx
    case h_2 => cases hx
    case h_1 e he =>
    have hu := slice_elem he
    split at hx
    case h_2 => cases hx
    case h_1 n hn =>
    have hsz := run_size hn w
    split at hx
    case isFalse => cases hx
    rename_i hlc
    split at hx
    case h_2 => cases hx
    case h_1 l hh m hb =>
    injection hx with hx
    subst hx
    obtain ⟨r1, r2, r3, r4, r5⟩ := xbounds_sound (P := P) (w := w) h1 h2 h3 true hb (len' := len) (cap' := cap) rfl (Nat.le_refl _) hlc
    have hmm : (if mx.isSome then m else cap) = m := by
      cases mx with
      | none => simp [r5 rfl]
      | some _ => simp
    rw [hmm] at r1
    have hrun : ∀ a, (Instr.sliceAt t (.slice (some a) len cap) lo' hi' mx').run P w = .ok (.slice (some (if m = l then a else a.add (l * n))) (hh - l) (m - l)) w := fun a => by
      simp only [Instr.sliceAt, Sem.run_bind, run_underlying hu, Result.andThen_ok, Instr.slice, r1, hsz, Sem.run_pure]
      by_cases hq : m = l <;> simp [hq]
    cases hv with
    | slice _ _ _ _ en hen hlc' =>
      refine Sim.pure h (hrun _) ?_
      by_cases hq : m = l
      · rw [if_pos hq, if_pos hq]
        exact .slice _ _ _ _ en hen (by omega)
      · rw [if_neg hq, if_neg hq, at_add]
        exact .slice _ _ _ _ en hen (by omega)
    | sliceZ _ _ en a hen =>
      have e1 : m = l := by omega
      have e2 : hh - l = 0 := by omega
      have e3 : m - l = 0 := by omega
      refine Sim.pure h (hrun _) ?_
      rw [if_pos e1, if_pos e1, e2, e3]
      exact .sliceZ _ _ en a hen
  case h_4 b =>
    split at hx
    case h_2 => cases hx
    case h_1 e he =>
    have hu := slice_elem he
    split at hx
    case h_2 => cases hx
    case h_1 n hn =>
    have hsz := run_size hn w
    split at hx
    · rename_i hc
      simp only [Bool.and_eq_true, Option.isNone_iff_eq_none] at hc
      obtain ⟨⟨rfl, rfl⟩, rfl⟩ := hc
      injection hx with hx
      subst hx
      cases lo' with
      | some _ => exact h1.elim
      | none =>
      cases hi' with
      | some _ => exact h2.elim
      | none =>
      cases mx' with
      | some _ => exact h3.elim
      | none =>
      cases hv with
      | sl _ cap' en esz k rsz hen hl hnc hroom =>
      refine Sim.pure h (u := .slice (some (en.at 0)) k cap') ?_ (.sl _ _ _ _ _ _ hen hl hnc hroom)
      simp only [Instr.sliceAt, Sem.run_bind, run_underlying hu, Result.andThen_ok, Instr.slice, Instr.sliceBounds, hsz, Sem.run_pure]
      by_cases hq : cap' = 0 <;> simp [hq, Addr.add]
    · split at hx
      case h_2 => cases hx
      case h_1 cs esz len hg =>
      cases hv with
      | sl _ cap' en esz' n' rsz hen hl hnc _ =>
        obtain ⟨rsz2, hl2, _⟩ := loose_n h hen hg
        rw [hl] at hl2
        injection hl2 with hl2
        simp only [Prod.mk.injEq] at hl2
        obtain ⟨rfl, rfl, rfl⟩ := hl2
        exact xslicePart_sound h (.part _ _ _ _ _ hen hnc) h1 h2 h3 he hn hx
  case h_5 b o len =>
    split at hx
    case h_2 => cases hx
    case h_1 e he =>
    split at hx
    case h_2 => cases hx
    case h_1 n hn =>
    exact xslicePart_sound h hv h1 h2 h3 he hn hx
  case h_6 tg mm cs len =>
    split at hx
    case h_2 => cases hx
    case h_1 e he =>
    have hu := slice_elem he
    split at hx
    case h_2 => cases hx
    case h_1 n hn =>
    have hsz := run_size hn w
    split at hx
    case h_2 => cases hx
    case h_1 l hh m hb =>
    injection hx with hx
    subst hx
    cases hv with
    | row _ _ _ _ _ hd =>
    cases hd with
    | rowNil =>
      obtain ⟨r1, r2, r3, r4, r5⟩ := xbounds_sound (P := P) (w := w) h1 h2 h3 true hb (len' := 0) (cap' := 0) rfl (Nat.le_refl _) (Nat.le_refl _)
      have hl : l = 0 := by omega
      have hhh : hh = 0 := by omega
      have hm : m = 0 := by omega
      subst hl; subst hhh; subst hm
      refine Sim.pure h (u := .slice none 0 0) ?_ ?_
      · simp only [Instr.sliceAt, Sem.run_bind, run_underlying hu, Result.andThen_ok, Instr.slice, r1, hsz, Sem.run_pure]
        simp
      · simp only [Nat.zero_mul, List.drop_zero, Nat.sub_self, List.take_zero]
        exact .row _ _ _ _ _ (.rowNil _ _ _)
    | row _ _ _ _ _ us a cap q1 q2 q3 q4 q5 q6 =>
    obtain ⟨r1, r2, r3, r4, r5⟩ := xbounds_sound (P := P) (w := w) h1 h2 h3 true hb (len' := len) (cap' := cap) rfl q4 (Nat.le_refl _)
    have hrun : (Instr.sliceAt t (.slice (some a) len cap) lo' hi' mx').run P w = .ok (.slice (some (if (if mx.isSome then m else cap) = l then a else a.add (l * n))) (hh - l) ((if mx.isSome then m else cap) - l)) w := by
      simp only [Instr.sliceAt, Sem.run_bind, run_underlying hu, Result.andThen_ok, Instr.slice, r1, hsz, Sem.run_pure]
      by_cases hq : (if mx.isSome then m else cap) = l <;> simp [hq]
    refine Sim.pure h hrun (.row _ _ _ _ _ ?_)
    have hlen : ∀ i v, ((us.drop (l * n)).take ((hh - l) * n))[i]? = some v → us[l * n + i]? = some v ∧ 0 < hh - l := fun i v hi => by
      rw [List.getElem?_take] at hi
      split at hi
      · rename_i q
        rw [List.getElem?_drop] at hi
        refine ⟨hi, ?_⟩
        rcases Nat.eq_zero_or_pos (hh - l) with z | z
        · rw [z] at q; omega
        · exact z
      · cases hi
    refine .row _ _ _ _ _ ((us.drop (l * n)).take ((hh - l) * n)) _ _ (q1.cut _ _) (fun i v hi => ?_) ?_ ?_ ?_ ?_
    · obtain ⟨k1, k2⟩ := hlen i v hi
      have hz := q2 _ _ k1
      have hcl : ¬ ((if mx.isSome then m else cap) = l) := by
        split <;> omega
      rw [if_neg hcl]
      unfold Addr.add
      split
      · rename_i z; rw [z] at hz; simpa using hz
      · show ρ.z tg a.block (a.off + l * n + i) = some v
        rw [Nat.add_assoc]; exact hz
    · rcases q3 with q3 | q3
      · exact .inl (by omega)
      · refine .inr ?_
        have hadd : ∀ k, (a.add k).spot = none := fun k => by unfold Addr.add; split; exact q3; rfl
        by_cases z : (if mx.isSome = true then m else cap) = l
        · rw [if_pos z]; exact q3
        · rw [if_neg z]; exact hadd _
    · split <;> omega
    · cases mx with
      | none =>
        intro hm
        simp only [Bool.and_eq_true, beq_iff_eq] at hm
        have := q5 hm.1
        simp; omega
      | some _ =>
        intro hm
        simp only [beq_iff_eq] at hm
        simp; omega
    · intro v hv hl
      exact q6 v (List.mem_of_mem_drop (List.mem_of_mem_take hv)) hl

end
end Go.XM
