/- A plain machine beside the model, and that what it tells the model does: part Xk. Conditions: those of each theorem below. -/
import Derived.Test.YtlaamopkgopleaaXj
namespace Go.XM
open Go.RowKit
set_option linter.unusedVariables false

theorem extract_list (s : List UInt8) (l h : Nat) : (⟨s.toArray⟩ : ByteArray).extract l h = ⟨((s.take h).drop l).toArray⟩ := by
  rw [ByteArray.extract_mk]
  congr 1
  apply Array.toList_inj.1
  simp [List.drop_take]

section
variable {P : Program} {B : Nat} {w0 : World} {base : Nat} {ρ : Emb} {S : XS} {w : World}

theorem xslice_sound (h : Rel B w0 ρ S w) {t : TypeId} {x v : XV} {u : Value} {lo hi mx : Option XV} {lo' hi' mx' : Option Value} (hv : VR ρ x u) (h1 : OR ρ lo lo') (h2 : OR ρ hi hi') (h3 : OR ρ mx mx')
    (hx : xslice P S t x lo hi mx = some v) : Sim P B w0 base ρ S w (Instr.sliceAt t u lo' hi' mx') v S := by
  unfold xslice at hx
  split at hx
  case h_4 => cases hx
  case h_1 s =>
    split at hx
    case isFalse => cases hx
    rename_i hc
    simp only [Bool.and_eq_true, Option.isNone_iff_eq_none] at hc
    obtain ⟨hst, rfl⟩ := hc
    split at hx
    case h_2 => cases hx
    case h_1 l hh m hb =>
    injection hx with hx
    subst hx
    cases hv
    cases mx' with
    | some _ => exact h3.elim
    | none =>
    have hs : (⟨s.toArray⟩ : ByteArray).size = s.length := by simp [ByteArray.size]
    obtain ⟨r1, r2, r3, r4, r5⟩ := xbounds_sound (P := P) (w := w) (mx := none) (mx' := none) h1 h2 trivial false hb (len' := s.length) (cap' := s.length) rfl (Nat.le_refl _) (Nat.le_refl _)
    have hu := is_str hst
    refine Sim.pure h (u := .string ⟨((s.take hh).drop l).toArray⟩) ?_ (.str _)
    simp only [Option.isSome_none, Bool.false_eq_true, if_false] at r1
    simp [Instr.sliceAt, run_underlying hu, Instr.slice, hs, r1, extract_list]
  case h_2 =>
    split at hx
    case h_2 => cases hx
    case h_1 e he =>
    split at hx
    case h_2 => cases hx
    case h_1 n q hn hb =>
    obtain ⟨l, hh, m⟩ := q
    injection hx with hx
    subst hx
    cases hv
    obtain ⟨r1, r2, r3, r4, r5⟩ := xbounds_sound (P := P) (w := w) h1 h2 h3 true hb (len' := 0) (cap' := 0) rfl (Nat.le_refl _) (Nat.le_refl _)
    have hl : l = 0 := by omega
    have hhh : hh = 0 := by omega
    have hm : m = 0 := by omega
    subst hl; subst hhh; subst hm
    have hu := slice_elem he
    refine Sim.pure h (u := .slice none 0 0) ?_ .nilSlice
    simp only [Instr.sliceAt, Sem.run_bind, run_underlying hu, Result.andThen_ok, Instr.slice, r1, run_size hn, Sem.run_pure]
    simp
  case h_3 b o len cap =>
    split at hx
    case h_2 => cases hx
    case h_1 e he =>
    have hu := slice_elem he
    split at hx
    case h_2 => cases hx
    case h_1 n hn =>
    have hsz := run_size hn w
    split at hx
    case h_2 => cases hx
    case h_1 cs k hg =>
    split at hx
    · rename_i hre
      split at hx
      case isFalse => cases hx
      rename_i hk
      obtain ⟨rfl, hn0, hlcap⟩ := hk
      have ent : ∃ en, ρ b = some en := by
        cases hv with
        | slice _ _ _ _ en hen _ => exact ⟨en, hen⟩
        | sliceL _ _ _ _ cap' en esz nn rsz hen _ _ _ _ => exact ⟨en, hen⟩
        | sliceZ _ _ _ en a hen _ => exact ⟨en, hen⟩
      obtain ⟨en, hen⟩ := ent
      have hreach := (reaches_iff h hen hg o cap).symm.trans hre
      have hblk := h.blk b en hen
      rw [hg] at hblk
      obtain ⟨_, _, rsz, hlo, _⟩ := hblk.1
      have hcap : o + cap * n = cs.length := by simpa [Ent.reach, hlo] using hreach
      -- the real slice
      have real : ∃ a cap', u = .slice (some a) len cap' ∧ len ≤ cap' ∧ ((a = en.at o ∧ o + en.sh + cap' * n ≤ rsz) ∨ (len = 0 ∧ cap' = 0)) := by
        cases hv with
        | slice _ _ _ _ en' hen' hr' => rw [hen] at hen'; injection hen' with hen'; subst hen'; rw [hreach] at hr'; cases hr'
        | sliceL _ _ _ _ cap' en' esz nn rsz' hen' q1 q2 q3 q4 =>
          rw [hen] at hen'; injection hen' with hen'; subst hen'
          rw [hlo] at q1; injection q1 with q1; simp only [Prod.mk.injEq] at q1; obtain ⟨rfl, rfl, rfl⟩ := q1
          exact ⟨_, cap', rfl, q3, .inl ⟨rfl, q4⟩⟩
        | sliceZ _ _ _ en' a hen' q => exact ⟨a, 0, rfl, Nat.le_refl _, .inr ⟨rfl, rfl⟩⟩
      obtain ⟨a, cap', rfl, hlc, hcase⟩ := real
      split at hx
      case h_1 =>
        split at hx
        case h_2 => cases hx
        case h_1 l hh m hb =>
        injection hx with hx
        subst hx
        cases mx' with
        | some _ => exact h3.elim
        | none =>
        obtain ⟨r1, r2, r3, r4, r5⟩ := xbounds_sound (P := P) (w := w) (mx := none) (mx' := none) h1 h2 trivial true hb (len' := len) (cap' := cap') rfl hlc (Nat.le_refl _)
        simp only [Option.isSome_none, Bool.false_eq_true, if_false] at r1
        have hrun : (Instr.sliceAt t (.slice (some a) len cap') lo' hi' none).run P w = .ok (.slice (some (if cap' = l then a else a.add (l * n))) (hh - l) (cap' - l)) w := by
          simp only [Instr.sliceAt, Sem.run_bind, run_underlying hu, Result.andThen_ok, Instr.slice, r1, hsz, Sem.run_pure]
          by_cases hq : cap' = l <;> simp [hq]
        refine Sim.pure h hrun ?_
        rcases hcase with ⟨ha, hroom⟩ | ⟨rfl, rfl⟩
        · subst ha
          by_cases hq : cap' = l
          · have e1 : hh - l = 0 := by omega
            have e2 : cap' - l = 0 := by omega
            rw [if_pos hq, e1, e2]
            exact .sliceZ _ _ _ en _ hen (.inr (by
              simp only [Ent.reach, hlo, decide_eq_true_eq]
              have : l * n + (cap - l) * n = cap * n := by rw [← Nat.add_mul]; congr 1; omega
              omega))
          · rw [if_neg hq, at_add]
            have e3 : l * n + (cap - l) * n = cap * n := by rw [← Nat.add_mul]; congr 1; omega
            have e4 : l * n + (cap' - l) * n = cap' * n := by rw [← Nat.add_mul]; congr 1; omega
            exact .sliceL _ _ _ _ _ en n cs.length rsz hen hlo (by omega) (by omega) (by omega)
        · have e1 : hh - l = 0 := by omega
          have e2 : 0 - l = 0 := by omega
          have e5 : l = 0 := by omega
          subst e5
          rw [e1, e2, if_pos rfl]
          exact .sliceZ _ _ _ en _ hen (.inr (by simpa using hreach))
      case h_2 vq =>
        split at hx
        case h_2 => cases hx
        case h_1 l hh m hb =>
        injection hx with hx
        subst hx
        cases mx' with
        | none => exact h3.elim
        | some vq' =>
        obtain ⟨r1, r2, r3, r4, r5⟩ := xbounds_sound (P := P) (w := w) (mx := some vq) (mx' := some vq') h1 h2 h3 true hb (len' := len) (cap' := cap') rfl hlc (Nat.le_refl _)
        simp only [Option.isSome_some, if_true] at r1
        have hrun : (Instr.sliceAt t (.slice (some a) len cap') lo' hi' (some vq')).run P w = .ok (.slice (some (if m = l then a else a.add (l * n))) (hh - l) (m - l)) w := by
          simp only [Instr.sliceAt, Sem.run_bind, run_underlying hu, Result.andThen_ok, Instr.slice, r1, hsz, Sem.run_pure]
          by_cases hq : m = l <;> simp [hq]
        refine Sim.pure h hrun ?_
        by_cases hq : m = l
        · have e1 : hh - l = 0 := by omega
          have e2 : m - l = 0 := by omega
          rw [if_pos hq, if_pos hq, e1, e2]
          exact .sliceZ _ _ _ en _ hen (.inl rfl)
        · rw [if_neg hq, if_neg hq]
          rcases hcase with ⟨ha, hroom⟩ | ⟨rfl, rfl⟩
          · subst ha
            rw [at_add]
            refine .slice _ _ _ _ en hen ?_
            simp only [Ent.reach, hlo, decide_eq_false_iff_not]
            have e3 : l * n + (m - l) * n = m * n := by rw [← Nat.add_mul]; congr 1; omega
            have e4 : m * n < cap * n := Nat.mul_lt_mul_of_pos_right (by omega) hn0
            omega
          · omega
    · rename_i hre
      split at hx
      case isFalse => cases hx
      rename_i hlc
      split at hx
      case h_2 => cases hx
      case h_1 l hh m hb =>
      have ent : ∃ en, ρ b = some en := by
        cases hv with
        | slice _ _ _ _ en hen _ => exact ⟨en, hen⟩
        | sliceL _ _ _ _ cap' en esz nn rsz hen _ _ _ _ => exact ⟨en, hen⟩
        | sliceZ _ _ _ en a hen _ => exact ⟨en, hen⟩
      obtain ⟨en, hen⟩ := ent
      have hreach : en.reach o cap = false := (reaches_iff h hen hg o cap).symm.trans (by simpa using hre)
      have real : ∃ a, u = .slice (some a) len cap ∧ (a = en.at o ∨ cap = 0) := by
        cases hv with
        | slice _ _ _ _ en' hen' hr' => rw [hen] at hen'; injection hen' with hen'; subst hen'; exact ⟨_, rfl, .inl rfl⟩
        | sliceL _ _ _ _ cap' en' esz nn rsz' hen' q1 q2 q3 q4 =>
          rw [hen] at hen'; injection hen' with hen'; subst hen'
          have : en.reach o cap = true := by simp [Ent.reach, q1, q2]
          rw [hreach] at this; cases this
        | sliceZ _ _ _ en' a hen' q =>
          rw [hen] at hen'; injection hen' with hen'; subst hen'
          rcases q with q | q
          · subst q; exact ⟨a, rfl, .inr rfl⟩
          · rw [hreach] at q; cases q
      obtain ⟨a, rfl, hcase⟩ := real
      obtain ⟨r1, r2, r3, r4, r5⟩ := xbounds_sound (P := P) (w := w) h1 h2 h3 true hb (len' := len) (cap' := cap) rfl (Nat.le_refl _) hlc
      have hmm : (if mx.isSome then m else cap) = m := by
        cases mx with
        | none => simp [r5 rfl]
        | some _ => simp
      rw [hmm] at r1
      have hrun : (Instr.sliceAt t (.slice (some a) len cap) lo' hi' mx').run P w = .ok (.slice (some (if m = l then a else a.add (l * n))) (hh - l) (m - l)) w := by
        simp only [Instr.sliceAt, Sem.run_bind, run_underlying hu, Result.andThen_ok, Instr.slice, r1, hsz, Sem.run_pure]
        by_cases hq : m = l <;> simp [hq]
      split at hx
      · rename_i hq
        injection hx with hx
        subst hx
        refine Sim.pure h hrun ?_
        have e1 : hh - l = 0 := by omega
        have e2 : m - l = 0 := by omega
        rw [if_pos hq, e1, e2]
        exact .sliceZ _ _ _ en _ hen (.inl rfl)
      · rename_i hq
        split at hx
        · cases hx
        rename_i hnr
        injection hx with hx
        subst hx
        refine Sim.pure h hrun ?_
        rw [if_neg hq]
        rcases hcase with ha | ha
        · subst ha
          rw [at_add]
          exact .slice _ _ _ _ en hen ((reaches_iff h hen hg _ _).symm.trans (by simpa using hnr))
        · omega

end
end Go.XM
