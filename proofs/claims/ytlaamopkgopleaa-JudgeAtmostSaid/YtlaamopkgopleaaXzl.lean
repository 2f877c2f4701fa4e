/- A plain machine beside the model, and that what it tells the model does: part Xzl. Conditions: those of each theorem below. -/
import Derived.Test.YtlaamopkgopleaaXzk
namespace Go.XM
set_option linter.unusedVariables false
set_option linter.unusedSimpArgs false
set_option linter.unusedVariables false
set_option linter.unusedSimpArgs false

section
variable {P : Program} {A : Type} {r : A}

theorem bleI (a b : Nat) : Nat.ble a b = true ↔ a ≤ b := by rw [Nat.ble_eq]
theorem beqI (a b : Nat) : Nat.beq a b = true ↔ a = b := by rw [Nat.beq_eq]
theorem gd_some {b : Bool} {k : Option A} (h : gd b k = some r) : b = true ∧ k = some r := by
  unfold gd at h
  cases b with
  | true => exact ⟨rfl, h⟩
  | false => cases h

theorem within_iff {i : Int} {n : Nat} : within i n = true ↔ 0 ≤ i ∧ i < n := by
  unfold within
  rw [ile_eq, ilt_eq, Bool.and_eq_true, decide_eq_true_eq, decide_eq_true_eq]
  rfl
theorem upto_iff {i : Int} {n : Nat} : upto i n = true ↔ 0 ≤ i ∧ i ≤ n := by
  unfold upto
  rw [ile_eq, ile_eq, Bool.and_eq_true, decide_eq_true_eq, decide_eq_true_eq]
  rfl

theorem kcell_sound {z : XV} {cs : List XV} {o : Nat} {k : XV → Option A} (h : kcell z cs o k = some r) : ∃ v, cellAt cs o = some v ∧ k v = some r := by
  have live : ∀ v, cs[o]? = some v → v.live = true → cellAt cs o = some v := fun v hv hl => by
    unfold cellAt; rw [hv]; simp [hl]
  unfold kcell at h
  split at h
  · unfold rdI at h
    split at h
    · rename_i kd' n hn
      obtain ⟨hc, h⟩ := gd_some h
      have he := of_decide_eq_true hc
      subst he
      exact ⟨_, live _ hn rfl, h⟩
    · cases h
  · unfold rdB at h
    split at h
    · rename_i b hn; exact ⟨_, live _ hn rfl, h⟩
    · cases h
  · unfold rdS at h
    split at h
    · rename_i b hn; exact ⟨_, live _ hn rfl, h⟩
    · cases h
  · unfold rdR at h
    split at h
    · rename_i hn; exact ⟨_, live _ hn rfl, h⟩
    · cases h
  · split at h
    · rename_i v hv; exact ⟨v, hv, h⟩
    · cases h

theorem kcells_sound {cs : List XV} : ∀ {zs : List XV} {o : Nat} {k : List XV → Option A}, kcells cs zs o k = some r → ∃ l, cellsL cs o zs.length = some l ∧ k l = some r
  | [], o, k, h => ⟨[], rfl, h⟩
  | z :: zs, o, k, h => by
    simp only [kcells] at h
    obtain ⟨v, hv, h⟩ := kcell_sound h
    obtain ⟨l, hl, h⟩ := kcells_sound h
    exact ⟨v :: l, by simp only [List.length_cons, cellsL, hv, hl], h⟩

theorem kread_sound {t : TypeId} {cs : List XV} {o : Nat} {k : XV → Option A} (h : kread P t cs o k = some r) :
    ∃ v, (match tagg P t with
      | some true => match tsize P t with
        | some n => match cellsL cs o n with
          | some l => some (.agg l)
          | none => none
        | none => none
      | some false => cellAt cs o
      | none => none) = some v ∧ k v = some r := by
  unfold kread at h
  split at h
  · rename_i n zs ht hn hz
    cases hq : (zs.length == n) with
    | false => rw [hq] at h; cases h
    | true =>
      rw [hq] at h
      have he : zs.length = n := by simpa using hq
      obtain ⟨l, hl, h⟩ := kcells_sound h
      refine ⟨.agg l, ?_, h⟩
      rw [ht, hn, ← he]
      simp only [hl]
  · rename_i _ z ht hz
    obtain ⟨v, hv, h⟩ := kcell_sound h
    exact ⟨v, by rw [ht]; exact hv, h⟩
  · cases h

theorem cell_of_get {S : XS} {b : Nat} {cs : List XV} {kd : XKind} (hg : S.get b = .cells cs kd) (o : Nat) : S.cell b o = cellAt cs o := by unfold XS.cell; rw [hg]
theorem cellsFrom_of_get {S : XS} {b : Nat} {cs : List XV} {kd : XKind} (hg : S.get b = .cells cs kd) : ∀ (n o : Nat), S.cellsFrom b o n = cellsL cs o n
  | 0, o => rfl
  | n + 1, o => by
    simp only [XS.cellsFrom, cellsL, cell_of_get hg, cellsFrom_of_get hg n (o + 1)]

theorem kload_sound {S : XS} {t : TypeId} {p : XV} {k : XV → Option A} (h : kload P S t p k = some r) : ∃ v, xload P S t p = some v ∧ k v = some r := by
  unfold kload at h
  split at h
  · obtain ⟨v, hv, h⟩ := kread_sound h
    exact ⟨v, by unfold xload; exact hv, h⟩
  · rename_i b o
    split at h
    · rename_i cs kd hg
      split at h
      · obtain ⟨v, hv, h⟩ := kread_sound h
        refine ⟨v, ?_, h⟩
        unfold xload
        simp only [cellsFrom_of_get hg, cell_of_get hg]
        exact hv
      · split at h
        · rename_i v hv; exact ⟨v, hv, h⟩
        · cases h
    · cases h
  · cases h

theorem kindexAddr_sound {S : XS} {t : TypeId} {x ix : XV} {k : XV → Option A} (h : kindexAddr P S t x ix k = some r) : ∃ v, xindexAddr P S t x ix = some v ∧ k v = some r := by
  unfold kindexAddr at h
  split at h
  · rename_i e kk i hu
    unfold xindexAddr
    rw [hu]
    simp only
    split at h
    · rename_i n hn
      rw [hn]
      simp only
      split at h
      · obtain ⟨hb, h⟩ := gd_some h
        refine ⟨_, ?_, h⟩
        simp only
        rw [if_pos (within_iff.1 hb)]
      · obtain ⟨hb, h⟩ := gd_some h
        refine ⟨_, ?_, h⟩
        simp only
        rw [if_pos (within_iff.1 hb)]
      · split at h
        · rename_i hg
          obtain ⟨hb, h⟩ := gd_some h
          refine ⟨_, ?_, h⟩
          simp only [hg]
          rw [if_pos (within_iff.1 hb)]
        · cases h
      · obtain ⟨hb, h⟩ := gd_some h
        refine ⟨_, ?_, h⟩
        simp only
        rw [if_pos (within_iff.1 hb)]
      · cases h
    · cases h
  · split at h
    · rename_i v hv; exact ⟨v, hv, h⟩
    · cases h

theorem kindex_sound {t : TypeId} {x ix : XV} {k : XV → Option A} (h : kindex P t x ix k = some r) : ∃ v, xindex P t x ix = some v ∧ k v = some r := by
  unfold kindex at h
  split at h
  · rename_i s kk i hu
    obtain ⟨hb, h⟩ := gd_some h
    rw [ile_eq, decide_eq_true_eq] at hb
    split at h
    · rename_i b hs
      refine ⟨_, ?_, h⟩
      unfold xindex
      rw [hu]
      simp only [hs]
      rw [if_pos hb]
    · cases h
  · split at h
    · rename_i v hv; exact ⟨v, hv, h⟩
    · cases h

theorem kbound_sound {v : XV} {y : Nat} {k : Nat → Option A} (h : kbound v y k = some r) : ∃ n, xbound v y = some n ∧ k n = some r := by
  unfold kbound at h
  split at h
  · obtain ⟨hb, h⟩ := gd_some h
    exact ⟨_, by unfold xbound; simp only; rw [if_pos (upto_iff.1 hb)], h⟩
  · cases h

theorem kbounds_sound {len cap : Nat} {low high max : Option XV} {k : Nat → Nat → Nat → Option A} (h : kbounds len cap low high max k = some r) : ∃ l hh m, xbounds len cap low high max = some (l, hh, m) ∧ k l hh m = some r := by
  have k3 : ∀ m hh, kb3 low m hh k = some r → ∃ l, (match low with | some v => xbound v hh | none => some 0) = some l ∧ k l hh m = some r := fun m hh h => by
    unfold kb3 at h
    split at h
    · exact kbound_sound h
    · exact ⟨0, rfl, h⟩
  unfold kbounds at h
  unfold xbounds
  cases max with
  | some v =>
    obtain ⟨m, q1, h⟩ := kbound_sound h
    simp only [q1]
    unfold kb2 at h
    cases high with
    | some vh =>
      obtain ⟨hh, q2, h⟩ := kbound_sound h
      obtain ⟨l, q3, h⟩ := k3 m hh h
      exact ⟨l, hh, m, by cases low <;> simp_all, h⟩
    | none => cases h
  | none =>
    simp only
    unfold kb2 at h
    cases high with
    | some vh =>
      obtain ⟨hh, q2, h⟩ := kbound_sound h
      obtain ⟨l, q3, h⟩ := k3 cap hh h
      exact ⟨l, hh, cap, by cases low <;> simp_all, h⟩
    | none =>
      obtain ⟨l, q3, h⟩ := k3 cap len h
      exact ⟨l, len, cap, by cases low <;> simp_all, h⟩

theorem kslicePart_sound {n b o len : Nat} {low high max : Option XV} {k : XV → Option A} (h : kslicePart n b o len low high max k = some r) : ∃ v, xslicePart n b o len low high max = some v ∧ k v = some r := by
  unfold kslicePart at h
  unfold xslicePart
  split at h
  · obtain ⟨l, hh, m, q, h⟩ := kbounds_sound h
    simp only [q]; exact ⟨_, rfl, h⟩
  · obtain ⟨l, hh, m, q, h⟩ := kbounds_sound h
    simp only [q]; exact ⟨_, rfl, h⟩

theorem kslice_sound {S : XS} {t : TypeId} {x : XV} {low high max : Option XV} {k : XV → Option A} (h : kslice P S t x low high max k = some r) : ∃ v, xslice P S t x low high max = some v ∧ k v = some r := by
  unfold kslice at h
  split at h
  · split at h
    · rename_i hc
      obtain ⟨l, hh, m, q, h⟩ := kbounds_sound h
      unfold xslice
      simp only
      rw [if_pos hc]
      simp only [q]; exact ⟨_, rfl, h⟩
    · cases h
  · split at h
    · rename_i e he
      split at h
      · rename_i n hn
        unfold xslice
        simp only [he, hn]
        split at h
        · rename_i hc
          rw [if_pos hc]; exact ⟨_, rfl, h⟩
        · rename_i hc
          rw [if_neg hc]
          split at h
          · rename_i hg
            simp only [hg]
            exact kslicePart_sound h
          · cases h
      · cases h
    · cases h
  · split at h
    · rename_i e he
      split at h
      · rename_i n hn
        unfold xslice
        simp only [he, hn]
        exact kslicePart_sound h
      · cases h
    · cases h
  · split at h
    · rename_i e he
      split at h
      · rename_i n hn
        obtain ⟨l, hh, m, q, h⟩ := kbounds_sound h
        unfold xslice
        simp only [he, hn, q]
        exact ⟨_, rfl, h⟩
      · cases h
    · cases h
  · split at h
    · rename_i v hv; exact ⟨v, hv, h⟩
    · cases h

theorem knext_sound {base : Nat} {S : XS} {x : XV} {k : XV → XS → Option A} (h : knext base S x k = some r) : ∃ v S', xnext base S x = some (v, S') ∧ k v S' = some r := by
  unfold knext at h
  split at h
  · split at h
    · rename_i s pos hg
      unfold xnext
      simp only [hg]
      cases hq : Nat.ble (pos + 1) s.length with
      | true =>
        rw [hq] at h
        have : pos < s.length := (bleI _ _).1 hq
        rw [if_pos this]; exact ⟨_, _, rfl, h⟩
      | false =>
        rw [hq] at h
        have : ¬ pos < s.length := by
          intro z
          have : Nat.ble (pos + 1) s.length = true := (bleI _ _).2 z
          rw [hq] at this; cases this
        rw [if_neg this]; exact ⟨_, _, rfl, h⟩
    · cases h
  · cases h

theorem fitsB_iff {n b : Nat} : fitsB n b = true ↔ n * b ≤ 35184372088832 := by unfold fitsB; exact bleI _ _

theorem kappended_sound {S : XS} {e : TypeId} {x : XV} {k : List XV → Nat → Option A} (h : kappended P S e x k = some r) : ∃ new n, xappended P S e false x = some (new, n) ∧ k new n = some r := by
  unfold kappended at h
  split at h
  · cases h
  · rename_i size hsz
    split at h
    · split at h
      · rename_i hg
        obtain ⟨hb, h⟩ := gd_some h
        simp only [Bool.and_eq_true, Nat.beq_eq] at hb
        refine ⟨_, _, ?_, h⟩
        unfold xappended
        simp only [hsz, Bool.false_eq_true, if_false, hg]
        rw [if_pos hb]
      · cases h
    · obtain ⟨hb, h⟩ := gd_some h
      simp only [Bool.and_eq_true, Nat.beq_eq] at hb
      refine ⟨_, _, ?_, h⟩
      unfold xappended
      simp only [hsz, Bool.false_eq_true, if_false]
      rw [if_pos hb]
    · split at h
      · rename_i new n hx; exact ⟨new, n, hx, h⟩
      · cases h

theorem kappend_sound {base : Nat} {S : XS} {t : TypeId} {s : XV} {new : List XV} {n : Nat} {k : XV → XS → Option A} (h : kappend P base S t s new n k = some r) : ∃ v S', xappend P base S t s new n = some (v, S') ∧ k v S' = some r := by
  unfold kappend at h
  split at h
  case h_2 => cases h
  rename_i e he
  split at h
  case h_2 => cases h
  rename_i i hi
  obtain ⟨hb, h⟩ := gd_some h
  simp only [Bool.and_eq_true, Bool.not_eq_true', Nat.beq_eq] at hb
  obtain ⟨⟨⟨b1, b2⟩, b3⟩, b4⟩ := hb
  have hcond : ¬ (i.size = 0 ∨ i.bytes = 0 ∨ new.length ≠ n * i.size ∨ ¬ zeroOK P e i.size) := by
    simp only [not_or, Decidable.not_not]
    refine ⟨fun q => ?_, fun q => ?_, b3, b4⟩
    · rw [q] at b1; cases b1
    · rw [q] at b2; cases b2
  have n0 : ∀ {x y : Option A}, cond (Nat.beq n 0) x y = some r → (n = 0 ∧ x = some r) ∨ (n ≠ 0 ∧ y = some r) := fun {x y} h => by
    cases hq : Nat.beq n 0 with
    | true => rw [hq] at h; exact .inl ⟨(beqI _ _).1 hq, h⟩
    | false => rw [hq] at h; exact .inr ⟨fun z => (by subst z; cases hq), h⟩
  unfold xappend
  simp only [he, hi]
  rw [if_neg hcond]
  split at h
  · simp only
    rcases n0 h with ⟨hn, h⟩ | ⟨hn, h⟩
    · rw [if_pos hn]; exact ⟨_, _, rfl, h⟩
    · obtain ⟨hf, h⟩ := gd_some h
      rw [if_neg hn, if_pos (fitsB_iff.1 hf)]; exact ⟨_, _, rfl, h⟩
  · simp only
    rcases n0 h with ⟨hn, h⟩ | ⟨hn, h⟩
    · rw [if_pos hn]; exact ⟨_, _, rfl, h⟩
    · rw [if_neg hn]
      split at h
      · rename_i hg
        obtain ⟨hf, h⟩ := gd_some h
        simp only [Bool.and_eq_true, Nat.beq_eq] at hf
        simp only [hg]
        rw [if_pos ⟨hf.1, fitsB_iff.1 hf.2⟩]; exact ⟨_, _, rfl, h⟩
      · cases h
  · simp only
    rcases n0 h with ⟨hn, h⟩ | ⟨hn, h⟩
    · rw [if_pos hn]; exact ⟨_, _, rfl, h⟩
    · obtain ⟨hf, h⟩ := gd_some h
      simp only [Bool.and_eq_true, Nat.beq_eq] at hf
      rw [if_neg hn, if_pos ⟨hf.1.1, hf.1.2, fitsB_iff.1 hf.2⟩]; exact ⟨_, _, rfl, h⟩
  · split at h
    · rename_i v S' hx
      unfold xappend at hx
      simp only [he, hi] at hx
      rw [if_neg hcond] at hx
      exact ⟨v, S', hx, h⟩
    · cases h

theorem kconvert_sound {S : XS} {src dst : TypeId} {x : XV} {k : XV → XS → Option A} (h : kconvert P S src dst x k = some r) : ∃ v S', xconvert P S src dst x = some (v, S') ∧ k v S' = some r := by
  unfold kconvert at h
  split at h
  · split at h
    · cases h
    rename_i hs
    split at h
    · rename_i e he
      split at h
      · rename_i hc
        obtain ⟨hb, h⟩ := gd_some h
        have hb' := (beqI _ _).1 hb
        split at h
        · rename_i l hl
          refine ⟨_, _, ?_, h⟩
          unfold xconvert
          rw [if_neg hs]
          simp only [he]
          rw [if_pos hc]
          simp only [rowOf]
          rw [if_pos hb']
          simp only [hl]
        · cases h
      · cases h
    · cases h
  · split at h
    · rename_i v S' hx; exact ⟨v, S', hx, h⟩
    · cases h

theorem kmake_sound {S : XS} {t : TypeId} {len cap : XV} {k : XV → XS → Option A} (h : kmake P S t len cap k = some r) : ∃ v S', xmakeSlice P S t len cap = some (v, S') ∧ k v S' = some r := by
  unfold kmake at h
  split at h
  · rename_i e kl l kc c he
    split at h
    · rename_i i hi
      split at h
      · rename_i z hz
        obtain ⟨hb, h⟩ := gd_some h
        simp only [Bool.and_eq_true, ile_eq, decide_eq_true_eq, Nat.beq_eq, Nat.ble_eq] at hb
        obtain ⟨⟨⟨⟨⟨b1, b2⟩, b3⟩, b4⟩, b5⟩, b6⟩ := hb
        refine ⟨_, _, ?_, h⟩
        unfold xmakeSlice
        simp only [he, hi, hz]
        rw [if_pos ⟨b1, b2, b3, b4, b5, b6⟩]
      · cases h
    · cases h
  · cases h

theorem kEqFields_sound {d : Nat} {xs ys : List XV} : ∀ {fs : List Field} {k : Bool → Option A}, kEqFields P xs ys fs k = some r → ∃ b, xEqFields P (xEqIn P (d + 1)) xs ys fs = some b ∧ k b = some r
  | [], k, h => ⟨true, rfl, h⟩
  | f :: fs, k, h => by
    simp only [kEqFields] at h
    simp only [xEqFields]
    have fin : ∀ {c : Bool}, cond c (kEqFields P xs ys fs k) (k false) = some r → ∃ b, (match some c with | some true => xEqFields P (xEqIn P (d + 1)) xs ys fs | some false => some false | none => none) = some b ∧ k b = some r := fun {c} h => by
      cases c with
      | true => exact kEqFields_sound h
      | false => exact ⟨false, rfl, h⟩
    split at h
    · rename_i hn
      rw [if_pos hn]
      split at h
      · rename_i a b ha hb
        rw [ha, hb]
        simp only
        split at h
        · rename_i hu
          have := fin h
          simp only [xEqIn, hu]
          exact this
        · cases h
      · rename_i ka a kb b ha hb
        rw [ha, hb]
        simp only
        split at h
        · rename_i hu
          split at h
          · rename_i hk
            have := fin h
            simp only [xEqIn, hu]
            rw [if_pos hk]
            exact this
          · cases h
        · cases h
      · rename_i a b ha hb
        rw [ha, hb]
        simp only
        split at h
        · rename_i hu
          have := fin h
          simp only [xEqIn, hu]
          exact this
        · cases h
      · cases h
    · rename_i hn
      rw [if_neg hn]
      exact kEqFields_sound h

theorem kbin_sound {op : BinOp} {t : TypeId} {x y : XV} {k : XV → Option A} (h : kbin P op t x y k = some r) : ∃ v, xbin P op t x y = some v ∧ k v = some r := by
  unfold kbin at h
  split at h
  · obtain ⟨hb, h⟩ := gd_some h
    rw [ile_eq, decide_eq_true_eq] at hb
    simp only [xbin]
    rw [if_neg (by omega)]; exact ⟨_, rfl, h⟩
  · obtain ⟨hb, h⟩ := gd_some h
    rw [ile_eq, decide_eq_true_eq] at hb
    simp only [xbin]
    rw [if_neg (by omega)]; exact ⟨_, rfl, h⟩
  · obtain ⟨hb, h⟩ := gd_some h
    have hb' := (bleI _ _).1 hb
    simp only [xbin]
    rw [if_pos hb']; exact ⟨_, rfl, h⟩
  · rename_i op xs ys
    split at h
    · rename_i fs hu
      split at h
      · cases h
      rename_i hc
      split at h
      · obtain ⟨b, hb, h⟩ := kEqFields_sound (d := 98) h
        refine ⟨.bool b, ?_, h⟩
        simp only [xbin]
        have : xEqIn P 100 t (.agg xs) (.agg ys) = some b := by
          unfold xEqIn
          rw [hu]
          simp only
          rw [if_neg hc]
          exact hb
        rw [this]
      · obtain ⟨b, hb, h⟩ := kEqFields_sound (d := 98) h
        refine ⟨.bool !b, ?_, h⟩
        simp only [xbin]
        have : xEqIn P 100 t (.agg xs) (.agg ys) = some b := by
          unfold xEqIn
          rw [hu]
          simp only
          rw [if_neg hc]
          exact hb
        rw [this]
      · cases h
    · cases h
  · split at h
    · rename_i v hv; exact ⟨v, hv, h⟩
    · cases h

end
end Go.XM
