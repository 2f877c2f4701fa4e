/- A plain machine beside the model, and that what it tells the model does: part Xm. Conditions: those of each theorem below. -/
import Derived.Test.YtlaamopkgopleaaXl
namespace Go.XM
set_option linter.unusedVariables false
set_option linter.unusedSimpArgs false
open Go.RowKit
set_option linter.unusedVariables false

/-! ### runes -/
theorem get_bang (s : List UInt8) (j : Nat) : (⟨s.toArray⟩ : ByteArray).get! j = (s[j]?).getD 0 := by
  show s.toArray[j]! = _
  rw [getElem!_def]
  simp
  cases s[j]? <;> rfl

theorem decode_dec (s : List UInt8) (i : Nat) (h : i < s.length) : Utf8.decode ⟨s.toArray⟩ i = decL (s.drop i) := by
  have hsz : (⟨s.toArray⟩ : ByteArray).size = s.length := by simp [ByteArray.size]
  have hd : s.drop i = s[i] :: s.drop (i + 1) := List.drop_eq_getElem_cons h
  rw [hd]
  have g0 : (⟨s.toArray⟩ : ByteArray).get! (i + 0) = s[i] := by rw [get_bang]; simp [h]
  have gk : ∀ k, (⟨s.toArray⟩ : ByteArray).get! (i + (k + 1)) = ((s.drop (i + 1))[k]?).getD 0 := fun k => by
    rw [get_bang, List.getElem?_drop, show i + (k + 1) = i + 1 + k by omega]
  have lk : ∀ k, (decide (i + (k + 1) < s.length)) = decide (k < (s.drop (i + 1)).length) := fun k => by
    rw [decide_eq_decide, List.length_drop]; omega
  have g1 := gk 0
  have g2 := gk 1
  have g3 := gk 2
  have l1 := lk 0
  have l2 := lk 1
  have l3 := lk 2
  simp only [Nat.zero_add, Nat.reduceAdd] at g1 g2 g3 l1 l2 l3
  simp only [Utf8.decode, decL, hsz, g0, g1, g2, g3, l1, l2, l3]
  rfl

theorem runes_from (s : List UInt8) : ∀ (n i : Nat) (acc : Array Value), Conv.runesFrom ⟨s.toArray⟩ n i acc = acc ++ ((runesL n (s.drop i)).map fun r => Value.int .i32 (Int.ofNat r)).toArray
  | 0, i, acc => by simp [Conv.runesFrom, runesL]
  | n + 1, i, acc => by
    have hsz : (⟨s.toArray⟩ : ByteArray).size = s.length := by simp [ByteArray.size]
    rw [Conv.runesFrom, hsz]
    split
    · rename_i h
      rw [decode_dec s i h]
      show Conv.runesFrom ⟨s.toArray⟩ n (i + (decL (s.drop i)).2) (acc.push (Value.int .i32 (Int.ofNat (decL (s.drop i)).1))) = _
      rw [runes_from s n]
      have hd : s.drop i = s[i] :: s.drop (i + 1) := List.drop_eq_getElem_cons h
      have : runesL (n + 1) (s.drop i) = (decL (s.drop i)).1 :: runesL n ((s.drop i).drop (decL (s.drop i)).2) := by
        rw [hd]; rfl
      rw [this, List.drop_drop]
      simp
    · rename_i h
      have : s.drop i = [] := List.drop_eq_nil_of_le (by omega)
      rw [this]
      simp [runesL]

theorem bytes_fold (ns : List Int) : ∀ (a : ByteArray), (ns.foldl (fun r n => r.push (UInt8.ofNat n.toNat)) a) = ⟨(a.data.toList ++ ns.map fun n => UInt8.ofNat n.toNat).toArray⟩ := by
  induction ns with
  | nil => intro a; simp
  | cons n ns ih =>
    intro a
    simp only [List.foldl_cons, List.map_cons]
    rw [ih]
    simp [ByteArray.push]

theorem allBytes_vr {ρ : Emb} : ∀ {cs : List XV} {us : List Value} {l : List UInt8}, VLs ρ cs us → allBytes cs = some l → ∃ ns : List Int, us = ns.map (Value.int .u8) ∧ l = ns.map fun n => UInt8.ofNat n.toNat
  | [], us, l, hv, h => by
    simp only [allBytes] at h; injection h with h; subst h
    have : us = [] := List.eq_nil_of_length_eq_zero hv.1.symm
    exact ⟨[], by rw [this]; rfl, rfl⟩
  | c :: cs, [], l, hv, h => by have := hv.1; simp at this
  | c :: cs, u :: us, l, hv, h => by
    unfold allBytes at h
    split at h
    · cases ‹c :: cs = []›
    · rename_i n r heq
      injection heq with he1 he2
      subst he1
      subst he2
      split at h
      · rename_i l' hl'
        injection h with h
        subst h
        obtain ⟨ns, hn1, hn2⟩ := allBytes_vr (ρ := ρ) (cs := cs) (us := us) ⟨by simpa using hv.1, fun i x v hx hy hl => hv.2 (i + 1) x v (by simpa using hx) (by simpa using hy) hl⟩ hl'
        have h1 := hv.2 0 (.int .u8 n) u (by simp) (by simp) rfl
        cases h1
        exact ⟨n :: ns, by simp [hn1], by simp [hn2]⟩
      · cases h
    · cases h

section
variable {P : Program} {B : Nat} {w0 : World} {base : Nat} {ρ : Emb} {S : XS} {w : World}

theorem blk_loose_fr {ρ : Emb} {B : Nat} {w : World} (hB : B ≤ w.heap.size) (cs : List XV) (arr : Array Value) (t : TypeId) (fr : Nat × Nat) (hfr : arr.size ≤ fr.1 ∨ fr.2 = 0) (esz n : Nat) (hz : 0 < esz)
    (hlen : cs.length = n * esz) (hle : n * esz ≤ arr.size) (hfl : Flat cs)
    (h : ∀ (i : Nat) (v : XV), cs[i]? = some v → v.live = true → ∃ u, arr[i]? = some u ∧ VR ρ v u) :
    BlkR ρ B (w.alloc (.cells arr t fr)) ⟨w.heap.size, 0, some (esz, n, arr.size)⟩ (.cells cs (.loose esz n)) := by
  have hc : ∀ i, (w.alloc (.cells arr t fr)).cell? ⟨w.heap.size, i, none⟩ = arr[i]? := fun i => by simp only [World.cell?, World.alloc, Array.getElem?_push_size]; rfl
  have hf : ∀ i, i < arr.size → (w.alloc (.cells arr t fr)).frozen? ⟨w.heap.size, i, none⟩ = false := fun i hi => by
    obtain ⟨f1, f2⟩ := fr
    simp only [World.frozen?, World.alloc, Array.getElem?_push_size]
    simp only at hfr
    rw [Bool.and_eq_false_iff, decide_eq_false_iff_not, decide_eq_false_iff_not]
    omega
  refine ⟨⟨hB, hz, hlen, hfl, arr.size, rfl, by simpa using hle, fun j hj => ?_⟩, fun o v ho hv => ?_⟩
  · rw [hc]
    exact ⟨by simp [hj], hf j hj⟩
  · obtain ⟨u, hu, hr⟩ := h o v ho hv
    have hat : Ent.at ⟨w.heap.size, 0, some (esz, n, arr.size)⟩ o = ⟨w.heap.size, o, none⟩ := rfl
    rw [hat]
    refine ⟨u, (hc o).trans hu, hr, fun _ => hf o ?_⟩
    rcases Nat.lt_or_ge o arr.size with hq | hq
    · exact hq
    · rw [Array.getElem?_eq_none hq] at hu; cases hu

/-- a loose row of cells, whatever room the tape gives -/
theorem loose_alloc (h : Rel B w0 ρ S w) (hb : base ≤ S.size) (cs : List XV) (us : List Value) (hv : VLs ρ cs us) (hfl : Flat cs) (esz n : Nat) (hz : 0 < esz) (hlen : cs.length = n * esz) (rest : Array Value) (t : TypeId) (fr : Nat × Nat)
    (hfr : us.length + rest.size ≤ fr.1 ∨ fr.2 = 0) :
    ∃ ρ', Rel B w0 ρ' (S.push (.cells cs (.loose esz n))) (w.drew.alloc (.cells (us.toArray ++ rest) t fr)) ∧
      Ev base ρ S w ρ' (S.push (.cells cs (.loose esz n))) (w.drew.alloc (.cells (us.toArray ++ rest) t fr)) [] ∧
      ρ' S.size = some ⟨w.heap.size, 0, some (esz, n, us.length + rest.size)⟩ := by
  have hd := rel_drew h
  have hB : B ≤ w.drew.heap.size := Nat.le_trans hd.Bw hd.below.size
  have hsz : (us.toArray ++ rest).size = us.length + rest.size := by simp
  have hl := hv.1
  obtain ⟨h1, h2⟩ := rel_alloc hd base hb (.cells cs (.loose esz n)) (.cells (us.toArray ++ rest) t fr) (some (esz, n, (us.toArray ++ rest).size))
    (blk_loose_fr hB _ _ t fr (by rw [hsz]; exact hfr) esz n hz hlen (by rw [hsz]; omega) hfl fun i v hi hlv => by
      have hq : i < us.length := by
        rw [← hl]
        rcases Nat.lt_or_ge i cs.length with q | q
        · exact q
        · rw [List.getElem?_eq_none q] at hi; cases hi
      have hu := List.getElem?_eq_getElem hq
      refine ⟨us[i], ?_, hv.2 i v _ hi hu hlv⟩
      rw [Array.getElem?_append_left (by simp; omega)]
      simp [hq])
  refine ⟨_, h1, ?_, ?_⟩
  · have := (ev_drew (base := base) (ρ := ρ) (S := S) (w := w)).trans hb h2
    simpa using this
  · rw [Emb.set_same, hsz]; simp

theorem choose_cap (need old : Nat) (e : TypeId) : ∃ c, need ≤ c ∧ (choose (.appendCap need old e)).run P w = .ok c w.drew := by
  refine ⟨_, ?_, rfl⟩
  simp [Question.cut]

theorem sim_loose {ρ' : Emb} {S' : XS} {w' : World} {s : Sem Value} {W : List (Nat × Nat)} (hr : Rel B w0 ρ' S' w') (he : Ev base ρ S w ρ' S' w' W) (hlog : S'.log = W ++ S.log) {r esz n rsz : Nat}
    (hk : ρ' S.size = some ⟨r, 0, some (esz, n, rsz)⟩) (cap' : Nat) (hn : n ≤ cap') (hc : cap' * esz ≤ rsz)
    (hs : s.run P w = .ok (.slice (some ⟨r, 0, none⟩) n cap') w') : Sim P B w0 base ρ S w s (.sl S.size) S' := by
  refine ⟨_, w', ρ', W, hs, ?_, hr, he, hlog⟩
  have := VR.sl (ρ := ρ') S.size cap' _ esz n rsz hk rfl hn (by simpa using hc)
  simpa [Ent.at] using this

theorem flat_ints (k : IntKind) (l : List Int) : Flat (l.map (.int k)) := fun v hv _ => by
  obtain ⟨n, _, rfl⟩ := List.mem_map.1 hv
  exact ⟨rfl, rfl⟩

/-- a row's real cells -/
theorem rowOf_sound (h : Rel B w0 ρ S w) {x : XV} {u : Value} {cs : List XV} (hv : VR ρ x u) (hx : rowOf S x = some cs) :
    ∃ a len cap us, u = .slice a len cap ∧ VLs ρ cs us ∧ us.length = len ∧ (a = none → len = 0) ∧ ∀ a', a = some a' → ∀ j v, us[j]? = some v → w.cell? (a'.add j) = some v := by
  unfold rowOf at hx
  split at hx
  · injection hx with hx
    subst hx
    cases hv
    exact ⟨none, 0, 0, [], rfl, .nil, rfl, fun _ => rfl, fun a' q => by cases q⟩
  · rename_i b o len cap
    have real : ∃ a, u = .slice (some a) len cap ∧ ∃ en, ρ b = some en ∧ (a = en.at o ∨ len = 0) := by
      cases hv with
      | slice _ _ _ _ en hen hlc => exact ⟨_, rfl, en, hen, .inl rfl⟩
      | sliceZ _ _ en a hen => exact ⟨a, rfl, en, hen, .inr rfl⟩
    obtain ⟨a, rfl, en, hen, ha⟩ := real
    obtain ⟨us, h1, h2, h3⟩ := cells_read h hen len o cs hx
    refine ⟨some a, len, cap, us, rfl, h1.vls, h2, (fun q => by cases q), fun a' q j v hj => ?_⟩
    injection q with q
    subst q
    rcases ha with rfl | ha
    · exact h3 j v hj
    · have : us = [] := List.eq_nil_of_length_eq_zero (by omega)
      rw [this] at hj; simp at hj
  · rename_i b o len
    have real : ∃ a cap', u = .slice (some a) len cap' ∧ ∃ en, ρ b = some en ∧ (a = en.at o ∨ len = 0) := by
      cases hv with
      | part _ _ _ cap' en hen _ => exact ⟨_, _, rfl, en, hen, .inl rfl⟩
      | partZ _ _ cap' en a hen => exact ⟨a, _, rfl, en, hen, .inr rfl⟩
    obtain ⟨a, cap', rfl, en, hen, ha⟩ := real
    obtain ⟨us, h1, h2, h3⟩ := cells_read h hen len o cs hx
    refine ⟨some a, len, cap', us, rfl, h1.vls, h2, (fun q => by cases q), fun a' q j v hj => ?_⟩
    injection q with q
    subst q
    rcases ha with rfl | ha
    · exact h3 j v hj
    · have : us = [] := List.eq_nil_of_length_eq_zero (by omega)
      rw [this] at hj; simp at hj
  · rename_i b
    split at hx
    case h_2 => cases hx
    case h_1 cs' esz n hg =>
    split at hx
    case isFalse => cases hx
    rename_i he1
    injection hx with hx
    subst hx
    subst he1
    obtain ⟨cap', us, en, _, rfl, _, _, h1, h2, h3⟩ := sl_cells h hv hg
    exact ⟨_, _, _, us, rfl, h1, by simpa using h2, (fun q => by cases q), fun a' q j v hj => by injection q with q; subst q; exact h3 j v hj⟩
  · rename_i t m cs' len
    split at hx
    case isFalse => cases hx
    rename_i hl
    injection hx with hx
    subst hx
    obtain ⟨a, cap, us, rfl, _, _, h1, _, h0, h2⟩ := row_cells h hv
    refine ⟨a, len, cap, us, rfl, h1, by rw [← h1.1]; exact hl, fun q => (h0 q).2.1, fun a' q j v hj => ?_⟩
    refine h2 a' q ?_ j v hj
    have : j < us.length := by
      rcases Nat.lt_or_ge j us.length with z | z
      · exact z
      · rw [List.getElem?_eq_none z] at hj; cases hj
    rw [← h1.1, hl] at this
    omega
  · cases hx

theorem freeze_alloc (w : World) (arr : Array Value) (t : TypeId) (c : Nat) : (w.alloc (.cells arr t)).freeze ⟨w.heap.size, c, none⟩ 1 = w.alloc (.cells arr t (c, c + 1)) := by
  have e : (w.heap.push (.cells arr t)).modify w.heap.size (fun
      | .cells c_1 elem (lo, hi) => .cells c_1 elem (if lo == hi then (c, c + 1) else (min lo c, max hi (c + 1)))
      | o => o) = w.heap.push (.cells arr t (c, c + 1)) := by
    apply Array.ext_getElem?
    intro i
    simp only [Array.getElem?_modify, Array.getElem?_push]
    by_cases hi : w.heap.size = i
    · subst hi; simp
    · rw [if_neg hi, if_neg (by omega), if_neg (by omega)]
  unfold World.freeze World.alloc
  rw [if_neg (by decide)]
  exact congrArg (fun h => ({ w with heap := h } : World)) e

theorem run_mark_new (w : World) (arr : Array Value) (t : TypeId) : (markStringish ⟨w.heap.size, 0, none⟩).run P (w.alloc (.cells arr t)) = .ok () (w.alloc (.cells arr t (arr.size, arr.size + 1))) := by
  have hs : (w.alloc (.cells arr t)).shape? w.heap.size = some (t, arr.size) := by
    simp only [World.shape?, World.alloc, Array.getElem?_push_size]
  simp only [markStringish, Sem.run_bind, run_shape, Result.andThen_ok, hs, run_freeze, freeze_alloc]

theorem xconvert_sound (h : Rel B w0 ρ S w) (hb : base ≤ S.size) {src dst : TypeId} {x v : XV} {u : Value} {S' : XS} (hv : VR ρ x u) (hx : xconvert P S src dst x = some (v, S')) :
    Sim P B w0 base ρ S w (convert src dst u) v S' := by
  unfold xconvert at hx
  split at hx
  · cases hx
  rename_i hsrc
  obtain ⟨ds, hds⟩ : ∃ d, P.underlying src = some d := by
    cases hq : P.underlying src with
    | none => rw [hq] at hsrc; simp at hsrc
    | some d => exact ⟨d, rfl⟩
  split at hx
  case h_1 k n =>
    cases hv
    split at hx
    · rename_i k' hk'
      injection hx with hx
      simp only [Prod.mk.injEq] at hx
      obtain ⟨rfl, rfl⟩ := hx
      refine Sim.pure h (u := .int k' (k'.wrap n)) ?_ (.int _ _)
      simp [convert, run_underlying hds, run_underlying (int_t hk'), Conv.intToInt]
    · split at hx
      · rename_i hst
        injection hx with hx
        simp only [Prod.mk.injEq] at hx
        obtain ⟨rfl, rfl⟩ := hx
        refine Sim.pure h (u := .string (Utf8.encode n)) ?_ ?_
        · simp [convert, run_underlying hds, run_underlying (is_str hst), Conv.intToString]
        · have := VR.str (ρ := ρ) (encL n)
          simpa [encL, bytes_eta] using this
      · cases hx
  case h_2 s =>
    cases hv
    split at hx
    · rename_i hst
      injection hx with hx
      simp only [Prod.mk.injEq] at hx
      obtain ⟨rfl, rfl⟩ := hx
      refine Sim.pure h (u := .string ⟨s.toArray⟩) ?_ (.str _)
      simp [convert, run_underlying hds, run_underlying (is_str hst)]
    · split at hx
      case h_2 => cases hx
      case h_1 e he =>
      have hue := slice_elem he
      split at hx
      · rename_i hu8
        injection hx with hx
        unfold looseOf at hx
        simp only [Prod.mk.injEq] at hx
        obtain ⟨rfl, rfl⟩ := hx
        have hsz : (⟨s.toArray⟩ : ByteArray).size = s.length := by simp [ByteArray.size]
        obtain ⟨c, hc, hrun⟩ := choose_cap (P := P) (w := w) s.length 0 e
        have hf1 : Flat (s.map fun b => .int .u8 b.toNat) := fun v hv _ => by
          obtain ⟨n, _, rfl⟩ := List.mem_map.1 hv
          exact ⟨rfl, rfl⟩
        have hv1 : VRs ρ (s.map fun b => .int .u8 b.toNat) (s.map fun b => Value.int .u8 b.toNat) := VRs.of_get (by simp) fun i x v hx hv => by
          simp only [List.getElem?_map, Option.map_eq_some_iff] at hx hv
          obtain ⟨a, ha, rfl⟩ := hx
          obtain ⟨b, hb, rfl⟩ := hv
          rw [ha] at hb; injection hb with hb; subst hb
          exact .int _ _
        obtain ⟨ρ', r1, r2, r3⟩ := loose_alloc h hb _ _ hv1.vls hf1 1 s.length (by omega) (by simp) (Array.replicate (c - s.length) (.int .u8 0)) e (c, c + 1) (.inl (by simp; omega))
        refine sim_loose (esz := 1) (n := s.length) r1 r2 rfl (by simpa using r3) c hc (by simp; omega) ?_
        have hmap : (⟨s.toArray⟩ : ByteArray).data.map (fun b => Value.int .u8 b.toNat) = (s.map fun b => Value.int .u8 b.toNat).toArray := by simp
        have hasz : ((s.map fun b : UInt8 => Value.int .u8 b.toNat).toArray ++ Array.replicate (c - s.length) (Value.int .u8 0)).size = c := by simp; omega
        have hm := run_mark_new (P := P) w.drew ((s.map fun b : UInt8 => Value.int .u8 b.toNat).toArray ++ Array.replicate (c - s.length) (Value.int .u8 0)) e
        rw [hasz, World.size_drew] at hm
        simp only [convert, Sem.run_bind, run_underlying hds, run_underlying hue, run_underlying (is_u8 hu8), Result.andThen_ok, Conv.stringToBytes, hsz, hrun, hmap, newRow, run_newObj, World.size_drew, World.alloc_eq, Sem.run_pure, hm]
      · split at hx
        · rename_i hi32
          injection hx with hx
          unfold looseOf at hx
          simp only [Prod.mk.injEq] at hx
          obtain ⟨rfl, rfl⟩ := hx
          have hsz : (⟨s.toArray⟩ : ByteArray).size = s.length := by simp [ByteArray.size]
          generalize hL : runesL s.length s = L
          obtain ⟨c, hc, hrun⟩ := choose_cap (P := P) (w := w) L.length 0 e
          have hf1 : Flat (L.map fun r => .int .i32 (Int.ofNat r)) := fun v hv _ => by
            obtain ⟨n, _, rfl⟩ := List.mem_map.1 hv
            exact ⟨rfl, rfl⟩
          have hv1 : VRs ρ (L.map fun r => .int .i32 (Int.ofNat r)) (L.map fun r => Value.int .i32 (Int.ofNat r)) := VRs.of_get (by simp) fun i x v hx hv => by
            simp only [List.getElem?_map, Option.map_eq_some_iff] at hx hv
            obtain ⟨a, ha, rfl⟩ := hx
            obtain ⟨b, hb, rfl⟩ := hv
            rw [ha] at hb; injection hb with hb; subst hb
            exact .int _ _
          obtain ⟨ρ', r1, r2, r3⟩ := loose_alloc h hb _ _ hv1.vls hf1 1 L.length (by omega) (by simp) (Array.replicate (c - L.length) (.int .i32 0)) e (0, 0) (.inr rfl)
          refine sim_loose (esz := 1) (n := L.length) r1 r2 rfl (by simpa using r3) c hc (by simp; omega) ?_
          have hfrom := runes_from s s.length 0 #[]
          simp only [List.drop_zero, hL] at hfrom
          have hel : (Conv.runesFrom ⟨s.toArray⟩ s.length 0 #[]) = (L.map fun r => Value.int .i32 (Int.ofNat r)).toArray := by rw [hfrom]; simp
          have hes : ((L.map fun r => Value.int .i32 (Int.ofNat r)).toArray).size = L.length := by simp
          simp only [convert, Sem.run_bind, run_underlying hds, run_underlying hue, run_underlying (is_i32 hi32), Result.andThen_ok, Conv.stringToRunes, hsz, hel, hes, hrun, newRow, run_newObj, World.size_drew, World.alloc_eq, Sem.run_pure]
        · cases hx
  case h_3 =>
    split at hx
    case h_2 => cases hx
    case h_1 e he =>
    split at hx
    case isFalse => cases hx
    rename_i hst
    simp only [Bool.and_eq_true] at hst
    split at hx
    case h_2 => cases hx
    case h_1 cs hcs =>
    split at hx
    case h_2 => cases hx
    case h_1 l hl =>
    injection hx with hx
    simp only [Prod.mk.injEq] at hx
    obtain ⟨rfl, rfl⟩ := hx
    obtain ⟨a, len, cap, us, rfl, h1, h2, h0, h3⟩ := rowOf_sound h hv hcs
    obtain ⟨ns, hn1, hn2⟩ := allBytes_vr h1 hl
    cases a with
    | none =>
      have := h0 rfl
      subst this
      have hus : us = [] := List.eq_nil_of_length_eq_zero h2
      rw [hus] at hn1
      have hns : ns = [] := by simpa using hn1.symm
      rw [hns] at hn2
      simp only [List.map_nil] at hn2
      subst hn2
      refine Sim.pure h (u := .string .empty) ?_ ?_
      · simp only [convert, Sem.run_bind, run_underlying (slice_elem he), run_underlying (is_str hst.1), run_underlying (is_u8 hst.2), Result.andThen_ok, Conv.bytesToString, Sem.run_pure]
      · exact VR.str []
    | some a =>
      have hload : (loadCells a len).run P w = .ok (ns.map (Value.int .u8)).toArray w := by
        have := run_loadCells_list (P := P) w a us (h3 a rfl)
        rw [h2, hn1] at this
        exact this
      have hb2 := run_bytesToString (P := P) w a len cap ns hload
      rw [bytes_fold] at hb2
      refine Sim.pure h (u := .string ⟨l.toArray⟩) ?_ (.str _)
      rw [run_convert_bytes_string w src dst e (some a) len cap (slice_elem he) (is_u8 hst.2) (is_str hst.1), hb2, hn2]
      simp

end
end Go.XM
