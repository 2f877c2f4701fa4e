/- A plain machine beside the model, and that what it tells the model does: part Xzi. Conditions: those of each theorem below. -/
import Derived.Test.YtlaamopkgopleaaXzh
import Derived.ChangeArms
import Derived.DataReads
namespace Go.XM
set_option linter.unusedVariables false
set_option linter.unusedSimpArgs false
open Go.RowKit
set_option linter.unusedVariables false

/-! ### what a row of the claim reads, as plain data -/
def inRow (P : Program) : List Field → Nat → Nat → Bool
  | [], o, m => o == m
  | f :: r, o, m => f.offset == o && inRow P r (o + P.cellsOf f.type) m

/-- booleans, whole numbers, strings, rows and structs of such -/
def plainTy (P : Program) : Nat → TypeId → Bool
  | 0, _ => false
  | n + 1, t => match P.underlying t with
    | some .bool => true
    | some (.int _) => true
    | some .string => true
    | some (.slice e) => decide (0 < P.cellsOf e) && plainTy P n e
    | some (.struct fs) => inRow P fs.toList 0 (P.cellsOf t) && fs.toList.all (fun f => plainTy P n f.type)
    | _ => false

def Segs (R : TypeId → List XV → Prop) : List Field → List XV → Prop
  | [], xs => xs = []
  | f :: r, xs => ∃ a b, xs = a ++ b ∧ R f.type a ∧ Segs R r b

def Shaped (P : Program) : Nat → TypeId → List XV → Prop
  | 0, _, _ => False
  | n + 1, t, xs => match P.underlying t with
    | some .bool => ∃ b, xs = [.bool b]
    | some (.int k) => ∃ i, xs = [.int k i] ∧ (Lit.int k i).wf = true
    | some .string => ∃ s, xs = [.str s] ∧ s.length ≤ maxLen
    | some (.slice e) => ∃ els : List (List XV), xs = [.row false false els.flatten els.length] ∧ els.length ≤ maxLen ∧ ∀ el, el ∈ els → Shaped P n e el ∧ el.length = P.cellsOf e
    | some (.struct fs) => Segs (Shaped P n) fs.toList xs
    | _ => False

theorem DRs.append {z : ZMap} : ∀ {xs : List XV} {us : List Value} {ys : List XV} {vs : List Value}, DRs z xs us → DRs z ys vs → DRs z (xs ++ ys) (us ++ vs)
  | _, _, _, _, .nil _, k => k
  | _, _, _, _, .cons _ x v xs vs h1 h2, k => .cons _ x v _ _ h1 (h2.append k)
theorem DRs.length {z : ZMap} : ∀ {xs : List XV} {vs : List Value}, DRs z xs vs → xs.length = vs.length
  | _, _, .nil _ => rfl
  | _, _, .cons _ _ _ _ _ _ h => by simp [h.length]

theorem flatten_get {α : Type} {sz : Nat} (hs : 0 < sz) : ∀ (L : List (List α)), (∀ l, l ∈ L → l.length = sz) → ∀ k v, L.flatten[k]? = some v → ∃ l, L[k / sz]? = some l ∧ l[k % sz]? = some v
  | [], _, k, v, h => by simp at h
  | l :: L, hl, k, v, h => by
    have h0 := hl l (by simp)
    rw [List.flatten_cons] at h
    rcases Nat.lt_or_ge k sz with q | q
    · rw [List.getElem?_append_left (by omega)] at h
      rw [Nat.div_eq_of_lt q, Nat.mod_eq_of_lt q]
      exact ⟨l, by simp, h⟩
    · rw [List.getElem?_append_right (by omega)] at h
      obtain ⟨l', q1, q2⟩ := flatten_get hs L (fun l hm => hl l (by simp [hm])) (k - l.length) v h
      rw [h0] at q1 q2
      refine ⟨l', ?_, ?_⟩
      · have : k / sz = (k - sz) / sz + 1 := by rw [← Nat.sub_add_cancel q, Nat.add_div_right _ hs, Nat.sub_add_cancel q]
        rw [this]; simpa using q1
      · have : k % sz = (k - sz) % sz := by conv => lhs; rw [← Nat.sub_add_cancel q, Nat.add_mod_right]
        rw [this]; exact q2

theorem cell_plain {w : World} {a : Addr} {v : Value} (h : w.cell? a = some v) : a.spot = none ∧ w.cell? ⟨a.block, a.off, none⟩ = some v := by
  obtain ⟨r, o, sp⟩ := a
  cases sp with
  | none => exact ⟨rfl, h⟩
  | some s =>
    unfold World.cell? at h
    simp only at h
    split at h
    · simp at h
    · cases h

theorem add_parts (a : Addr) (n : Nat) : (a.add n).block = a.block ∧ (a.add n).off = a.off + n := by
  unfold Addr.add
  split
  · rename_i h; subst h; exact ⟨rfl, rfl⟩
  · exact ⟨rfl, rfl⟩

section
variable {P : Program} {H : Type} {enc : TypeId × Value → H} {w : World} {sp : Nat → Bool} {held : Bool}

theorem segs_of {n : Nat} (ih : ∀ (fuel : Nat) (t : TypeId) (cs : List Value) (x : DataW H × List MemPlace), plainTy P n t = true → DataW.trod enc P w 0 sp held fuel t cs = some x → ∃ xs, Shaped P n t xs ∧ DRs (snap w) xs cs ∧ ∀ v, v ∈ xs → v.oneCell = true)
    {cs : List Value} {m : Nat} {k : Nat} : ∀ (fs : List Field) (o : Nat), inRow P fs o m = true → m = cs.length → (∀ f, f ∈ fs → plainTy P n f.type = true) →
    (∀ f, f ∈ fs → ∃ x, DataW.trod enc P w 0 sp held k f.type ((cs.drop f.offset).take (P.cellsOf f.type)) = some x) → ∃ xs, Segs (Shaped P n) fs xs ∧ DRs (snap w) xs (cs.drop o) ∧ ∀ v, v ∈ xs → v.oneCell = true
  | [], o, hin, hm, hp, ht => by
    simp only [inRow, beq_iff_eq] at hin
    refine ⟨[], rfl, ?_, fun v hv => by cases hv⟩
    rw [List.drop_of_length_le (by omega)]
    exact .nil _
  | f :: fs, o, hin, hm, hp, ht => by
    simp only [inRow, Bool.and_eq_true, beq_iff_eq] at hin
    obtain ⟨rfl, hin⟩ := hin
    obtain ⟨x, hx⟩ := ht f (by simp)
    obtain ⟨a, a1, a2, a3⟩ := ih k f.type _ x (hp f (by simp)) hx
    obtain ⟨b, b1, b2, b3⟩ := segs_of ih fs _ hin hm (fun g hg => hp g (by simp [hg])) (fun g hg => ht g (by simp [hg]))
    refine ⟨a ++ b, ⟨a, b, rfl, a1, b1⟩, ?_, fun v hv => ?_⟩
    · have := a2.append b2
      rwa [← List.drop_drop, List.take_append_drop] at this
    · rcases List.mem_append.1 hv with q | q
      · exact a3 v q
      · exact b3 v q

/-- what the claim reads is plain data, of the type's shape -/
theorem trod_shape : ∀ (n fuel : Nat) (t : TypeId) (cs : List Value) (x : DataW H × List MemPlace), plainTy P n t = true → DataW.trod enc P w 0 sp held fuel t cs = some x →
    ∃ xs, Shaped P n t xs ∧ DRs (snap w) xs cs ∧ ∀ v, v ∈ xs → v.oneCell = true
  | 0, fuel, t, cs, x, hp, h => by simp [plainTy] at hp
  | n + 1, fuel, t, cs, x, hp, h => by
    have ih := trod_shape n
    unfold plainTy at hp
    unfold Shaped
    split at hp
    · rename_i hu
      obtain ⟨b, rfl, _⟩ := DataW.trod_bool hu h
      exact ⟨[.bool b], ⟨b, rfl⟩, .cons _ _ _ _ _ (.bool _ b) (.nil _), by simp [XV.oneCell]⟩
    · rename_i k hu
      obtain ⟨i, rfl, _, hw⟩ := DataW.trod_int hu h
      exact ⟨[.int k i], ⟨i, rfl, hw⟩, .cons _ _ _ _ _ (.int _ k i) (.nil _), by simp [XV.oneCell]⟩
    · rename_i hu
      obtain ⟨s, rfl, _, hl⟩ := DataW.trod_string hu h
      refine ⟨[.str s.data.toList], ⟨s.data.toList, rfl, (by rw [Array.length_toList]; exact hl)⟩, .cons _ _ _ _ _ ?_ (.nil _), by simp [XV.oneCell]⟩
      have := DR.str (snap w) s.data.toList
      rwa [bytes_eta] at this
    · rename_i e hu
      simp only [Bool.and_eq_true, decide_eq_true_eq] at hp
      obtain ⟨hsz, hpe⟩ := hp
      rcases DataW.trod_slice hu h with ⟨rfl, _⟩ | ⟨a, len, cap, elems, rest, m, _, rfl, _, _, hlc, hcm, hel, hcells, _, _⟩
      · exact ⟨[.row false false [] 0], ⟨[], rfl, Nat.zero_le _, fun el hel => by cases hel⟩, .cons _ _ _ _ _ (.rowNil _ _ _) (.nil _), by simp [XV.oneCell]⟩
      · have each : ∀ i, ∃ y : List XV × List Value, i < len → Shaped P n e y.1 ∧ DRs (snap w) y.1 y.2 ∧ (∀ v, v ∈ y.1 → v.oneCell = true) ∧ y.2.length = P.cellsOf e ∧ ∀ j v, y.2[j]? = some v → w.cell? ((a.add (i * P.cellsOf e)).add j) = some v := fun i => by
          by_cases q : i < len
          · have hi := hcells i q
            rw [List.getElem?_eq_getElem (by omega), Option.bind_eq_some_iff] at hi
            obtain ⟨ci, hci, hti⟩ := hi
            obtain ⟨xs, h1, h2, h3⟩ := ih _ _ _ _ hpe hti
            obtain ⟨_, hlen, hget⟩ := World.cells?_some hci
            refine ⟨(xs, ci), fun _ => ⟨h1, h2, h3, hlen, fun j v hj => ?_⟩⟩
            have hjl : j < P.cellsOf e := by
              rcases Nat.lt_or_ge j ci.length with z | z
              · omega
              · simp only at hj; rw [List.getElem?_eq_none z] at hj; cases hj
            rw [hget j hjl]; exact hj
          · exact ⟨([], []), fun z => absurd z q⟩
        obtain ⟨f, hf⟩ := Classical.axiomOfChoice each
        have hf' : ∀ i, i ∈ List.range len → _ := fun i hi => hf i (List.mem_range.1 hi)
        have hdr : ∀ l : List Nat, (∀ i, i ∈ l → i < len) → DRs (snap w) (l.map fun i => (f i).1).flatten (l.map fun i => (f i).2).flatten := fun l => by
          induction l with
          | nil => intro _; exact .nil _
          | cons i l ihl =>
            intro hl
            simp only [List.map_cons, List.flatten_cons]
            exact (hf i (hl i (by simp))).2.1.append (ihl fun j hj => hl j (by simp [hj]))
        have hspot : len = 0 ∨ a.spot = none := by
          rcases Nat.eq_zero_or_pos len with z | z
          · exact .inl z
          · obtain ⟨_, _, _, hl0, hc0⟩ := hf 0 z
            have hv := List.getElem?_eq_getElem (l := (f 0).2) (i := 0) (by omega)
            have := hc0 0 _ hv
            rw [Nat.zero_mul, show (a.add 0).add 0 = a by simp [Addr.add]] at this
            exact .inr (cell_plain this).1
        have hone : ∀ v, v ∈ ((List.range len).map fun i => (f i).1).flatten → v.oneCell = true := fun v hv => by
          obtain ⟨l, hl, hvl⟩ := List.mem_flatten.1 hv
          obtain ⟨i, hi, rfl⟩ := List.mem_map.1 hl
          exact (hf' i hi).2.2.1 v hvl
        refine ⟨[.row false false ((List.range len).map fun i => (f i).1).flatten len], ⟨(List.range len).map fun i => (f i).1, by simp, by simp; omega, fun el hel => ?_⟩, .cons _ _ _ _ _ ?_ (.nil _), by simp [XV.oneCell]⟩
        · obtain ⟨i, hi, rfl⟩ := List.mem_map.1 hel
          obtain ⟨h1, h2, _, h4, _⟩ := hf' i hi
          exact ⟨h1, by rw [h2.length]; exact h4⟩
        · refine .row _ _ _ _ _ ((List.range len).map fun i => (f i).2).flatten _ _ (DRs.dls ?_) (fun k v hk => ?_) hspot hlc (fun q => by cases q) (fun v hv _ => hone v hv)
          · exact hdr (List.range len) fun i hi => List.mem_range.1 hi
          · obtain ⟨l, q1, q2⟩ := flatten_get hsz _ (fun l hl => by
              obtain ⟨i, hi, rfl⟩ := List.mem_map.1 hl
              exact (hf' i hi).2.2.2.1) k v hk
            rw [List.getElem?_map, Option.map_eq_some_iff] at q1
            obtain ⟨i, hi, rfl⟩ := q1
            have hik : i = k / P.cellsOf e ∧ i < len := by
              obtain ⟨z1, z2⟩ := List.getElem?_eq_some_iff.1 hi
              simp at z1 z2
              exact ⟨z2.symm, by omega⟩
            have hc := (hf i hik.2).2.2.2.2 _ v q2
            have := (cell_plain hc).2
            obtain ⟨p1, p2⟩ := add_parts (a.add (i * P.cellsOf e)) (k % P.cellsOf e)
            obtain ⟨p3, p4⟩ := add_parts a (i * P.cellsOf e)
            rw [p1, p2, p3, p4, Nat.add_assoc, hik.1, Nat.mul_comm, Nat.div_add_mod] at this
            exact this
    · rename_i fs hu
      simp only [Bool.and_eq_true] at hp
      obtain ⟨xs, m, _, _, hcl, hxl, hfs⟩ := DataW.trod_struct hu h
      obtain ⟨ys, h1, h2, h3⟩ := segs_of (k := m) ih fs.toList 0 hp.1 hcl.symm (fun f hf => List.all_eq_true.1 hp.2 f hf) (fun f hf => by
        obtain ⟨i, hi⟩ := List.mem_iff_getElem?.1 hf
        have hi' : fs[i]? = some f := by simpa using hi
        have := hfs i f hi'
        have hlt : i < fs.size := by
          rcases Nat.lt_or_ge i fs.size with q | q
          · exact q
          · rw [Array.getElem?_eq_none q] at hi'; cases hi'
        rw [List.getElem?_eq_getElem (by omega)] at this
        exact ⟨_, this⟩)
      exact ⟨ys, h1, by simpa using h2, h3⟩
    · cases hp

end
end Go.XM
