/- A plain machine beside the model, and that what it tells the model does: part Xy. Conditions: those of each theorem below. -/
import Derived.Test.YtlaamopkgopleaaXt
namespace Go.XM
set_option linter.unusedVariables false
set_option linter.unusedSimpArgs false
open Go.RowKit
set_option linter.unusedVariables false

/-! ### who surely comes ahead -/
theorem predsFrom_old : ∀ (l : List Oper) (acc : List (List Nat)) (i : Nat), i < acc.length → (predsFrom acc l)[i]? = acc[i]?
  | [], acc, i, h => rfl
  | o :: l, acc, i, h => by
    rw [predsFrom, predsFrom_old l _ i (by simp; omega), List.getElem?_append_left h]

theorem predsFrom_new : ∀ (l : List Oper) (acc : List (List Nat)) (j : Nat) (o : Oper), l[j]? = some o → (∀ d, d ∈ directs o → d < acc.length + j) →
    (predsFrom acc l)[acc.length + j]? = some ((directs o).flatMap fun d => d :: (predsFrom acc l).getD d [])
  | [], acc, j, o, h, hd => by simp at h
  | o' :: l, acc, 0, o, h, hd => by
    simp at h
    subst h
    rw [predsFrom, predsFrom_old l _ _ (by simp)]
    simp only [Nat.add_zero] at hd ⊢
    rw [List.getElem?_append_right (by omega)]
    simp only [Nat.sub_self, List.getElem?_cons_zero, Option.some.injEq]
    rw [List.flatMap_def, List.flatMap_def]
    congr 1
    refine List.map_congr_left fun d hm => ?_
    congr 1
    rw [List.getD_eq_getElem?_getD, List.getD_eq_getElem?_getD, predsFrom_old l _ _ (by have := hd d hm; simp; omega), List.getElem?_append_left (hd d hm)]
  | o' :: l, acc, j + 1, o, h, hd => by
    simp at h
    have := predsFrom_new l (acc ++ [((directs o').flatMap fun k => k :: acc.getD k [])]) j o h (fun d hm => by have := hd d hm; simp; omega)
    rw [predsFrom]
    simp only [List.length_append, List.length_cons, List.length_nil] at this
    rw [show acc.length + (j + 1) = acc.length + (0 + 1) + j by omega]
    exact this

theorem pr_eq {ops : List Oper} {i : Nat} {o : Oper} (ho : ops[i]? = some o) (hd : ∀ d, d ∈ directs o → d < i) : (predsOf ops).getD i [] = (directs o).flatMap fun d => d :: (predsOf ops).getD d [] := by
  have := predsFrom_new ops [] i o ho (by simpa using hd)
  simp only [List.length_nil, Nat.zero_add] at this
  rw [List.getD_eq_getElem?_getD]
  unfold predsOf
  rw [this]
  rfl

theorem predsFrom_len : ∀ (l : List Oper) (acc : List (List Nat)), (predsFrom acc l).length = acc.length + l.length
  | [], acc => rfl
  | o :: l, acc => by rw [predsFrom, predsFrom_len l]; simp; omega

theorem pr_none {ops : List Oper} {i : Nat} (ho : ops[i]? = none) : (predsOf ops).getD i [] = [] := by
  rw [List.getElem?_eq_none_iff] at ho
  rw [List.getD_eq_getElem?_getD, List.getElem?_eq_none]
  · rfl
  · rw [predsOf, predsFrom_len]; simpa using ho

theorem pr_lt {ops : List Oper} (hd : ∀ (i : Nat) (o : Oper), ops[i]? = some o → ∀ d, d ∈ directs o → d < i) : ∀ (i k : Nat), k ∈ (predsOf ops).getD i [] → k < i := by
  intro i
  induction i using Nat.strongRecOn with
  | ind i ih =>
    intro k hk
    cases ho : ops[i]? with
    | none => rw [pr_none ho] at hk; cases hk
    | some o =>
      rw [pr_eq ho (hd i o ho), List.mem_flatMap] at hk
      obtain ⟨d, hm, hk⟩ := hk
      have hlt := hd i o ho d hm
      rcases List.mem_cons.1 hk with rfl | hk
      · exact hlt
      · have := ih d hlt k hk; omega

theorem pr_closed {ops : List Oper} (hd : ∀ (i : Nat) (o : Oper), ops[i]? = some o → ∀ d, d ∈ directs o → d < i) {D : Nat → Prop} (hD : ∀ k, D k → ∀ o, ops[k]? = some o → ∀ d, d ∈ directs o → D d) :
    ∀ (i : Nat), (∀ o, ops[i]? = some o → ∀ d, d ∈ directs o → D d) → ∀ k, k ∈ (predsOf ops).getD i [] → D k := by
  intro i
  induction i using Nat.strongRecOn with
  | ind i ih =>
    intro hi k hk
    cases ho : ops[i]? with
    | none => rw [pr_none ho] at hk; cases hk
    | some o =>
      rw [pr_eq ho (hd i o ho), List.mem_flatMap] at hk
      obtain ⟨d, hm, hk⟩ := hk
      have hDd := hi o ho d hm
      rcases List.mem_cons.1 hk with rfl | hk
      · exact hDd
      · exact ih d (hd i o ho d hm) (fun o' ho' d' hm' => hD d hDd o' ho' d' hm') k hk

theorem ordered_iff (pr : List (List Nat)) (i j : Nat) : ordered pr i j = true ↔ j ∈ pr.getD i [] ∨ i ∈ pr.getD j [] := by
  unfold ordered
  simp

theorem ordered_symm (pr : List (List Nat)) (i j : Nat) : ordered pr i j = ordered pr j i := by
  unfold ordered
  rw [Bool.or_comm]

def notSelect (o : Oper) : Bool := match o.op with | .select _ _ => false | _ => true

/-- the plain look at a region of open order -/
def goodDraw (n : Nat) (ops : Array Oper) : Bool :=
  let l := ops.toList
  let pr := predsOf l
  l.all (okDst n) && l.all notSelect &&
  (List.range l.length).all (fun i => match l[i]? with
    | none => true
    | some o => (directs o).all (fun d => d < i) &&
      (List.range l.length).all fun j => i == j || (match l[j]? with
        | none => true
        | some o' => match o'.dst with
          | none => true
          | some t => !((o.looksAt ops).contains t || o.dst == some t) || ordered pr i j))

structure Static (n : Nat) (ops : Array Oper) : Prop where
  dst : ∀ (i : Nat) (o : Oper), ops.toList[i]? = some o → okDst n o = true
  sel : ∀ (i : Nat) (o : Oper), ops.toList[i]? = some o → ∀ cs b, o.op ≠ .select cs b
  dir : ∀ (i : Nat) (o : Oper), ops.toList[i]? = some o → ∀ d, d ∈ directs o → d < i
  tmp : ∀ (i j : Nat) (o o' : Oper) (t : Nat), ops.toList[i]? = some o → ops.toList[j]? = some o' → i ≠ j → o'.dst = some t → (t ∈ o.looksAt ops ∨ o.dst = some t) → ordered (predsOf ops.toList) i j = true

theorem static_of {n : Nat} {ops : Array Oper} (h : goodDraw n ops = true) : Static n ops := by
  unfold goodDraw at h
  simp only [Bool.and_eq_true] at h
  obtain ⟨⟨h1, h2⟩, h3⟩ := h
  have key : ∀ (i : Nat) (o : Oper), ops.toList[i]? = some o → (directs o).all (fun d => d < i) = true ∧ _ := fun i o ho => by
    have hlt : i < ops.toList.length := by
      rcases Nat.lt_or_ge i ops.toList.length with q | q
      · exact q
      · rw [List.getElem?_eq_none q] at ho; cases ho
    have := List.all_eq_true.1 h3 i (List.mem_range.2 hlt)
    rw [ho] at this
    simp only [Bool.and_eq_true] at this
    exact this
  refine ⟨fun i o ho => List.all_eq_true.1 h1 o (List.mem_of_getElem? ho), fun i o ho cs b hq => ?_, fun i o ho d hd => ?_, fun i j o o' t ho ho' hne hdst ht => ?_⟩
  · have := List.all_eq_true.1 h2 o (List.mem_of_getElem? ho)
    unfold notSelect at this
    rw [hq] at this
    cases this
  · simpa using List.all_eq_true.1 (key i o ho).1 d hd
  · have hlt : j < ops.toList.length := by
      rcases Nat.lt_or_ge j ops.toList.length with q | q
      · exact q
      · rw [List.getElem?_eq_none q] at ho'; cases ho'
    have := List.all_eq_true.1 (key i o ho).2 j (List.mem_range.2 hlt)
    rw [ho'] at this
    simp only [hdst, Bool.or_eq_true, Bool.not_eq_true', beq_iff_eq] at this
    rcases this with q | q | q
    · exact absurd q hne
    · exfalso
      rw [Bool.or_eq_false_iff] at q
      rcases ht with ht | ht
      · have := q.1; simp [ht] at this
      · have := q.2; simp [ht] at this
    · exact q

end Go.XM
