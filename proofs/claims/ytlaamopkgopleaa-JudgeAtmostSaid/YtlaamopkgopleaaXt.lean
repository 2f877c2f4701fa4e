/- A plain machine beside the model, and that what it tells the model does: part Xt. Conditions: those of each theorem below. -/
import Derived.Test.YtlaamopkgopleaaXx
namespace Go.XM
set_option linter.unusedVariables false
set_option linter.unusedSimpArgs false
open Go.RowKit
set_option linter.unusedVariables false
set_option linter.unusedSimpArgs false

/-! ### one operation looks at few temporaries -/
def reads (o : Oper) : List Nat := o.op.operands.toList.filterMap fun | .tmp t => some t | _ => none

theorem mem_reads {o : Oper} {t : Nat} (h : Operand.tmp t ∈ o.op.operands.toList) : t ∈ reads o := List.mem_filterMap.2 ⟨_, h, rfl⟩

section
variable {P : Program} {call : XCallFn}

theorem evalX_congr {T T' : Tmps} {x : Operand} (h : ∀ t, x = .tmp t → tget T t = tget T' t) : evalX T x = evalX T' x := by
  cases x with
  | tmp t => simp only [evalX]; rw [h t rfl]
  | _ => rfl
theorem evalAll_congr {T T' : Tmps} : ∀ {l : List Operand}, (∀ x, x ∈ l → evalX T x = evalX T' x) → evalAll T l = evalAll T' l
  | [], _ => rfl
  | x :: r, h => by simp only [evalAll]; rw [h x (by simp), evalAll_congr fun y hy => h y (by simp [hy])]
theorem evalParts_congr {T T' : Tmps} : ∀ {l : List (Nat × Operand)}, (∀ x, x ∈ l.map (·.2) → evalX T x = evalX T' x) → evalParts T l = evalParts T' l
  | [], _ => rfl
  | (i, x) :: r, h => by simp only [evalParts]; rw [h x (by simp), evalParts_congr fun y hy => h y (by simp at hy ⊢; exact .inr hy)]
theorem evalOpt_congr {T T' : Tmps} {x : Option Operand} (h : ∀ y, x = some y → evalX T y = evalX T' y) : evalOpt T x = evalOpt T' x := by
  cases x with
  | none => rfl
  | some y => simp only [evalOpt]; rw [h y rfl]

theorem xop_congr {base : Nat} {o : Oper} {T T' : Tmps} {S : XS} (h : ∀ x, x ∈ o.op.operands.toList → evalX T x = evalX T' x) : xop P base o T S = xop P base o T' S := by
  obtain ⟨dst, op, type, pos, after, guard⟩ := o
  simp only at h
  cases op <;> simp only [xop]
  case build t ps => rw [evalParts_congr fun x hx => h x (by simpa [Op.operands] using hx)]
  case buildSlice t n ps => rw [evalParts_congr fun x hx => h x (by simpa [Op.operands] using hx)]
  case makeFunc fn first captured =>
    cases fn <;> simp only []
    rw [evalAll_congr fun x hx => h x (by simp only [Op.operands, Array.toList_append, List.mem_append]; exact .inr hx)]
  case call c =>
    split
    · rw [evalAll_congr fun x hx => h x (by simp only [Op.operands, Call.operands]; simp; exact .inr (by simpa using hx))]
    · rfl
  case slice t x lo hi mx =>
    rw [h x (by simp [Op.operands]), evalOpt_congr fun y hy => h y (by simp [Op.operands, hy]), evalOpt_congr (x := hi) fun y hy => h y (by simp [Op.operands, hy]), evalOpt_congr (x := mx) fun y hy => h y (by simp [Op.operands, hy])]
  all_goals simp only [Op.operands] at h
  all_goals first
    | rfl
    | (rename_i x; rw [h x (by simp)]; done)
    | (rename_i x y; rw [h x (by simp)]; done)
    | (rename_i x y; rw [h y (by simp)]; done)
    | (rename_i x y; rw [h x (by simp), h y (by simp)]; done)
    | (rename_i x y z; rw [h x (by simp)]; done)
    | (rename_i x y z; rw [h y (by simp)]; done)
    | (rename_i x y z; rw [h z (by simp)]; done)
    | (rename_i x y z; rw [h y (by simp), h z (by simp)]; done)
    | (rename_i x y z; rw [h x (by simp), h y (by simp)]; done)
    | (rename_i x y z; rw [h x (by simp), h y (by simp), h z (by simp)]; done)
    | (rename_i x y z u; rw [h x (by simp)]; done)
    | (rename_i x y z u; rw [h y (by simp)]; done)
    | (rename_i x y z u; rw [h y (by simp), h z (by simp)]; done)
    | (rename_i x y z u v; rw [h z (by simp), h u (by simp)]; done)

theorem xstep_congr {base : Nat} {o : Oper} {T T' : Tmps} {S : XS} (h : ∀ t, t ∈ reads o → tget T t = tget T' t) : xstep P call base o T S = xstep P call base o T' S := by
  have hx : ∀ x, x ∈ o.op.operands.toList → evalX T x = evalX T' x := fun x hx => evalX_congr fun t ht => h t (mem_reads (by rw [← ht]; exact hx))
  unfold xstep
  split
  · rename_i c hop
    split
    · rename_i f hf
      have hx' : ∀ x, x ∈ c.operands.toList → evalX T x = evalX T' x := fun x q => hx x (by rw [hop]; exact q)
      rw [evalAll_congr fun x q => hx' x (by simp only [Call.operands]; simp; exact .inr (by simpa using q)), hx' f (by simp [Call.operands, hf])]
    · exact xop_congr hx
  · exact xop_congr hx

/-- only what is looked at -/
noncomputable def maskT (rs : List Nat) (T : Tmps) : Tmps := rs.foldl (fun M t => tset M t (tget T t)) []

theorem tget_mask (rs : List Nat) (T : Tmps) : ∀ (M : Tmps), ∀ t, (t ∈ rs → tget (rs.foldl (fun M t => tset M t (tget T t)) M) t = tget T t) ∧
    (t ∉ rs → tget (rs.foldl (fun M t => tset M t (tget T t)) M) t = tget M t) := by
  induction rs with
  | nil => intro M t; exact ⟨fun q => (by cases q), fun _ => rfl⟩
  | cons r rs ih =>
    intro M t
    rw [List.foldl_cons]
    have ih' := ih (tset M r (tget T r)) t
    by_cases q : t ∈ rs
    · exact ⟨fun _ => ih'.1 q, fun hn => absurd (List.mem_cons_of_mem _ q) hn⟩
    · rw [ih'.2 q, tget_tset]
      refine ⟨fun hm => ?_, fun hm => ?_⟩
      · rcases List.mem_cons.1 hm with rfl | hm
        · simp
        · exact absurd hm q
      · rw [if_neg]; rintro rfl; exact hm (by simp)

theorem tget_maskT (rs : List Nat) (T : Tmps) (t : Nat) : tget (maskT rs T) t = if t ∈ rs then tget T t else .tuple [] := by
  have h := tget_mask rs T [] t
  split
  · exact h.1 (by assumption)
  · rw [maskT, h.2 (by assumption)]; rw [tget_nil]

def maskA (rs : List Nat) (a : Act) : Act := { a with tmps := a.tmps.mapIdx fun i v => if i ∈ rs then v else undef }

theorem getD_maskA (rs : List Nat) (a : Act) (t : Nat) : (maskA rs a).tmps.getD t undef = if t ∈ rs then a.tmps.getD t undef else undef := by
  simp only [maskA, Array.getD_eq_getD_getElem?, Array.getElem?_mapIdx]
  cases a.tmps[t]? with
  | none => simp
  | some v => simp

theorem eval_maskA {o : Oper} {a : Act} {x : Operand} (h : x ∈ o.op.operands) : (maskA (reads o) a).eval x = a.eval x := by
  cases x with
  | tmp t =>
    have : t ∈ reads o := mem_reads (by simpa using h)
    simp only [Act.eval]
    rw [getD_maskA, if_pos this]
  | _ => rfl

theorem tr_mask {ρ : Emb} {rs : List Nat} {T : Tmps} {a : Act} (h : ∀ t, t ∈ rs → (tget T t).live = true → VR ρ (tget T t) (a.tmps.getD t undef)) : TR ρ (maskT rs T) (maskA rs a).tmps := by
  intro t
  rw [tget_maskT, getD_maskA]
  split
  · exact h t (by assumption)
  · exact fun _ => VR.tuple [] [] .nil

end

section
variable {P : Program} {B : Nat} {w0 : World} {call : XCallFn}

/-- one operation, where only what it looks at is told -/
theorem xstep_wp2 (hc : CallOK P B w0 call) {base : Nat} {ρ : Emb} {S : XS} {w : World} (h : Rel B w0 ρ S w) (hb : base ≤ S.size) {o : Oper} (hs : ∀ cs b, o.op ≠ .select cs b) {T : Tmps} {a : Act} (hT : ∀ t, t ∈ reads o → (tget T t).live = true → VR ρ (tget T t) (a.tmps.getD t undef))
    {v : XV} {S' : XS} (hx : xstep P call base o T S = some (v, S')) {K : Act → World → Prop} {Q : Exit → Act → World → Prop}
    (hK : ∀ u w' ρ' W, VR ρ' v u → Rel B w0 ρ' S' w' → Ev base ρ S w ρ' S' w' W → S'.log = W ++ S.log → K (a.put o.dst u) w') : o.wp P a w K Q := by
  have he : execOp (maskA (reads o) a).eval o = execOp a.eval o := execOp_congr o hs fun x hx => eval_maskA hx
  have hx' : xstep P call base o (maskT (reads o) T) S = some (v, S') := by
    rw [← hx]
    exact xstep_congr fun t ht => by rw [tget_maskT, if_pos ht]
  exact xstep_wpA hc h hb (tr_mask hT) hx' he.symm hK

end
end Go.XM
