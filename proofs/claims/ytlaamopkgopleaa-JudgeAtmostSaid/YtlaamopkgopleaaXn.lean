/- A plain machine beside the model, and that what it tells the model does: part Xn. Conditions: those of each theorem below. -/
import Derived.Test.YtlaamopkgopleaaXm
namespace Go.XM
set_option linter.unusedVariables false
set_option linter.unusedSimpArgs false
open Go.RowKit
set_option linter.unusedVariables false

section
variable {P : Program} {B : Nat} {w0 : World} {base : Nat} {ρ : Emb} {S : XS} {w : World}

theorem xun_sound (h : Rel B w0 ρ S w) {op : UnOp} {x v : XV} {u : Value} (hv : VR ρ x u) (hx : xun op x = some v) : Sim P B w0 base ρ S w (Op.unary op u) v S := by
  unfold xun at hx
  split at hx
  · injection hx with hx; subst hx; cases hv; exact Sim.pure h rfl (.int _ _)
  · cases hv
    obtain ⟨n, rfl, hr⟩ := bitsX_sound (P := P) (w := w) hx
    exact Sim.pure h hr (.int _ _)
  · injection hx with hx; subst hx; cases hv; exact Sim.pure h rfl (.bool _)
  · cases hx

theorem xrange_sound (h : Rel B w0 ρ S w) (hb : base ≤ S.size) {t : TypeId} {s : List UInt8} (ht : P.underlying t = some .string) :
    Sim P B w0 base ρ S w (Instr.range t (.string ⟨s.toArray⟩)) (.ptr S.size 0) (S.push (.iter s 0)) := by
  have hB : B ≤ w.heap.size := Nat.le_trans h.Bw h.below.size
  obtain ⟨h1, h2⟩ := rel_alloc h base hb (.iter s 0) (.stringIter ⟨s.toArray⟩ 0) none ⟨⟨hB, rfl, rfl⟩, by simp only [World.alloc, Array.getElem?_push_size]⟩
  refine sim_ptr h1 h2 rfl (Emb.set_same _ _ _) ?_
  simp [Instr.range, run_underlying ht]

theorem xnext_sound (h : Rel B w0 ρ S w) {x v : XV} {u : Value} {S' : XS} (ty : TypeId) (hv : VR ρ x u) (hx : xnext base S x = some (v, S')) : Sim P B w0 base ρ S w (Instr.next u true ty) v S' := by
  unfold xnext at hx
  split at hx
  case h_2 => cases hx
  case h_1 b =>
  split at hx
  case h_2 => cases hx
  case h_1 s pos hg =>
  cases hv with
  | ptr _ _ e he =>
  have hblk := h.blk b e he
  rw [hg] at hblk
  obtain ⟨⟨hBe, hsh, _⟩, hobj⟩ := hblk
  have hsz : (⟨s.toArray⟩ : ByteArray).size = s.length := by simp [ByteArray.size]
  have hget : (getObj e.blk).run P w = .ok (.stringIter ⟨s.toArray⟩ pos) w := by
    simp [getObj, Sem.run, hobj]
  split at hx
  · rename_i hlt
    injection hx with hx
    simp only [Prod.mk.injEq] at hx
    obtain ⟨rfl, rfl⟩ := hx
    obtain ⟨h1, h2⟩ := rel_iter h base he (pos' := pos + (decL (s.drop pos)).2) hg
    refine ⟨.tuple #[.bool true, goInt pos, .int .i32 ((decL (s.drop pos)).1 : Nat)], _, ρ, _, ?_, ?_, h1, h2, ?_⟩
    · have hset : ∀ o, (setObj e.blk o).run P w = .ok () { w with heap := w.heap.setIfInBounds e.blk o } := fun o => by
        simp [setObj, Sem.run, hobj]
      simp only [Instr.next, Ent.at, hsh, Nat.add_zero, Sem.run_bind, hget, Result.andThen_ok, hsz, if_pos hlt, decode_dec s pos hlt, hset, Sem.run_pure]
    · exact VR.tuple _ [_, _, _] (.cons _ _ _ _ (.bool _) (.cons _ _ _ _ (.int _ _) (.cons _ _ _ _ (.int _ _) .nil)))
    · rw [XS.log_note, XS.log_put]
  · rename_i hlt
    injection hx with hx
    simp only [Prod.mk.injEq] at hx
    obtain ⟨rfl, rfl⟩ := hx
    refine Sim.pure h (u := .tuple #[.bool false]) ?_ (VR.tuple _ [_] (.cons _ _ _ _ (.bool _) .nil))
    simp only [Instr.next, Ent.at, hsh, Nat.add_zero, Sem.run_bind, hget, Result.andThen_ok, hsz, if_neg hlt, Sem.run_pure]

theorem assertFails_sound {t : TypeId} {ok : Bool} {r : XV} (hr : assertFails P t ok = some r) : ok = true ∧ ∃ z, (zeroValue t).run P w = .ok z w ∧ VR ρ r (.tuple #[z, .bool false]) := by
  unfold assertFails at hr
  split at hr
  · rename_i hok
    split at hr
    · rename_i i hi
      split at hr
      · rename_i z hz
        split at hr
        · rename_i zv hzv
          injection hr with hr
          subst hr
          exact ⟨hok, z, by simp [zeroValue, run_info hi, hz], VR.tuple _ [_, _] (.cons _ _ _ _ (ofValue_vr hzv) (.cons _ _ _ _ (.bool _) .nil))⟩
        · cases hr
      · cases hr
    · cases hr
  · cases hr

theorem xassert_sound (h : Rel B w0 ρ S w) {x v : XV} {u : Value} {xt t : TypeId} {ok : Bool} (hv : VR ρ x u) (hx : xassert P x t ok = some v) : Sim P B w0 base ρ S w (Instr.typeAssert u xt t ok) v S := by
  unfold xassert at hx
  split at hx
  case isFalse => cases hx
  rename_i hp
  obtain ⟨d, hd, hdi⟩ : ∃ d, P.underlying t = some d ∧ ∀ ms, d ≠ .interface ms := by
    unfold plainT at hp
    split at hp
    · cases hp
    · cases hp
    · rename_i d hni hd
      exact ⟨d, hd, fun ms q => hni ms q⟩
  split at hx
  · cases hv
    obtain ⟨hok, z, h1, h2⟩ := assertFails_sound (P := P) (w := w) (ρ := ρ) hx
    subst hok
    refine Sim.pure h ?_ h2
    cases d <;> first | exact absurd rfl (hdi _) | simp [Instr.typeAssert, run_underlying hd, h1]
  · rename_i ty vv
    cases hv with
    | iface _ _ vu hvu =>
    split at hx
    · rename_i he
      injection hx with hx
      subst hx
      cases ok with
      | true =>
        refine Sim.pure h (u := .tuple #[vu, .bool true]) ?_ (VR.tuple _ [_, _] (.cons _ _ _ _ hvu (.cons _ _ _ _ (.bool _) .nil)))
        cases d <;> first | exact absurd rfl (hdi _) | simp [Instr.typeAssert, run_underlying hd, he]
      | false =>
        refine Sim.pure h (u := vu) ?_ hvu
        cases d <;> first | exact absurd rfl (hdi _) | simp [Instr.typeAssert, run_underlying hd, he]
    · rename_i hne
      obtain ⟨hok, z, h1, h2⟩ := assertFails_sound (P := P) (w := w) (ρ := ρ) hx
      subst hok
      refine Sim.pure h ?_ h2
      cases d <;> first | exact absurd rfl (hdi _) | simp [Instr.typeAssert, run_underlying hd, hne, h1]
  · cases hx

theorem xlen_sound (h : Rel B w0 ρ S w) {ts : Array TypeId} {t ty : TypeId} (ht : ts[0]? = some t) {us : Array Value} {x v : XV} {u : Value} (hu : us[0]? = some u) (hv : VR ρ x u) (hx : xlen P S t x = some v) :
    Sim P B w0 base ρ S w (Builtin.len_ ts ty us) v S := by
  unfold xlen at hx
  split at hx
  case h_9 => cases hx
  case h_1 hd =>
    injection hx with hx
    subst hx
    cases hv
    have hsz : ∀ s : List UInt8, (⟨s.toArray⟩ : ByteArray).size = s.length := fun s => by simp [ByteArray.size]
    refine Sim.pure h ?_ (.int _ _)
    simp only [Builtin.len_, ht, hu, Sem.run_bind, run_underlying hd, Result.andThen_ok, hsz]
    rfl
  case h_2 hd =>
    injection hx with hx
    subst hx
    refine Sim.pure h ?_ (.int _ _)
    simp only [Builtin.len_, ht, hu, Sem.run_bind, run_underlying hd, Result.andThen_ok]
    rfl
  case h_3 hd =>
    injection hx with hx
    subst hx
    cases hv
    refine Sim.pure h ?_ (.int _ _)
    simp [Builtin.len_, ht, hu, run_underlying hd, goInt]
  case h_4 hd =>
    injection hx with hx
    subst hx
    refine Sim.pure h ?_ (.int _ _)
    cases hv <;> simp [Builtin.len_, ht, hu, run_underlying hd, goInt]
  case h_5 hd =>
    injection hx with hx
    subst hx
    refine Sim.pure h ?_ (.int _ _)
    cases hv <;> simp [Builtin.len_, ht, hu, run_underlying hd, goInt]
  case h_6 hd =>
    injection hx with hx
    subst hx
    refine Sim.pure h ?_ (.int _ _)
    obtain ⟨a, cap, us', rfl, _⟩ := row_cells h hv
    simp [Builtin.len_, ht, hu, run_underlying hd, goInt]
  case h_7 hd =>
    split at hx
    case h_2 => cases hx
    case h_1 cs esz n hg =>
    injection hx with hx
    subst hx
    refine Sim.pure h ?_ (.int _ _)
    obtain ⟨cap', us', en, _, rfl, _⟩ := sl_cells h hv hg
    simp [Builtin.len_, ht, hu, run_underlying hd, goInt]
  case h_8 hd =>
    injection hx with hx
    subst hx
    cases hv
    refine Sim.pure h ?_ (.int _ _)
    simp [Builtin.len_, ht, hu, run_underlying hd, goInt]

theorem xcap_sound (h : Rel B w0 ρ S w) {ts : Array TypeId} {t ty : TypeId} (ht : ts[0]? = some t) {us : Array Value} {x v : XV} {u : Value} (hu : us[0]? = some u) (hv : VR ρ x u) (hx : xcap P t x = some v) :
    Sim P B w0 base ρ S w (Builtin.cap_ ts ty us) v S := by
  unfold xcap at hx
  split at hx
  case h_4 => cases hx
  case h_1 hd =>
    injection hx with hx
    subst hx
    cases hv
    refine Sim.pure h ?_ (.int _ _)
    simp [Builtin.cap_, ht, hu, run_underlying hd, goInt]
  case h_2 hd =>
    injection hx with hx
    subst hx
    refine Sim.pure h ?_ (.int _ _)
    cases hv <;> simp [Builtin.cap_, ht, hu, run_underlying hd, goInt]
  case h_3 hd =>
    injection hx with hx
    subst hx
    refine Sim.pure h ?_ (.int _ _)
    cases hv with
    | row _ _ _ _ _ h1 =>
    cases h1 with
    | rowNil => simp [Builtin.cap_, ht, hu, run_underlying hd, goInt]
    | row _ _ _ _ _ us' a cap q1 q2 q3 q4 q5 q6 =>
    have := q5 rfl
    subst this
    simp [Builtin.cap_, ht, hu, run_underlying hd, goInt]

theorem foldMin_sound : ∀ (xs : List XV) (us : List Value) (x v : XV) (u : Value), VR ρ x u → VRs ρ xs us → foldMin x xs = some v → ∃ r, (us.foldlM Builtin.min2 u).run P w = .ok r w ∧ VR ρ v r
  | [], us, x, v, u, hx, hxs, hm => by
    cases hxs
    cases x <;> (simp only [foldMin] at hm; injection hm with hm; subst hm; exact ⟨u, by simp, hx⟩)
  | y :: xs, us, x, v, u, hx, hxs, hm => by
    cases hxs with
    | cons _ uy _ us h1 h2 =>
    unfold foldMin at hm
    split at hm
    · cases ‹y :: xs = []›
    · rename_i k a k' b r heq
      injection heq with e1 e2
      subst e1; subst e2
      cases hx; cases h1
      obtain ⟨q, hq, hr⟩ := foldMin_sound xs us _ v _ (.int k (if b < a then b else a)) h2 hm
      refine ⟨q, ?_, hr⟩
      simp only [List.foldlM_cons, Sem.run_bind, Builtin.min2, Sem.run_pure, Result.andThen_ok]
      exact hq
    · cases hm

theorem foldMax_sound : ∀ (xs : List XV) (us : List Value) (x v : XV) (u : Value), VR ρ x u → VRs ρ xs us → foldMax x xs = some v → ∃ r, (us.foldlM Builtin.max2 u).run P w = .ok r w ∧ VR ρ v r
  | [], us, x, v, u, hx, hxs, hm => by
    cases hxs
    cases x <;> (simp only [foldMax] at hm; injection hm with hm; subst hm; exact ⟨u, by simp, hx⟩)
  | y :: xs, us, x, v, u, hx, hxs, hm => by
    cases hxs with
    | cons _ uy _ us h1 h2 =>
    unfold foldMax at hm
    split at hm
    · cases ‹y :: xs = []›
    · rename_i k a k' b r heq
      injection heq with e1 e2
      subst e1; subst e2
      cases hx; cases h1
      obtain ⟨q, hq, hr⟩ := foldMax_sound xs us _ v _ (.int k (if b > a then b else a)) h2 hm
      refine ⟨q, ?_, hr⟩
      simp only [List.foldlM_cons, Sem.run_bind, Builtin.max2, Sem.run_pure, Result.andThen_ok]
      exact hq
    · cases hm

end
end Go.XM
