/- A plain machine beside the model, and that what it tells the model does: part Xq. Conditions: those of each theorem below. -/
import Derived.Test.YtlaamopkgopleaaXp
namespace Go.XM
set_option linter.unusedVariables false
set_option linter.unusedSimpArgs false
open Go.RowKit
set_option linter.unusedVariables false

section
variable {P : Program} {B : Nat} {w0 : World} {base : Nat} {ρ : Emb} {S : XS} {w : World}

theorem zeros_append_sound (h : Rel B w0 ρ S w) (hb : base ≤ S.size) {ts : Array TypeId} {t e ty : TypeId} {us : Array Value} {x v : XV} {ux : Value} {new : List XV} {n : Nat} {S' : XS}
    (ht : ts[0]? = some t) (hu : us[0]? = some (.slice none 0 0)) (hux : us[1]? = some ux) (he : sliceElem P t = some e) (hz : Zeros P ts) (hvx : VR ρ x ux) (happ : xappended P S e true x = some (new, n))
    (hx : xappend P base S t .nilSlice new n = some (v, S')) : Sim P B w0 base ρ S w (Builtin.append_ ts ty us) v S' := by
  have hue := slice_elem he
  unfold xappended at happ
  split at happ
  case h_1 => cases happ
  case h_2 size hsz =>
  simp only [if_true] at happ
  split at happ
  case h_2 => cases happ
  case h_1 k l =>
  split at happ
  case h_2 => cases happ
  case h_1 z i hzc hi =>
  split at happ
  case isFalse => cases happ
  rename_i hc
  obtain ⟨hl0, hl1, hl2, hzl, hs0, hzf⟩ := hc
  injection happ with happ
  simp only [Prod.mk.injEq] at happ
  obtain ⟨rfl, rfl⟩ := happ
  have hsize : i.size = size := by simp [tsize, hi] at hsz; exact hsz
  subst hsize
  cases hvx
  unfold xappend at hx
  rw [he] at hx
  simp only [hi] at hx
  split at hx
  · cases hx
  rename_i hcond
  simp only [not_or, Decidable.not_not] at hcond
  obtain ⟨hs00, hby0, hnl0, hzo⟩ := hcond
  split at hx
  · rename_i q; omega
  split at hx
  case isFalse => cases hx
  rename_i hbd
  injection hx with hx
  simp only [Prod.mk.injEq] at hx
  obtain ⟨rfl, rfl⟩ := hx
  unfold zeroCells at hzc
  rw [hi] at hzc
  simp only at hzc
  split at hzc
  case h_2 => cases hzc
  case h_1 zc hz0 =>
  split at hzc
  case h_2 => cases hzc
  case h_1 zv hzv =>
  injection hzc with hzc
  have hcells := cells_of (ofValue_vr (ρ := ρ) hzv)
  rw [hzc] at hcells
  have hzs : zc.cells.size = i.size := by
    have := hcells.length
    simp at this
    omega
  obtain ⟨c, hcc, hrun⟩ := append_zeros_grow (P := P) (w := w) (ty := ty) ht hu hux hue hi hby0 (by omega) hz0 hzs hz hl0 hl1 hl2 (old := []) (by simp [Builtin.firstCells]) (by omega) (by simpa using hbd)
  have hzeros := zeros_vr (ρ := ρ) hcells (by omega) l.toNat (l.toNat * i.size) (by rw [hzl])
  have heq : (Builtin.zeroCells zc.cells l.toNat) = (Array.range (l.toNat * i.size)).map (zc.cells[· % zc.cells.size]!) := by
    unfold Builtin.zeroCells; rw [hzs]
  rw [← heq] at hzeros
  have hflat : Flat (repeatL z l.toNat) := fun v hv _ => by
    have := List.all_eq_true.1 (repeatL_all _ hzf l.toNat) v hv
    simpa [XV.fits, XKind.flat] using this
  have harr : (Builtin.zeroCells zc.cells l.toNat).toList.toArray = Builtin.zeroCells zc.cells l.toNat := by simp
  have := grown_sim (P := P) (m := 0) (n := l.toNat) (size := i.size) h hb rfl h Ev.refl rfl .nil hzeros.vls (fun v hv => by cases hv) hflat (by omega) (by simp) (by simp [size_zeroCells, hzs]) (by simpa using hcc) (Builtin.zeroCells zc.cells (c - (0 + l.toNat))) (by rw [size_zeroCells, hzs]) e (by rw [harr]; simpa using hrun)
  simpa using this

theorem head_get {l : List TypeId} {ts : Array TypeId} {t : TypeId} (h : ts.toList = t :: l) : ts[0]? = some t ∧ ts[1]? = l.head? := by
  obtain ⟨ts⟩ := ts
  simp at h
  subst h
  cases l <;> simp

theorem xbuiltin_sound (h : Rel B w0 ρ S w) (hb : base ≤ S.size) {b : Builtin} {ts : Array TypeId} {ty : TypeId} {cs : Array Bool} {us : Array Value} {xs : List XV} {v : XV} {S' : XS} (hv : VRs ρ xs us.toList)
    (hx : xbuiltin P base S b ts.toList xs = some (v, S')) : ∃ s, builtin b ts ty cs us = (do pure (.value (← s)) : Sem Next) ∧ Sim P B w0 base ρ S w s v S' := by
  unfold xbuiltin at hx
  split at hx
  case h_1 t t2 s x hts =>
    obtain ⟨ht0, ht1⟩ := head_get hts
    split at hx
    case h_2 => cases hx
    case h_1 e he =>
    split at hx
    case h_2 => cases hx
    case h_1 z hz =>
    split at hx
    case h_2 => cases hx
    case h_1 new n happ =>
    split at hx
    · cases hx
    rename_i hzn
    obtain ⟨u, hu, hur⟩ := hv.get (i := 0) (x := s) rfl
    obtain ⟨ux, hux, huxr⟩ := hv.get (i := 1) (x := x) rfl
    have hu' : us[0]? = some u := by simpa using hu
    have hux' : us[1]? = some ux := by simpa using hux
    refine ⟨Builtin.append_ ts ty us, rfl, ?_⟩
    cases z with
    | false =>
      have hno : NoZeros P ts := by
        unfold zerosT at hz
        split at hz
        · rename_i hq; exact .inl (by rw [ht1]; exact hq)
        · rename_i tt hq
          split at hz
          · cases hz
          · rename_i e' hd; exact .inr ⟨tt, _, by rw [ht1]; exact hq, hd, .inl ⟨e', rfl⟩⟩
          · rename_i hd; exact .inr ⟨tt, _, by rw [ht1]; exact hq, hd, .inr rfl⟩
          · cases hz
      exact xappend_sound h hb ht0 hu' hux' he hno hur huxr happ hx
    | true =>
      have hyes : Zeros P ts := by
        unfold zerosT at hz
        split at hz
        · cases hz
        · rename_i tt hq
          split at hz
          · rename_i k hd; exact ⟨tt, k, by rw [ht1]; exact hq, hd⟩
          · cases hz
          · cases hz
          · cases hz
      have hnil : s = .nilSlice := by
        cases s <;> simp [isNilSlice] at hzn ⊢
      subst hnil
      cases hur
      exact zeros_append_sound h hb ht0 hu' hux' he hyes huxr happ hx
  case h_2 t t2 x r hts =>
    obtain ⟨ht0, _⟩ := head_get hts
    split at hx
    case h_2 => cases hx
    case h_1 v' hv' =>
    injection hx with hx
    simp only [Prod.mk.injEq] at hx
    obtain ⟨rfl, rfl⟩ := hx
    obtain ⟨u, hu, hur⟩ := hv.get (i := 0) (x := x) rfl
    exact ⟨Builtin.len_ ts ty us, rfl, xlen_sound h ht0 (by simpa using hu) hur hv'⟩
  case h_3 t t2 x r hts =>
    obtain ⟨ht0, _⟩ := head_get hts
    split at hx
    case h_2 => cases hx
    case h_1 v' hv' =>
    injection hx with hx
    simp only [Prod.mk.injEq] at hx
    obtain ⟨rfl, rfl⟩ := hx
    obtain ⟨u, hu, hur⟩ := hv.get (i := 0) (x := x) rfl
    exact ⟨Builtin.cap_ ts ty us, rfl, xcap_sound h ht0 (by simpa using hu) hur hv'⟩
  case h_4 tl x r =>
    split at hx
    case h_2 => cases hx
    case h_1 v' hv' =>
    injection hx with hx
    simp only [Prod.mk.injEq] at hx
    obtain ⟨rfl, rfl⟩ := hx
    refine ⟨Builtin.min_ ts ty us, rfl, ?_⟩
    generalize hul : us.toList = ul at hv
    cases hv with
    | cons _ u _ ur h1 h2 =>
    obtain ⟨q, hq, hr⟩ := foldMin_sound (P := P) (w := w) r ur x v' u h1 h2 hv'
    exact Sim.pure h (by simp only [Builtin.min_, hul]; exact hq) hr
  case h_5 tl x r =>
    split at hx
    case h_2 => cases hx
    case h_1 v' hv' =>
    injection hx with hx
    simp only [Prod.mk.injEq] at hx
    obtain ⟨rfl, rfl⟩ := hx
    refine ⟨Builtin.max_ ts ty us, rfl, ?_⟩
    generalize hul : us.toList = ul at hv
    cases hv with
    | cons _ u _ ur h1 h2 =>
    obtain ⟨q, hq, hr⟩ := foldMax_sound (P := P) (w := w) r ur x v' u h1 h2 hv'
    exact Sim.pure h (by simp only [Builtin.max_, hul]; exact hq) hr
  case h_6 => cases hx

/-- what an operation comes to, as the machine has it -/
def SimN (P : Program) (B : Nat) (w0 : World) (base : Nat) (ρ : Emb) (S : XS) (w : World) (s : Sem Next) (v : XV) (S' : XS) : Prop :=
  ∃ n u w' ρ' W, s.run P w = .ok n w' ∧ (n = .value u ∨ (n = .skip ∧ u = undef)) ∧ VR ρ' v u ∧ Rel B w0 ρ' S' w' ∧ Ev base ρ S w ρ' S' w' W ∧ S'.log = W ++ S.log

theorem SimN.of {s : Sem Value} {v : XV} {S' : XS} (h : Sim P B w0 base ρ S w s v S') : SimN P B w0 base ρ S w (do pure (.value (← s))) v S' := by
  obtain ⟨u, w', ρ', W, h1, h2, h3, h4, h5⟩ := h
  exact ⟨.value u, u, w', ρ', W, by simp [h1], .inl rfl, h2, h3, h4, h5⟩

theorem evalOpt_or {T : Tmps} {a : Act} (hT : TR ρ T a.tmps) {x : Option Operand} {y : Option XV} (h : evalOpt T x = some y) : OR ρ y (x.map a.eval) := by
  unfold evalOpt at h
  split at h
  · injection h with h; subst h; trivial
  · split at h
    · rename_i x v hv; injection h with h; subst h; exact evalX_vr hT hv
    · cases h

theorem xop_sound (h : Rel B w0 ρ S w) (hb : base ≤ S.size) {o : Oper} {T : Tmps} {a : Act} (hT : TR ρ T a.tmps) {v : XV} {S' : XS} (hx : xop P base o T S = some (v, S')) :
    SimN P B w0 base ρ S w (execOp a.eval o) v S' := by
  obtain ⟨dst, op, ty, pos, after, guard⟩ := o
  unfold xop at hx
  cases op with
  | move x =>
    simp only [Option.map_eq_some_iff, Prod.mk.injEq] at hx
    obtain ⟨v', hv, rfl, rfl⟩ := hx
    exact ⟨_, _, w, ρ, [], rfl, .inl rfl, evalX_vr hT hv, h, Ev.refl, rfl⟩
  | assign x =>
    simp only [Option.map_eq_some_iff, Prod.mk.injEq] at hx
    obtain ⟨v', hv, rfl, rfl⟩ := hx
    exact ⟨_, _, w, ρ, [], rfl, .inl rfl, evalX_vr hT hv, h, Ev.refl, rfl⟩
  | pick c x y =>
    simp only at hx
    split at hx
    · rename_i hc
      simp only [Option.map_eq_some_iff, Prod.mk.injEq] at hx
      obtain ⟨v', hv, rfl, rfl⟩ := hx
      have hcr := evalX_vr hT hc
      have hcv : a.eval c = .bool true := by cases hq : a.eval c <;> rw [hq] at hcr <;> cases hcr <;> rfl
      exact ⟨_, _, w, ρ, [], by simp [execOp, hcv, asBool], .inl rfl, evalX_vr hT hv, h, Ev.refl, rfl⟩
    · rename_i hc
      simp only [Option.map_eq_some_iff, Prod.mk.injEq] at hx
      obtain ⟨v', hv, rfl, rfl⟩ := hx
      have hcr := evalX_vr hT hc
      have hcv : a.eval c = .bool false := by cases hq : a.eval c <;> rw [hq] at hcr <;> cases hcr <;> rfl
      exact ⟨_, _, w, ρ, [], by simp [execOp, hcv, asBool], .inl rfl, evalX_vr hT hv, h, Ev.refl, rfl⟩
    · cases hx
  | alloc t =>
    simp only at hx
    split at hx
    case h_2 => cases hx
    case h_1 z n hz hn =>
    split at hx
    case isFalse => cases hx
    injection hx with hx
    simp only [Prod.mk.injEq] at hx
    obtain ⟨rfl, rfl⟩ := hx
    obtain ⟨zv, hzr, hzv⟩ := run_zero (ρ := ρ) hz w
    obtain ⟨ρ', r1, r2, r3⟩ := alloc_own h hb z zv.cells t hzv
    exact SimN.of (sim_ptr r1 r2 rfl r3 (by simp [Instr.alloc, hzr, newVar, newRow]))
  | box t x =>
    simp only at hx
    split at hx
    case h_2 => cases hx
    case h_1 v' hv =>
    split at hx
    case isFalse => cases hx
    injection hx with hx
    simp only [Prod.mk.injEq] at hx
    obtain ⟨rfl, rfl⟩ := hx
    have hvr := evalX_vr hT hv
    obtain ⟨ρ', r1, r2, r3⟩ := alloc_own h hb v'.cells (a.eval x).cells t (cells_of hvr)
    exact SimN.of (sim_ptr r1 r2 rfl r3 (by simp [Instr.box, newVar, newRow]))
  | build t ps =>
    simp only at hx
    split at hx
    case h_2 => cases hx
    case h_1 l hl =>
    simp only [Option.map_eq_some_iff, Prod.mk.injEq] at hx
    obtain ⟨v', hv, rfl, rfl⟩ := hx
    exact SimN.of (xbuild_sound h (by have := evalParts_vr hT hl; simpa using this) hv)
  | buildSlice t n ps =>
    simp only at hx
    split at hx
    case h_2 => cases hx
    case h_1 l hl =>
    exact SimN.of (xbuildSlice_sound h hb (by have := evalParts_vr hT hl; simpa using this) hx)
  | load t x =>
    simp only at hx
    split at hx
    case h_2 => cases hx
    case h_1 p hp =>
    simp only [Option.map_eq_some_iff, Prod.mk.injEq] at hx
    obtain ⟨v', hv, rfl, rfl⟩ := hx
    exact SimN.of (xload_sound h (evalX_vr hT hp) hv)
  | store t x y =>
    simp only at hx
    split at hx
    case h_2 => cases hx
    case h_1 p q hp hq =>
    simp only [Option.map_eq_some_iff, Prod.mk.injEq] at hx
    obtain ⟨S2, hS, rfl, rfl⟩ := hx
    obtain ⟨w', W, h1, h2, h3, h4⟩ := xstore_sound (P := P) h hb (evalX_vr hT hp) (evalX_vr hT hq) hS
    exact ⟨.skip, undef, w', ρ, W, by simp [execOp, h1], .inr ⟨rfl, rfl⟩, VR.tuple [] [] .nil, h2, h3, h4⟩
  | nilCheck x =>
    simp only at hx
    split at hx
    · rename_i b o hp
      injection hx with hx
      simp only [Prod.mk.injEq] at hx
      obtain ⟨rfl, rfl⟩ := hx
      have hr := evalX_vr hT hp
      refine ⟨.value (a.eval x), a.eval x, w, ρ, [], ?_, .inl rfl, hr, h, Ev.refl, rfl⟩
      generalize hu : a.eval x = u at hr
      cases hr
      simp [execOp, hu]
    · rename_i tg cs o hp
      injection hx with hx
      simp only [Prod.mk.injEq] at hx
      obtain ⟨rfl, rfl⟩ := hx
      have hr := evalX_vr hT hp
      refine ⟨.value (a.eval x), a.eval x, w, ρ, [], ?_, .inl rfl, hr, h, Ev.refl, rfl⟩
      generalize hu : a.eval x = u at hr
      obtain ⟨_, rfl⟩ := vr_rptr hr
      simp [execOp, hu]
    · rename_i f c hp
      injection hx with hx
      simp only [Prod.mk.injEq] at hx
      obtain ⟨rfl, rfl⟩ := hx
      have hr := evalX_vr hT hp
      refine ⟨.value (a.eval x), a.eval x, w, ρ, [], ?_, .inl rfl, hr, h, Ev.refl, rfl⟩
      generalize hu : a.eval x = u at hr
      cases hr
      simp [execOp, hu]
    · cases hx
  | binOp op t x y yt =>
    simp only at hx
    split at hx
    case h_2 => cases hx
    case h_1 p q hp hq =>
    simp only [Option.map_eq_some_iff, Prod.mk.injEq] at hx
    obtain ⟨v', hv, rfl, rfl⟩ := hx
    exact SimN.of (xbin_sound h x y (evalX_vr hT hp) (evalX_vr hT hq) hv)
  | unOp op t x =>
    simp only at hx
    split at hx
    case h_2 => cases hx
    case h_1 p hp =>
    simp only [Option.map_eq_some_iff, Prod.mk.injEq] at hx
    obtain ⟨v', hv, rfl, rfl⟩ := hx
    exact SimN.of (xun_sound h (evalX_vr hT hp) hv)
  | convert src dst x =>
    simp only at hx
    split at hx
    case h_2 => cases hx
    case h_1 p hp =>
    exact SimN.of (xconvert_sound h hb (evalX_vr hT hp) hx)
  | makeInterface t x =>
    simp only at hx
    split at hx
    case h_2 => cases hx
    case h_1 p hp =>
    split at hx
    · cases hx
    · rename_i d hni hd
      injection hx with hx
      simp only [Prod.mk.injEq] at hx
      obtain ⟨rfl, rfl⟩ := hx
      refine SimN.of (Sim.pure h (u := .iface t (a.eval x)) ?_ (.iface _ _ _ (evalX_vr hT hp)))
      cases d <;> first | exact absurd rfl (hni _) | simp [Instr.makeInterface, run_underlying hd]
    · cases hx
  | makeFunc fn first caps =>
    cases fn <;> first | cases hx | skip
    simp only at hx
    split at hx
    case isFalse => cases hx
    rename_i f hf
    simp only [Option.map_eq_some_iff, Prod.mk.injEq] at hx
    obtain ⟨l, hl, rfl, rfl⟩ := hx
    have hfe : first = #[] := by
      have : first.toList = [] := by simpa using hf
      simpa using this
    refine SimN.of (Sim.pure h (u := .func (.func f) #[] (caps.map a.eval)) ?_ ?_)
    · simp [Instr.makeFunc, hfe]
    · have := VR.func (ρ := ρ) f _ _ (evalAll_vr hT hl)
      rwa [show (caps.toList.map a.eval).toArray = caps.map a.eval from by apply Array.toList_inj.1; simp] at this
  | makeSlice t x y =>
    simp only at hx
    split at hx
    case h_2 => cases hx
    case h_1 p q hp hq =>
    exact SimN.of (xmakeSlice_sound h hb (evalX_vr hT hp) (evalX_vr hT hq) hx)
  | slice t x lo hi mx =>
    simp only at hx
    split at hx
    case h_2 => cases hx
    case h_1 p q r s hp hq hr hs =>
    simp only [Option.map_eq_some_iff, Prod.mk.injEq] at hx
    obtain ⟨v', hv, rfl, rfl⟩ := hx
    exact SimN.of (xslice_sound h (evalX_vr hT hp) (evalOpt_or hT hq) (evalOpt_or hT hr) (evalOpt_or hT hs) hv)
  | fieldAddr t x f =>
    simp only at hx
    split at hx
    case h_2 => cases hx
    case h_1 p hp =>
    simp only [Option.map_eq_some_iff, Prod.mk.injEq] at hx
    obtain ⟨v', hv, rfl, rfl⟩ := hx
    exact SimN.of (xfieldAddr_sound h (evalX_vr hT hp) hv)
  | field t x f =>
    simp only at hx
    split at hx
    case h_2 => cases hx
    case h_1 p hp =>
    simp only [Option.map_eq_some_iff, Prod.mk.injEq] at hx
    obtain ⟨v', hv, rfl, rfl⟩ := hx
    exact SimN.of (xfield_sound h (evalX_vr hT hp) hv)
  | indexAddr t x i =>
    simp only at hx
    split at hx
    case h_2 => cases hx
    case h_1 p q hp hq =>
    simp only [Option.map_eq_some_iff, Prod.mk.injEq] at hx
    obtain ⟨v', hv, rfl, rfl⟩ := hx
    exact SimN.of (xindexAddr_sound h (evalX_vr hT hp) (evalX_vr hT hq) hv)
  | index t x i =>
    simp only at hx
    split at hx
    case h_2 => cases hx
    case h_1 p q hp hq =>
    simp only [Option.map_eq_some_iff, Prod.mk.injEq] at hx
    obtain ⟨v', hv, rfl, rfl⟩ := hx
    exact SimN.of (xindex_sound h (evalX_vr hT hp) (evalX_vr hT hq) hv)
  | range t x =>
    simp only at hx
    split at hx
    · rename_i s hp
      split at hx
      case isFalse => cases hx
      rename_i hst
      injection hx with hx
      simp only [Prod.mk.injEq] at hx
      obtain ⟨rfl, rfl⟩ := hx
      have hr := evalX_vr hT hp
      have he : a.eval x = .string ⟨s.toArray⟩ := by cases hq : a.eval x <;> rw [hq] at hr <;> cases hr; rfl
      have := xrange_sound (P := P) (s := s) h hb (is_str hst)
      rw [← he] at this
      exact SimN.of this
    · cases hx
  | next x isS =>
    simp only at hx
    split at hx
    case isFalse => cases hx
    rename_i hs
    subst hs
    split at hx
    case h_2 => cases hx
    case h_1 p hp =>
    exact SimN.of (xnext_sound h _ (evalX_vr hT hp) hx)
  | typeAssert x xt t ok =>
    simp only at hx
    split at hx
    case h_2 => cases hx
    case h_1 p hp =>
    simp only [Option.map_eq_some_iff, Prod.mk.injEq] at hx
    obtain ⟨v', hv, rfl, rfl⟩ := hx
    exact SimN.of (xassert_sound h (evalX_vr hT hp) hv)
  | extract x i =>
    simp only at hx
    split at hx
    · rename_i vs hp
      simp only [Option.map_eq_some_iff, Prod.mk.injEq] at hx
      obtain ⟨v', hv, rfl, rfl⟩ := hx
      have hr := evalX_vr hT hp
      generalize hu : a.eval x = u at hr
      cases hr with
      | tuple _ ds hd =>
      obtain ⟨u', h1, h2⟩ := hd.get hv
      refine SimN.of (Sim.pure h (u := u') ?_ h2)
      simp [Instr.extract, hu, h1]
    · cases hx
  | call c =>
    simp only at hx
    split at hx
    · rename_i bq hbq
      split at hx
      case h_2 => cases hx
      case h_1 xs hxs =>
      have hvs : VRs ρ xs (c.args.map a.eval).toList := by have := evalAll_vr hT hxs; simpa using this
      obtain ⟨s, h1, h2⟩ := xbuiltin_sound (P := P) (ty := ty) (cs := c.args.map fun | .const _ => true | _ => false) h hb hvs hx
      have he : execOp a.eval ⟨dst, .call c, ty, pos, after, guard⟩ = (do pure (.value (← s)) : Sem Next) := by
        simp only [execOp, resolve, hbq]
        exact h1
      rw [he]
      exact SimN.of h2
    · cases hx
  | _ => cases hx

end
end Go.XM
