/- A plain machine beside the model, and that what it tells the model does: part Xs. Conditions: those of each theorem below. -/
import Derived.Test.YtlaamopkgopleaaXr
import Derived.LoopN
namespace Go.XM
set_option linter.unusedVariables false
set_option linter.unusedSimpArgs false
open Go.RowKit
set_option linter.unusedVariables false

section
variable {P : Program} {B : Nat} {w0 : World}

/-- what a region of open order owes (proved in Xt) -/
def DrawOK (P : Program) (B : Nat) (w0 : World) (good : Nat → Array Oper → Bool) (okc : XCallFn → Prop) : Prop :=
  ∀ (call : XCallFn) (base n id : Nat) (ops : Array Oper) (ρ0 : Emb) (S0 : XS) (wi : World) (T T' : Tmps) (S S' : XS) (a : Act) (w : World) (Q : Exit → Act → World → Prop),
    CallOK P B w0 call → okc call → base ≤ S0.size → good n ops = true → Now P B w0 base n ρ0 S0 wi T S a w → xdraw P call base ops.toList T S = some (T', S') →
    (∀ a' w', Now P B w0 base n ρ0 S0 wi T' S' a' w' → Q .normal a' w') → (Code.region id ops true).wp P Q a w

def goodCode (good : Nat → Array Oper → Bool) (n : Nat) : Code → Bool
  | .region _ ops draw => ops.toList.all (okDst n) && (!draw || good n ops)
  | .seq a b => goodCode good n a && goodCode good n b
  | .cond _ a b => goodCode good n a && goodCode good n b
  | .block _ c => goodCode good n c
  | .loop c => goodCode good n c
  | _ => true

def exitOf : XExit → Exit
  | .normal => .normal
  | .exit id => .exit id
  | .ret => .ret

theorem cond_val {ρ : Emb} {T : Tmps} {a : Act} (hT : TR ρ T a.tmps) {c : Operand} {b : Bool} (h : evalX T c = some (.bool b)) : a.eval c = .bool b := by
  have hr := evalX_vr hT h
  generalize a.eval c = u at hr
  cases hr
  rfl

/-! ### a loop's head -/
theorem hardAll_get {f : XV → Option XV} : ∀ {xs ys : List XV}, hardAll f xs = some ys → ys.length = xs.length ∧ ∀ (i : Nat) (y : XV), ys[i]? = some y → ∃ x : XV, xs[i]? = some x ∧ f x = some y
  | [], ys, h => by simp only [hardAll] at h; injection h with h; subst h; exact ⟨rfl, fun i y hy => by simp at hy⟩
  | x :: xs, ys, h => by
    simp only [hardAll] at h
    split at h
    · rename_i a l ha hl
      injection h with h
      subst h
      obtain ⟨h1, h2⟩ := hardAll_get hl
      refine ⟨by simp [h1], fun i y hy => ?_⟩
      cases i with
      | zero => simp at hy; subst hy; exact ⟨x, by simp, ha⟩
      | succ i => simp at hy; obtain ⟨x', q1, q2⟩ := h2 i y hy; exact ⟨x', by simpa using q1, q2⟩
    · cases h

theorem idxOf_some {b : Nat} : ∀ {keep : List Nat} {i : Nat}, idxOf b keep = some i → keep[i]? = some b
  | [], i, h => by simp [idxOf] at h
  | x :: r, i, h => by
    simp only [idxOf] at h
    split at h
    · rename_i hx
      injection h with h
      subst h
      simpa using hx
    · split at h
      · rename_i j hj
        injection h with h
        subst h
        simpa using idxOf_some hj
      · cases h

def keepE (ρ : Emb) (keep : List Nat) : Emb := ⟨fun i => (keep[i]?).bind ρ.m, ρ.z⟩

theorem keepE_some {ρ : Emb} {keep : List Nat} {i b : Nat} {e : Ent} (hi : keep[i]? = some b) (he : ρ b = some e) : keepE ρ keep i = some e := by
  unfold keepE
  simp only [hi, Option.bind_some]
  exact he
theorem keepE_inv {ρ : Emb} {keep : List Nat} {i : Nat} {e : Ent} (h : keepE ρ keep i = some e) : ∃ b, keep[i]? = some b ∧ ρ b = some e := by
  unfold keepE at h
  simp only at h
  cases hq : keep[i]? with
  | none => rw [hq] at h; cases h
  | some b => rw [hq] at h; exact ⟨b, rfl, h⟩

theorem hardAll_vrs {ρ ρ' : Emb} {f : XV → Option XV} (hf : ∀ x y u, f x = some y → VR ρ x u → VR ρ' y u) {xs ys : List XV} {us : List Value} (h : hardAll f xs = some ys) (hv : VRs ρ xs us) : VRs ρ' ys us := by
  obtain ⟨h1, h2⟩ := hardAll_get h
  refine VRs.of_get (by rw [h1, hv.length]) fun i y u hy hu => ?_
  obtain ⟨x, q1, q2⟩ := h2 i y hy
  obtain ⟨u', q3, q4⟩ := hv.get q1
  rw [hu] at q3
  injection q3 with q3
  subst q3
  exact hf x y u q2 q4

theorem ren_vr {ρ : Emb} {keep : List Nat} : ∀ (n : Nat) (x y : XV) (u : Value), ren keep n x = some y → VR ρ x u → VR (keepE ρ keep) y u
  | 0, x, y, u, h, hv => by simp [ren] at h
  | n + 1, x, y, u, h, hv => by
    have ih := ren_vr (ρ := ρ) (keep := keep) n
    unfold ren at h
    split at h
    · split at h
      · rename_i i hi
        injection h with h; subst h
        cases hv with
        | ptr _ _ e he => exact .ptr _ _ e (keepE_some (idxOf_some hi) he)
      · cases h
    · split at h
      · rename_i i hi
        injection h with h; subst h
        cases hv with
        | slice _ _ _ _ e he hlc => exact .slice _ _ _ _ e (keepE_some (idxOf_some hi) he) hlc
        | sliceZ _ _ e a he => exact .sliceZ _ _ e a (keepE_some (idxOf_some hi) he)
      · cases h
    · split at h
      · rename_i i hi
        injection h with h; subst h
        cases hv with
        | sl _ cap' e esz k rsz he q1 q2 q3 => exact .sl _ cap' e esz k rsz (keepE_some (idxOf_some hi) he) q1 q2 q3
      · cases h
    · split at h
      · rename_i i hi
        injection h with h; subst h
        cases hv with
        | part _ _ _ cap' e he q1 => exact .part _ _ _ cap' e (keepE_some (idxOf_some hi) he) q1
        | partZ _ _ cap' e a he => exact .partZ _ _ cap' e a (keepE_some (idxOf_some hi) he)
      · cases h
    · split at h
      · rename_i l hl
        injection h with h; subst h
        cases hv with
        | func _ _ ds hd => exact .func _ _ _ (hardAll_vrs ih hl hd)
      · cases h
    · split at h
      · rename_i y' hy
        injection h with h; subst h
        cases hv with
        | iface _ _ v' hv' => exact .iface _ _ _ (ih _ _ _ hy hv')
      · cases h
    · split at h
      · rename_i l hl
        injection h with h; subst h
        cases hv with
        | agg _ ds hd => exact .agg _ _ (hardAll_vrs ih hl hd)
      · cases h
    · split at h
      · rename_i l hl
        injection h with h; subst h
        cases hv with
        | tuple _ ds hd => exact .tuple _ _ (hardAll_vrs ih hl hd)
      · cases h
    · split at h
      · rename_i hu
        injection h with h; subst h
        exact VR.under (ρ := keepE ρ keep) (ρ' := ρ) (n := 0) (fun b e hb _ => by omega) (ZMap.le_refl _) hu hv
      · cases h

theorem ren_live {keep : List Nat} {n : Nat} {x y : XV} (h : ren keep n x = some y) (hy : y.live = true) : x.live = true := by
  cases x <;> first | rfl | skip
  cases n with
  | zero => simp [ren] at h
  | succ n =>
    unfold ren at h
    simp [XV.under] at h
    subst h
    exact hy

theorem pruneT_tr {ρ : Emb} {keep : List Nat} {T : Tmps} {tmps : Array Value} (hT : TR ρ T tmps) : ∀ (ts : List Nat) (A T' : Tmps), TR (keepE ρ keep) A tmps → pruneT keep T ts A = some T' → TR (keepE ρ keep) T' tmps
  | [], A, T', hA, h => by simp only [pruneT] at h; injection h with h; subst h; exact hA
  | t :: ts, A, T', hA, h => by
    simp only [pruneT] at h
    split at h
    · rename_i hl
      split at h
      · rename_i v hv
        refine pruneT_tr hT ts _ T' ?_ h
        intro s hs
        rw [tget_tset] at hs ⊢
        by_cases q : s = t
        · subst q
          rw [if_pos rfl] at hs ⊢
          exact ren_vr 20 _ _ _ hv (hT s hl)
        · rw [if_neg q] at hs ⊢
          exact hA s hs
      · cases h
    · exact pruneT_tr hT ts _ T' hA h

theorem deadT_tr {ρ : Emb} {rows n : Nat} {tmps : Array Value} (hn : tmps.size = n) (hr : n ≤ rows * 8) : TR ρ (deadT rows) tmps := by
  intro t ht
  have hrow : ∀ {α : Type} (d v : α) (k i : Nat), nthX d (List.replicate k v) i = if i < k then v else d := fun d v k => by
    induction k with
    | zero => intro i; rfl
    | succ k ih =>
      intro i
      rw [List.replicate_succ]
      cases i with
      | zero => rfl
      | succ i => rw [nthX_succ, ih]; by_cases q : i < k <;> simp [q]
  unfold deadT tget at ht ⊢
  rw [hrow] at ht ⊢
  by_cases q : t / 8 < rows
  · rw [if_pos q, hrow, if_pos (Nat.mod_lt _ (by omega))] at ht
    cases ht
  · rw [if_neg q]
    have : tmps.getD t undef = undef := by
      rw [Array.getD_eq_getD_getElem?, Array.getElem?_eq_none (by omega)]; rfl
    rw [this]
    exact VR.tuple [] [] .nil

theorem pruneB_get {keep : List Nat} {S : XS} : ∀ {ks : List Nat} {l : List XBlk}, pruneB keep S ks = some l → l.length = ks.length ∧ ∀ (i : Nat) (x : XBlk), l[i]? = some x → ∃ b, ks[i]? = some b ∧ renBlk keep (S.get b) = some x
  | [], l, h => by simp only [pruneB] at h; injection h with h; subst h; exact ⟨rfl, fun i x hx => by simp at hx⟩
  | b :: r, l, h => by
    simp only [pruneB] at h
    split at h
    · rename_i x l' hx hl
      injection h with h
      subst h
      obtain ⟨h1, h2⟩ := pruneB_get hl
      refine ⟨by simp [h1], fun i y hy => ?_⟩
      cases i with
      | zero => simp at hy; subst hy; exact ⟨b, by simp, hx⟩
      | succ i => simp at hy; obtain ⟨b', q1, q2⟩ := h2 i y hy; exact ⟨b', by simpa using q1, q2⟩
    · cases h

theorem nodupN_spec : ∀ {l : List Nat}, nodupN l = true → ∀ {i j b : Nat}, l[i]? = some b → l[j]? = some b → i = j
  | [], _, i, j, b, hi, _ => by simp at hi
  | x :: r, h, i, j, b, hi, hj => by
    simp only [nodupN, Bool.and_eq_true, Bool.not_eq_true'] at h
    have hx : x ∉ r := fun q => by have := h.1; simp [q] at this
    cases i with
    | zero =>
      simp at hi
      subst hi
      cases j with
      | zero => rfl
      | succ j => simp at hj; exact absurd (List.mem_of_getElem? hj) hx
    | succ i =>
      simp at hi
      cases j with
      | zero => simp at hj; subst hj; exact absurd (List.mem_of_getElem? hi) hx
      | succ j => simp at hj; rw [nodupN_spec h.2 hi hj]

theorem renBlk_kind {keep : List Nat} {x y : XBlk} (h : renBlk keep x = some y) : y.isRo = x.isRo ∧ y.isGone = x.isGone := by
  unfold renBlk at h
  split at h
  · split at h
    · injection h with h; subst h; exact ⟨rfl, rfl⟩
    · split at h
      · injection h with h; subst h
        rename_i cs k _ _ _ _
        cases k <;> exact ⟨rfl, rfl⟩
      · cases h
  · injection h with h; subst h; exact ⟨rfl, rfl⟩
  · cases h

theorem renBlk_rel {ρ : Emb} {keep : List Nat} {w : World} {e : Ent} {x y : XBlk} (h : renBlk keep x = some y) (hb : BlkR ρ B w e x) : BlkR (keepE ρ keep) B w e y := by
  unfold renBlk at h
  split at h
  · rename_i cs k
    obtain ⟨h1, h2⟩ := hb
    split at h
    · rename_i hk
      injection h with h
      subst h
      refine ⟨h1, fun o v ho hv => ?_⟩
      obtain ⟨u, q1, q2, q3⟩ := h2 o v ho hv
      have hu : v.under 0 = true := by
        cases k with
        | ro => cases hk
        | own => cases hk
        | arr esz => exact (h1.2.2.1 v (List.mem_of_getElem? ho) hv).2
        | loose esz m => exact (h1.2.2.2.1 v (List.mem_of_getElem? ho) hv).2
      exact ⟨u, q1, VR.under (ρ := keepE ρ keep) (ρ' := ρ) (n := 0) (fun b e hb _ => by omega) (ZMap.le_refl _) hu q2, q3⟩
    · rename_i hk
      split at h
      case h_2 => cases h
      case h_1 l hl =>
      injection h with h
      subst h
      obtain ⟨l1, l2⟩ := hardAll_get hl
      refine ⟨?_, fun o v ho hv => ?_⟩
      · cases k with
        | ro => exact h1
        | own => exact h1
        | arr esz => exact absurd rfl hk
        | loose esz m => exact absurd rfl hk
      · obtain ⟨x, q1, q2⟩ := l2 o v ho
        obtain ⟨u, r1, r2, r3⟩ := h2 o x q1 (ren_live q2 hv)
        exact ⟨u, r1, ren_vr 20 _ _ _ q2 r2, r3⟩
  · injection h with h
    subst h
    exact hb
  · cases h

theorem prune_now {n : Nat} {ρ0 : Emb} {S0 : XS} {wi : World} (hS : S0.size = 0) (hdom : ∀ b e, ρ0 b = some e → b < S0.size) {rows : Nat} {ts : List Nat} {T T' : Tmps} {S S' : XS} {a : Act} {w : World} (hr : n ≤ rows * 8)
    (hn : Now P B w0 0 n ρ0 S0 wi T S a w) (h : prune rows ts T S = some (T', S')) : Now P B w0 0 n ρ0 S0 wi T' S' a w := by
  obtain ⟨ρ, W, h1, h2, h3, h4, h5, h6⟩ := hn
  unfold prune at h
  simp only at h
  generalize growKeep S 200 (ts.flatMap fun t => (tget T t).addrs) [] = keep at h
  split at h
  case isFalse => cases h
  rename_i hnd
  split at h
  case h_2 => cases h
  case h_1 T2 l hT2 hl =>
  injection h with h
  simp only [Prod.mk.injEq] at h
  obtain ⟨rfl, rfl⟩ := h
  obtain ⟨l1, l2⟩ := pruneB_get hl
  have hget : ∀ i b, keep[i]? = some b → ∃ x, renBlk keep (S.get b) = some x ∧ XS.get { heap := l.reverse, size := keep.length, log := S.log } i = x := fun i b hi => by
    have hik : i < keep.length := by
      rcases Nat.lt_or_ge i keep.length with q | q
      · exact q
      · rw [List.getElem?_eq_none q] at hi; cases hi
    have hil : i < l.length := by omega
    obtain ⟨b', q1, q2⟩ := l2 i _ (List.getElem?_eq_getElem hil)
    rw [hi] at q1
    injection q1 with q1
    subst q1
    refine ⟨_, q2, ?_⟩
    unfold XS.get
    simp only
    rw [if_pos hik, List.getElem?_reverse (by omega)]
    have : l.length - 1 - (keep.length - 1 - i) = i := by omega
    rw [this, List.getElem?_eq_getElem hil]
    rfl
  have hW : W = [] := by
    cases W with
    | nil => rfl
    | cons p W => have := h2.wb p (by simp); omega
  subst hW
  refine ⟨keepE ρ keep, [], ⟨h1.below, h1.Bw, fun i e he => ?_, fun i e he => ?_, fun i j e e' he he' hq hne => ?_, fun i e he => ?_, h1.fz.ok, h1.fz.zc, fun i e he => ?_⟩,
    ⟨⟨fun b e he => absurd (hdom b e he) (by omega), h2.ext.z⟩, fun b e he hb => by omega, by rw [hS]; exact Nat.zero_le _, h2.wsize, fun b hb => by omega, fun b _ hb => by omega, fun p hp => (by cases hp), fun i e he _ => ?_, fun r o hr => (h2.frame r o hr).imp id (Or.imp (fun ⟨p, hp, _⟩ => by cases hp) id), fun r hr => (h2.frameI r hr).imp id (Or.imp (fun ⟨p, hp, _⟩ => by cases hp) id), h2.keep, fun p hp => (by cases hp), fun p hp => (by cases hp), h2.zold⟩,
    h3, ?_, h5, h6⟩
  · obtain ⟨b, q1, q2⟩ := keepE_inv he
    rcases Nat.lt_or_ge i keep.length with q | q
    · exact q
    · rw [List.getElem?_eq_none q] at q1; cases q1
  · obtain ⟨b, q1, q2⟩ := keepE_inv he
    obtain ⟨x, r1, r2⟩ := hget i b q1
    rw [r2]
    exact renBlk_rel r1 (h1.blk b e q2)
  · obtain ⟨b, q1, q2⟩ := keepE_inv he
    obtain ⟨b', q1', q2'⟩ := keepE_inv he'
    obtain ⟨x, r1, r2⟩ := hget i b q1
    obtain ⟨x', r1', r2'⟩ := hget j b' q1'
    have hbb : b ≠ b' := fun q => by subst q; exact hne (nodupN_spec hnd q1 q1')
    obtain ⟨k1, k2⟩ := renBlk_kind r1
    obtain ⟨k1', k2'⟩ := renBlk_kind r1'
    rw [r2, r2', k1, k2, k1', k2']
    exact h1.inj b b' e e' q2 q2' hq hbb
  · obtain ⟨b, q1, q2⟩ := keepE_inv he
    exact h1.lt b e q2
  · obtain ⟨b, q1, q2⟩ := keepE_inv he
    exact h1.fz.zd b e q2
  · obtain ⟨b, q1, q2⟩ := keepE_inv he
    rcases h2.new b e q2 (Nat.zero_le _) with z | ⟨b0, e0, z1, z2, z3⟩ | ⟨p, hp, _⟩
    · exact .inl z
    · exact absurd (hdom b0 e0 z2) (by omega)
    · cases hp
  · exact pruneT_tr h4 ts _ T2 (deadT_tr h5 hr) hT2

/-- the head of a loop, and its end -/
theorem head_now {n base : Nat} {ρ0 : Emb} {S0 : XS} {wi : World} (hb : base = S0.size) (hdom : ∀ b e, ρ0 b = some e → b < S0.size) {lv : Lives} (hlv : ∀ id rows ts, lv id = some (rows, ts) → n ≤ rows * 8) {c : Code} {T T' : Tmps} {S S' : XS} {a : Act} {w : World}
    (hn : Now P B w0 base n ρ0 S0 wi T S a w) (h : headPr lv base c T S = some (T', S')) : Now P B w0 base n ρ0 S0 wi T' S' a w := by
  unfold headPr at h
  split at h
  · rename_i rows ts hl
    split at h
    · rename_i h0
      subst h0
      exact prune_now hb.symm hdom (hlv _ _ _ hl) hn h
    · injection h with h
      simp only [Prod.mk.injEq] at h
      obtain ⟨rfl, rfl⟩ := h
      exact hn
  · injection h with h
    simp only [Prod.mk.injEq] at h
    obtain ⟨rfl, rfl⟩ := h
    exact hn

theorem xcode_wp {good : Nat → Array Oper → Bool} {okc : XCallFn → Prop} (hD : DrawOK P B w0 good okc) {call : XCallFn} (hc : CallOK P B w0 call) (hok : okc call) {fuel base n : Nat} {ρ0 : Emb} {S0 : XS} {wi : World} (hbe : base = S0.size) (hdom : ∀ b e, ρ0 b = some e → b < S0.size) {lv : Lives} (hlv : ∀ id rows ts, lv id = some (rows, ts) → n ≤ rows * 8) :
    ∀ (c : Code) (T : Tmps) (S : XS) (a : Act) (w : World) (e : XExit) (T' : Tmps) (S' : XS) (Q : Exit → Act → World → Prop), goodCode good n c = true → Now P B w0 base n ρ0 S0 wi T S a w →
      xcode P call lv fuel base c T S = some (e, T', S') → (∀ a' w', Now P B w0 base n ρ0 S0 wi T' S' a' w' → Q (exitOf e) a' w') → c.wp P Q a w := by
  have hb : base ≤ S0.size := Nat.le_of_eq hbe
  intro c
  induction c with
  | skip =>
    intro T S a w e T' S' Q hg hn hx hQ
    simp only [xcode, Option.some.injEq, Prod.mk.injEq] at hx
    obtain ⟨rfl, rfl, rfl⟩ := hx
    exact wp_skip (hQ a w hn)
  | region id ops draw =>
    intro T S a w e T' S' Q hg hn hx hQ
    simp only [goodCode, Bool.and_eq_true] at hg
    simp only [xcode] at hx
    split at hx
    case h_2 => cases hx
    case h_1 T1 S1 hr =>
    simp only [Option.some.injEq, Prod.mk.injEq] at hx
    obtain ⟨rfl, rfl, rfl⟩ := hx
    cases draw with
    | false =>
      simp only [Bool.false_eq_true, if_false] at hr
      exact wp_region_list (xops_wp hc ops hb hQ ops.toList T S a w (fun o ho => List.all_eq_true.1 hg.1 o ho) hn hr)
    | true =>
      simp only [if_true] at hr
      exact hD call base n id ops ρ0 S0 wi T T1 S S1 a w Q hc hok hb (by simpa using hg.2) hn hr hQ
  | seq x y ihx ihy =>
    intro T S a w e T' S' Q hg hn hx hQ
    simp only [goodCode, Bool.and_eq_true] at hg
    simp only [xcode] at hx
    refine wp_seq ?_
    split at hx
    · rename_i T1 S1 h1
      refine ihx T S a w .normal T1 S1 _ hg.1 hn h1 fun a1 w1 hn1 => ?_
      exact ihy T1 S1 a1 w1 e T' S' Q hg.2 hn1 hx hQ
    · rename_i hne
      refine ihx T S a w e T' S' _ hg.1 hn hx fun a1 w1 hn1 => ?_
      have := hQ a1 w1 hn1
      cases e with
      | normal => exact absurd hx (hne _ _)
      | exit id => exact this
      | ret => exact this
  | cond c x y ihx ihy =>
    intro T S a w e T' S' Q hg hn hx hQ
    simp only [goodCode, Bool.and_eq_true] at hg
    simp only [xcode] at hx
    obtain ⟨ρ', W, h1, h2, h3, h4, h5, h6⟩ := hn
    split at hx
    · rename_i hcv
      exact wp_cond_true (cond_val h4 hcv) (ihx T S a w e T' S' Q hg.1 ⟨ρ', W, h1, h2, h3, h4, h5, h6⟩ hx hQ)
    · rename_i hcv
      exact wp_cond_false (cond_val h4 hcv) (ihy T S a w e T' S' Q hg.2 ⟨ρ', W, h1, h2, h3, h4, h5, h6⟩ hx hQ)
    · cases hx
  | block id c ih =>
    intro T S a w e T' S' Q hg hn hx hQ
    simp only [goodCode] at hg
    simp only [xcode] at hx
    refine wp_block ?_
    split at hx
    · rename_i id' T1 S1 h1
      refine ih T S a w (.exit id') T1 S1 _ hg hn h1 fun a1 w1 hn1 => ?_
      show Exit.inBlock id Q (.exit id') a1 w1
      simp only [Exit.inBlock]
      split at hx
      · rename_i hid
        simp only [Option.some.injEq, Prod.mk.injEq] at hx
        obtain ⟨rfl, rfl, rfl⟩ := hx
        rw [if_pos hid]
        exact hQ a1 w1 hn1
      · rename_i hid
        simp only [Option.some.injEq, Prod.mk.injEq] at hx
        obtain ⟨rfl, rfl, rfl⟩ := hx
        rw [if_neg hid]
        exact hQ a1 w1 hn1
    · rename_i hne
      refine ih T S a w e T' S' _ hg hn hx fun a1 w1 hn1 => ?_
      have := hQ a1 w1 hn1
      cases e with
      | normal => exact this
      | exit id => exact absurd hx (hne _ _ _)
      | ret => exact this
  | loop c ih =>
    intro T S a w e T' S' Q hg hn hx hQ
    simp only [goodCode] at hg
    simp only [xcode] at hx
    have key : ∀ (k : Nat) (T : Tmps) (S : XS) (a : Act) (w : World), Now P B w0 base n ρ0 S0 wi T S a w → xloop (headPr lv base c) (xcode P call lv fuel base c) k T S = some (e, T', S') → Code.rounds P c Q k a w := by
      intro k
      induction k with
      | zero => intro T S a w hn hx; simp [xloop] at hx
      | succ k ihk =>
        intro T S a w hn hx
        rw [rounds_succ]
        simp only [xloop] at hx
        split at hx
        · cases hx
        rename_i T0 S1 hpr
        have hn0 := head_now hbe hdom hlv hn hpr
        split at hx
        · cases hx
        · rename_i T1 S2 h1
          refine ih T0 S1 a w .normal T1 S2 _ hg hn0 h1 fun a1 w1 hn1 => ?_
          exact ihk T1 S2 a1 w1 hn1 hx
        · rename_i e1 T1 S2 hne h1
          split at hx
          case h_2 => cases hx
          case h_1 T2 S3 hpr2 =>
          injection hx with hx
          simp only [Prod.mk.injEq] at hx
          obtain ⟨rfl, rfl, rfl⟩ := hx
          refine ih T0 S1 a w e1 T1 S2 _ hg hn0 h1 fun a1 w1 hn1 => ?_
          have := hQ a1 w1 (head_now hbe hdom hlv hn1 hpr2)
          cases e1 with
          | normal => exact (hne rfl).elim
          | exit id => exact this
          | ret => exact this
    exact wp_loop_rounds fuel (key fuel T S a w hn hx)
  | exit id =>
    intro T S a w e T' S' Q hg hn hx hQ
    simp only [xcode, Option.some.injEq, Prod.mk.injEq] at hx
    obtain ⟨rfl, rfl, rfl⟩ := hx
    exact wp_exit (hQ a w hn)
  | ret =>
    intro T S a w e T' S' Q hg hn hx hQ
    simp only [xcode, Option.some.injEq, Prod.mk.injEq] at hx
    obtain ⟨rfl, rfl, rfl⟩ := hx
    exact wp_ret (hQ a w hn)
  | rangeFunc f ps x y ihx ihy => intro T S a w e T' S' Q hg hn hx hQ; simp [xcode] at hx
  | scope c ih => intro T S a w e T' S' Q hg hn hx hQ; simp [xcode] at hx
  | label l => intro T S a w e T' S' Q hg hn hx hQ; simp [xcode] at hx
  | goto l => intro T S a w e T' S' Q hg hn hx hQ; simp [xcode] at hx
  | refuse why => intro T S a w e T' S' Q hg hn hx hQ; simp [xcode] at hx

end
end Go.XM
