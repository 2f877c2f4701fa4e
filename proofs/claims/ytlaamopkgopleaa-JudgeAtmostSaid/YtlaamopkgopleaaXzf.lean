/- A plain machine beside the model, and that what it tells the model does: part Xzf. Conditions: those of each theorem below. -/
import Derived.Test.YtlaamopkgopleaaXze
namespace Go.XM
set_option linter.unusedVariables false
set_option linter.unusedSimpArgs false
open Go.RowKit
set_option linter.unusedVariables false

section
variable {P : Program} {B : Nat} {w0 : World}

theorem can_of {call : XCallFn} (hc : CallFr call) {ops : List Oper} {Wd : List (List (Nat × Nat))} {Ts : Nat → Tmps} {Ss : Nat → XS} {vs : Nat → XV} {Ws : Nat → List (Nat × Nat)}
    (h : ∀ i o, ops[i]? = some o → StepC P call ops (predsOf ops) Wd i o (Ts i) (Ss i) (Ts (i + 1)) (Ss (i + 1)) (vs i) (Ws i)) :
    Can ops Ts Ss vs Ws ∧ ∀ k, k < ops.length → ∀ p, p ∈ Ws k → p ∈ Wd.getD k [] := by
  have get : ∀ k (hk : k < ops.length), ops[k]? = some (ops[k]) := fun k hk => List.getElem?_eq_getElem hk
  have hsub : ∀ k, k < ops.length → ∀ p, p ∈ Ws k → p ∈ Wd.getD k [] := fun k hk p hp => by
    rcases (h k _ (get k hk)).2 with ⟨_, S', _, _, hW, _⟩ | ⟨_, _, hW, _⟩
    · exact (hW p hp).1
    · rw [hW] at hp; cases hp
  refine ⟨⟨fun k hk => (stepC_fr hc (h k _ (get k hk))).1, fun k hk => (stepC_fr hc (h k _ (get k hk))).2.2.2, fun k o ho => (h k o ho).1, fun k hk => (stepC_fr hc (h k _ (get k hk))).2.2.1, fun i k hi hk hne hord p hp hpk => ?_⟩, hsub⟩
  rcases (h i _ (get i hi)).2 with ⟨_, S', _, _, hW, _⟩ | ⟨_, _, hW, _⟩
  · refine (hW p hp).2 ?_
    have hw := hsub k hk p hpk
    have hkl : k < Wd.length := by
      rcases Nat.lt_or_ge k Wd.length with z | z
      · exact z
      · rw [List.getD_eq_getElem?_getD, List.getElem?_eq_none z] at hw; cases hw
    unfold openW
    rw [List.mem_flatMap]
    refine ⟨k, List.mem_filter.2 ⟨List.mem_range.2 hkl, ?_⟩, hw⟩
    simp [hne.symm, hord]
  · rw [hW] at hp; cases hp

theorem drawOK (hm : P.follows .mixedOrders = true) : DrawOK P B w0 goodDraw CallFr := by
  intro call base n id ops ρ0 S0 wi T T' S S' a w Q hc hfr hb hg hn hx hQ
  obtain ⟨ρs, W0, h1, h2, h3, h4, h5, h6⟩ := hn
  have St := static_of hg
  obtain ⟨Wd, S1, wsl, h, rfl⟩ := xdraw_eq hx
  obtain ⟨Ts, Ss, vs, Ws, e1, e2, e3, e4, e5, e6⟩ := xopsW_chain ops.toList 0 T S T' S1 wsl h
  simp only [Nat.zero_add] at e3 e4 e5 e6
  obtain ⟨C, hsub⟩ := can_of hfr e6
  subst e1 e2 e3 e4
  refine wp_region_any hm ?_
  have hrel := rel_drew h1
  have I0 := inv_start (n := n) (ops := ops) (vs := vs) C (w := w.drew) hrel h4 h5 h6
  refine any_ok (ρs := ρs) (ws := w.drew) hc St C hsub e6 (fun D ρ' a' w' hD I => ?_) ops.size _ ρs a _ (by simp) ?_ ?_
  · obtain ⟨q1, q2, q3⟩ := inv_end C I hD (W := wsl.flatten.filter fun p => p.1 < (Ss 0).size) fun p => by
      rw [List.mem_filter, List.mem_flatten]
      constructor
      · rintro ⟨⟨l, hl, hp⟩, hlt⟩
        obtain ⟨k, hk, hkl⟩ := List.getElem_of_mem hl
        have := e5 k
        rw [List.getElem?_eq_getElem hk, hkl] at this
        split at this
        · rename_i hlt'
          injection this with this
          subst this
          exact ⟨by simpa using hlt, k, hlt', hp⟩
        · cases this
      · rintro ⟨hlt, k, hk, hp⟩
        exact ⟨⟨Ws k, List.mem_of_getElem? (i := k) (by rw [e5, if_pos hk]), hp⟩, by simpa using hlt⟩
    have hbs : base ≤ (Ss 0).size := Nat.le_trans hb h2.size
    have q4 := q2.lower (base' := base) (W' := wsl.flatten.filter fun p => p.1 < base) hbs (Nat.le_refl _) fun p => by
      simp only [List.mem_filter, decide_eq_true_eq]
      constructor
      · rintro ⟨z1, z2⟩; exact ⟨⟨z1, by omega⟩, z2⟩
      · rintro ⟨⟨z1, _⟩, z2⟩; exact ⟨z1, z2⟩
    refine hQ a' w' ⟨ρ', (wsl.flatten.filter fun p => p.1 < base) ++ ([] ++ W0), q1.relog _, ?_, ?_, q3, I.tsz, I.dfr⟩
    · have z1 := (h2.trans hb ev_drew).trans hb q4
      exact z1.relog S0.log _
    · show _ ++ (Ss 0).log = _
      rw [h3]; simp
  · unfold undone
    refine Nat.le_trans (List.length_filter_le _ _) ?_
    simp
  · have : isDone (Array.replicate ops.size false) = fun _ => False := by
      funext k
      apply propext
      unfold isDone
      constructor
      · intro hk
        rw [Array.getD_eq_getD_getElem?, Array.getElem?_replicate] at hk
        split at hk <;> simp at hk
      · exact False.elim
    rw [this]
    exact I0

/-- every call of the plain machine tells what the real one does -/
theorem xcalls {prim : XPrim} (hm : P.follows .mixedOrders = true) (hp : PrimOK P prim) (hg : GoodProg P prim goodDraw) (n : Nat) : CallOK P B w0 (xcall P prim n) :=
  xcall_ok (drawOK hm) xcall_fr hp hg n

end
end Go.XM
