/-
  JudgeAtmost holds: for every input the law returns true, and each argument reads behind the call as it read before. Conditions: none beyond the row's own. The walk is a run of the plain machine (X texts), told from its end; the step to the row began as proof-skeleton.mjs' shell.
-/
import Derived.Test.YtlaamopkgopleaaRows
import Derived.WalkKit
import Derived.ProofKit
import Derived.OpenShut
import Derived.Test.YtlaamopkgopleaaAt5
namespace Go.Proofs.Ytlaamopkgopleaa.judgeAtmost
open Go.ChangeShapes Go.WideShapes Go.ChangeAt Go.RowKit Go.XM
set_option linter.unusedVariables false

theorem own : ownKnob Try.prog.godebug = none := by kernel_rfl
theorem kids : Kids Try.prog (· < Try.prog.types.size) := kids_rows (by kernel_rfl) (by kernel_rfl)
theorem full : ∀ t e, t < Try.prog.types.size → Try.prog.underlying t = some (.slice e) → 0 < Try.prog.cellsOf e := slices_full_of Try.prog (by kernel_rfl)
theorem small : ∀ t ∈ [25, 25, 25], t < Try.prog.types.size := by
  have h : Nat.blt 25 Try.prog.types.size = true := by kernel_rfl
  intro t ht
  simp only [List.mem_cons, List.not_mem_nil, or_false, or_self] at ht
  subst ht
  exact Nat.le_of_ble_eq_true h

/-- an argument, opened -/
theorem open_out {H : Type} {enc : TypeId × Value → H} {W : World} {v : Value} {d : DataW H} {p : List MemPlace} (h : DataW.Trod enc Try.prog W 0 (fun _ => true) true 25 v d p) : ∃ a : Out, a.fit ∧ DR (snap W) a.x.v v := by
  obtain ⟨n, h⟩ := h
  have hp : plainTy Try.prog 5 25 = true := by kernel_rfl
  have hn : Nat.beq (Try.prog.cellsOf 25) 1 = false := by kernel_rfl
  obtain ⟨cs, rfl, hcs⟩ := agg_of Try.underlying25 (Nat.ne_of_beq_eq_false hn) h
  obtain ⟨xs, h1, h2, _⟩ := trod_shape 5 n 25 _ _ hp h
  unfold Shaped at h1
  simp only [Try.underlying25] at h1
  obtain ⟨x1, r1, rfl, k1, x2, r2, rfl, k2, rfl⟩ := h1
  obtain ⟨ds, rfl, l1, _⟩ := shaped_ints (n := 2) Try.underlying22 Try.underlying3 k1
  obtain ⟨ps, rfl, l2⟩ := shaped_bools (n := 2) Try.underlying23 Try.underlying4 k2
  refine ⟨⟨ds, ps⟩, ⟨l1, l2⟩, ?_⟩
  rw [hcs] at h2
  exact .agg _ _ _ h2

theorem walk (a b c : Out) (ha : a.fit) (hb : b.fit) (hc : c.fit) (W : World) {v0 v1 v2 : Value} (h0 : DR (snap W) a.x.v v0) (h1 : DR (snap W) b.x.v v1) (h2 : DR (snap W) c.x.v v2) :
    Calls Try.prog 3 #[v0, v1, v2] W fun e w' => e = .returned (.bool true) ∧ Below W.heap.size W w' := by
  refine law_pure law (args := enc3 (a, b, c)) (args' := [v0, v1, v2]) ?_ W (.cons _ _ _ _ _ h0 (.cons _ _ _ _ _ h1 (.cons _ _ _ _ _ h2 (.nil _))))
  unfold Known.F known
  simp only [okC_of (enc := enc3) (good := fit3) (x := (a, b, c)) ⟨ha, hb, hc⟩, valC_of inj3 (good := fit3) (x := (a, b, c)) ⟨ha, hb, hc⟩]
  rfl

/-! ### THE ROW's STEP -/
set_option maxRecDepth 100000 in
theorem lifted (os : Os) (started : os.Started) (H : Type) (enc : TypeId × Value → H) :
    ReturnsInHanded {} Try.checked os 3 .any (Rows.judgeAtmostSpec.pre6 enc Try.prog Try.f3 Rows.judgeAtmostRow.domain false) (Rows.judgeAtmostSpec.post enc Try.prog Try.f3 false true false false) := by
  refine returnsInHanded_of_change (C := Try.checked) own started (by kernel_rfl) Try.func3
    (ChangeSpec.witness6 (enc := enc) (C := Try.checked) false ⟨#[], #[.agg #[.slice none 0 0, .slice none 0 0], .agg #[.slice none 0 0, .slice none 0 0], .agg #[.slice none 0 0, .slice none 0 0]], []⟩ 8 (by kernel_rfl) (by kernel_rfl) (by kernel_rfl) (by kernel_rfl)) ?_
  intro W base args ds gs before hval0 hW hcnd _
  have hW' := hW
  obtain ⟨p, q, hA0, hV, rfl, hfz, hnd⟩ := hW
  have hA : DataW.TrodAll enc Try.prog W 0 (fun _ => true) true Try.f3.params.toList args.toList ds p := hA0
  rw [Try.params3] at hA
  have hAk := hA
  obtain ⟨v0, vs0, d0, ds0, p0, q0, hargs, rfl, rfl, h0, r0⟩ := trodAll_cons hA
  obtain ⟨v1, vs1, d1, ds1, p1, q1, rfl, rfl, rfl, h1, r1⟩ := trodAll_cons r0
  obtain ⟨v2, vs2, d2, ds2, p2, q2, rfl, rfl, rfl, h2, r2⟩ := trodAll_cons r1
  obtain ⟨rfl, rfl, rfl⟩ := trodAll_nil r2
  obtain rfl : args = #[v0, v1, v2] := by cases args; simp_all
  obtain ⟨rfl, rfl⟩ := trodVars_none hV
  obtain ⟨a, fa, k0⟩ := open_out h0
  obtain ⟨b, fb, k1⟩ := open_out h1
  obtain ⟨c, fc, k2⟩ := open_out h2
  have hlt := hW'.lt
  refine (walk a b c fa fb fc W k0 k1 k2).mono fun e W' ⟨he, hg⟩ => ?_
  subst he
  exact ⟨_, rfl, Go.XM.post_of_below (pv := []) hW' (fun _ _ _ => (trodAll_cons_mk (shut_bool Try.underlying4 _) trodAll_mk0))
    (fun sp hsp => trodAll_again kids full (by rw [Try.params3]; exact small) (by rw [Try.params3]; exact hAk) hg (fun x hx => by simpa using hlt x (by simpa using hx)) (fun x hx => hsp x (by simpa using hx))) (fun _ _ => rfl) rfl
    hg (ok_one (by kernel_rfl) rfl (okWide_bool_mk Try.underlying4 _))⟩

theorem over : Rows.judgeAtmostRow.holds Try.pinned (OpenSpec.ofChange Rows.judgeAtmostSpec) :=
  OpenClaim.holds_of_wide 3 Try.f3 rfl rfl rfl rfl rfl rfl rfl ⟨rfl, rfl, rfl, rfl, rfl⟩ rfl rfl rfl rfl rfl (by kernel_rfl) Try.func3 (by kernel_rfl)
    (of_decide_eq_true (by kernel_rfl)) (by unfold Func.isWrapper; first | (rw [if_pos (by decide +kernel)]; kernel_rfl) | (rw [if_neg (by decide +kernel)]; exact ⟨rfl, rfl⟩))
    (fun os started H enc _ => lifted os started H enc)

/-- ████ THE STATEMENT ████ -/
theorem proved : Rows.JudgeAtmostSaid :=
  over
#print axioms proved
end Go.Proofs.Ytlaamopkgopleaa.judgeAtmost
