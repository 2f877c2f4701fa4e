/-
  JudgeOne holds: for every input the law returns true, and each argument reads behind the call as it read before. Conditions: none beyond the row's own. The walk is a run of the plain machine (X texts); the step to the row began as proof-skeleton.mjs' shell.
-/
import Derived.Test.YtlaamopkgopleaaRows
import Derived.WalkKit
import Derived.ProofKit
import Derived.OpenShut
import Derived.Test.YtlaamopkgopleaaOneR0
import Derived.Test.YtlaamopkgopleaaOneR1
import Derived.Test.YtlaamopkgopleaaOneR2
import Derived.Test.YtlaamopkgopleaaOneR3
namespace Go.Proofs.Ytlaamopkgopleaa.judgeOne
open Go.ChangeShapes Go.WideShapes Go.ChangeAt Go.RowKit
set_option linter.unusedVariables false      -- a walk need not use every 'w<i>' (that an integer argument fits its kind)

theorem own : ownKnob Try.prog.godebug = none := by kernel_rfl

theorem inside {i : Nat} (r : ((List.range 3).all fun j => [true, false].all fun b => (List.range 3).all fun l => Go.Proofs.Ytlaamopkgopleaa.judgeOne.run (.ofNat i) (.ofNat j) b (.ofNat l)) = true) {m l : Nat} (hm : m < 3) (hl : l < 3) (a2 : Bool) :
    run (.ofNat i) (.ofNat m) a2 (.ofNat l) = true :=
  List.all_eq_true.1 (List.all_eq_true.1 (List.all_eq_true.1 r m (List.mem_range.2 hm)) a2 (by cases a2 <;> simp)) l (List.mem_range.2 hl)

theorem ran (a0 a1 : Int) (a2 : Bool) (a3 : Int) : run a0 a1 a2 a3 = true := by
  cases a0 with
  | negSucc k => exact o1 k a1 a2 a3
  | ofNat n =>
    rcases Nat.lt_or_ge n 4 with hn | hn
    case inr =>
      obtain ⟨k, rfl⟩ : ∃ k, n = k + 4 := ⟨n - 4, by omega⟩
      exact o2 k a1 a2 a3
    cases a1 with
    | negSucc k => exact List.all_eq_true.1 (o3 k a2 a3) n (List.mem_range.2 hn)
    | ofNat m =>
      rcases Nat.lt_or_ge m 3 with hm | hm
      case inr =>
        obtain ⟨k, rfl⟩ : ∃ k, m = k + 3 := ⟨m - 3, by omega⟩
        exact List.all_eq_true.1 (o4 k a2 a3) n (List.mem_range.2 hn)
      cases a3 with
      | negSucc k => exact List.all_eq_true.1 (List.all_eq_true.1 (o5 k a2) n (List.mem_range.2 hn)) m (List.mem_range.2 hm)
      | ofNat l =>
        rcases Nat.lt_or_ge l 3 with hl | hl
        case inr =>
          obtain ⟨k, rfl⟩ : ∃ k, l = k + 3 := ⟨l - 3, by omega⟩
          exact List.all_eq_true.1 (List.all_eq_true.1 (o6 k a2) n (List.mem_range.2 hn)) m (List.mem_range.2 hm)
        have h4 : n = 0 ∨ n = 1 ∨ n = 2 ∨ n = 3 := by omega
        rcases h4 with rfl | rfl | rfl | rfl
        · exact inside r0 hm hl a2
        · exact inside r1 hm hl a2
        · exact inside r2 hm hl a2
        · exact inside r3 hm hl a2

theorem knows : Go.XM.yes (Go.XM.xcall Try.prog Go.XM.noPrim 60 12 [] 0 Go.XM.XS.none) = true := by kernel_rfl

theorem walk (a0 a1 : Int) (a2 : Bool) (a3 : Int) (w0 : (Lit.int .i64 a0).wf = true) (w1 : (Lit.int .i64 a1).wf = true) (w3 : (Lit.int .i64 a3).wf = true) (w : World) :
    Calls Try.prog 4 #[.int .i64 a0, .int .i64 a1, .bool a2, .int .i64 a3] w fun e w' => e = .returned (.bool true) ∧ Below w.heap.size w w' :=
  Go.XM.calls_trueP Try.checked.mixed good (fun _ _ => Go.XM.primOK_true Try.checked.mixed good knows) (ran a0 a1 a2 a3) (args' := [.int .i64 a0, .int .i64 a1, .bool a2, .int .i64 a3])
    (.cons _ _ _ _ (.int _ a0) (.cons _ _ _ _ (.int _ a1) (.cons _ _ _ _ (.bool a2) (.cons _ _ _ _ (.int _ a3) .nil)))) w

/-! ### THE ROW's STEP: WRITTEN OUT: LEAVE IT -/
set_option maxRecDepth 100000 in
theorem lifted (os : Os) (started : os.Started) (H : Type) (enc : TypeId × Value → H) :
    ReturnsInHanded {} Try.checked os 4 .any (Rows.judgeOneSpec.pre6 enc Try.prog Try.f4 Rows.judgeOneRow.domain false) (Rows.judgeOneSpec.post enc Try.prog Try.f4 false true false false) := by
  refine returnsInHanded_of_change (C := Try.checked) own started (by kernel_rfl) Try.func4
    (ChangeSpec.witness6 (enc := enc) (C := Try.checked) false ⟨#[], #[.int .i64 0, .int .i64 0, .bool false, .int .i64 0], []⟩ 8 (by kernel_rfl) (by kernel_rfl) (by kernel_rfl) (by kernel_rfl)) ?_
  intro W base args ds gs before hval0 hW hcnd _
  have hval : ∀ (j : Nat) t v, Try.f4.params[j]? = some t → args[j]? = some v → Value.okWide Try.prog W .any base t v := hval0
  have hW' := hW
  obtain ⟨p, q, hA0, hV, rfl, hfz, hnd⟩ := hW
  have hA : DataW.TrodAll enc Try.prog W 0 (fun _ => true) true Try.f4.params.toList args.toList ds p := hA0
  rw [Try.params4] at hA hval
  obtain ⟨v0, vs0, d0, ds0, p0, q0, hargs, rfl, rfl, h0, r0⟩ := trodAll_cons hA
  obtain ⟨v1, vs1, d1, ds1, p1, q1, rfl, rfl, rfl, h1, r1⟩ := trodAll_cons r0
  obtain ⟨v2, vs2, d2, ds2, p2, q2, rfl, rfl, rfl, h2, r2⟩ := trodAll_cons r1
  obtain ⟨v3, vs3, d3, ds3, p3, q3, rfl, rfl, rfl, h3, r3⟩ := trodAll_cons r2
  obtain ⟨rfl, rfl, rfl⟩ := trodAll_nil r3
  obtain rfl : args = #[v0, v1, v2, v3] := by cases args; simp_all
  obtain ⟨rfl, rfl⟩ := trodVars_none hV
  obtain ⟨a0, rfl, rfl, rfl, w0⟩ := open_int Try.underlying3 (hval 0 3 v0 rfl rfl) h0
  obtain ⟨a1, rfl, rfl, rfl, w1⟩ := open_int Try.underlying3 (hval 1 3 v1 rfl rfl) h1
  obtain ⟨a2, rfl, rfl, rfl⟩ := open_bool Try.underlying4 (hval 2 4 v2 rfl rfl) h2
  obtain ⟨a3, rfl, rfl, rfl, w3⟩ := open_int Try.underlying3 (hval 3 3 v3 rfl rfl) h3
  clear hA0 hval0
  simp only [List.append_nil] at hW'
  refine (walk a0 a1 a2 a3 w0 w1 w3 W).mono fun e W' ⟨he, hg⟩ => ?_
  subst he
  exact ⟨_, rfl, Go.XM.post_of_below (pa := []) (pv := []) hW' (fun _ _ _ => (trodAll_cons_mk (shut_bool Try.underlying4 _) trodAll_mk0)) (fun sp _ => (trodAll_cons_mk (shut_int Try.underlying3 w0) (trodAll_cons_mk (shut_int Try.underlying3 w1) (trodAll_cons_mk (shut_bool Try.underlying4 _) (trodAll_cons_mk (shut_int Try.underlying3 w3) trodAll_mk0))))) (fun _ _ => rfl) rfl
    hg (ok_one (by kernel_rfl) rfl (okWide_bool_mk Try.underlying4 _))⟩

theorem over : Rows.judgeOneRow.holds Try.pinned (OpenSpec.ofChange Rows.judgeOneSpec) :=
  OpenClaim.holds_of_wide 4 Try.f4 rfl rfl rfl rfl rfl rfl rfl ⟨rfl, rfl, rfl, rfl, rfl⟩ rfl rfl rfl rfl rfl (by kernel_rfl) Try.func4 (by kernel_rfl)
    (of_decide_eq_true (by kernel_rfl)) (by unfold Func.isWrapper; first | (rw [if_pos (by decide +kernel)]; kernel_rfl) | (rw [if_neg (by decide +kernel)]; exact ⟨rfl, rfl⟩))
    (fun os started H enc _ => lifted os started H enc)

/-- ████ THE STATEMENT ████ -/
theorem proved : Rows.JudgeOneSaid :=
  over
#print axioms proved
end Go.Proofs.Ytlaamopkgopleaa.judgeOne

