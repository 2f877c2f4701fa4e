/-
  JudgeMany holds: for every input the law returns true, and each argument reads behind the call as it read before. Conditions: none beyond the row's own. The walk is a run of the plain machine (X texts); the step to the row began as proof-skeleton.mjs' shell.
-/
import Derived.Test.YtlaamopkgopleaaRows
import Derived.WalkKit
import Derived.ProofKit
import Derived.OpenShut
import Derived.Test.YtlaamopkgopleaaManyR0
import Derived.Test.YtlaamopkgopleaaManyR1
import Derived.Test.YtlaamopkgopleaaManyR2
import Derived.Test.YtlaamopkgopleaaManyR3
import Derived.Test.YtlaamopkgopleaaManyR4
namespace Go.Proofs.Ytlaamopkgopleaa.judgeMany
open Go.ChangeShapes Go.WideShapes Go.ChangeAt Go.RowKit
set_option linter.unusedVariables false      -- a walk need not use every 'w<i>' (that an integer argument fits its kind)

theorem own : ownKnob Try.prog.godebug = none := by kernel_rfl

theorem ran (a0 a1 a2 a3 a4 : Int) : run a0 a1 a2 a3 a4 = true := by
  cases a0 with
  | negSucc k => exact n0 k a1 a2 a3 a4
  | ofNat m0 =>
    rcases Nat.lt_or_ge m0 5 with h0 | h0
    case inr =>
      obtain ⟨k, rfl⟩ : ∃ k, m0 = k + 5 := ⟨m0 - 5, by omega⟩
      exact p0 k a1 a2 a3 a4
    cases a1 with
    | negSucc k => exact List.all_eq_true.1 (n1 k a2 a3 a4) m0 (List.mem_range.2 h0)
    | ofNat m1 =>
      rcases Nat.lt_or_ge m1 4 with h1 | h1
      case inr =>
        obtain ⟨k, rfl⟩ : ∃ k, m1 = k + 4 := ⟨m1 - 4, by omega⟩
        exact List.all_eq_true.1 (p1 k a2 a3 a4) m0 (List.mem_range.2 h0)
      cases a2 with
      | negSucc k => exact List.all_eq_true.1 (List.all_eq_true.1 (n2 k a3 a4) m0 (List.mem_range.2 h0)) m1 (List.mem_range.2 h1)
      | ofNat m2 =>
        rcases Nat.lt_or_ge m2 4 with h2 | h2
        case inr =>
          obtain ⟨k, rfl⟩ : ∃ k, m2 = k + 4 := ⟨m2 - 4, by omega⟩
          exact List.all_eq_true.1 (List.all_eq_true.1 (p2 k a3 a4) m0 (List.mem_range.2 h0)) m1 (List.mem_range.2 h1)
        cases a3 with
        | negSucc k => exact List.all_eq_true.1 (List.all_eq_true.1 (List.all_eq_true.1 (n3 k a4) m0 (List.mem_range.2 h0)) m1 (List.mem_range.2 h1)) m2 (List.mem_range.2 h2)
        | ofNat m3 =>
          rcases Nat.lt_or_ge m3 5 with h3 | h3
          case inr =>
            obtain ⟨k, rfl⟩ : ∃ k, m3 = k + 5 := ⟨m3 - 5, by omega⟩
            exact List.all_eq_true.1 (List.all_eq_true.1 (List.all_eq_true.1 (p3 k a4) m0 (List.mem_range.2 h0)) m1 (List.mem_range.2 h1)) m2 (List.mem_range.2 h2)
          cases a4 with
          | negSucc k => exact List.all_eq_true.1 (List.all_eq_true.1 (List.all_eq_true.1 (List.all_eq_true.1 (n4 k ) m0 (List.mem_range.2 h0)) m1 (List.mem_range.2 h1)) m2 (List.mem_range.2 h2)) m3 (List.mem_range.2 h3)
          | ofNat m4 =>
            rcases Nat.lt_or_ge m4 4 with h4 | h4
            case inr =>
              obtain ⟨k, rfl⟩ : ∃ k, m4 = k + 4 := ⟨m4 - 4, by omega⟩
              exact List.all_eq_true.1 (List.all_eq_true.1 (List.all_eq_true.1 (List.all_eq_true.1 (p4 k ) m0 (List.mem_range.2 h0)) m1 (List.mem_range.2 h1)) m2 (List.mem_range.2 h2)) m3 (List.mem_range.2 h3)
            have hc : m0 = 0 ∨ m0 = 1 ∨ m0 = 2 ∨ m0 = 3 ∨ m0 = 4 := by omega
            have hd : m1 = 0 ∨ m1 = 1 ∨ m1 = 2 ∨ m1 = 3 := by omega
            rcases hc with rfl | rfl | rfl | rfl | rfl <;> rcases hd with rfl | rfl | rfl | rfl
            · exact List.all_eq_true.1 (List.all_eq_true.1 (List.all_eq_true.1 (r0_0) m2 (List.mem_range.2 h2)) m3 (List.mem_range.2 h3)) m4 (List.mem_range.2 h4)
            · exact List.all_eq_true.1 (List.all_eq_true.1 (List.all_eq_true.1 (r0_1) m2 (List.mem_range.2 h2)) m3 (List.mem_range.2 h3)) m4 (List.mem_range.2 h4)
            · exact List.all_eq_true.1 (List.all_eq_true.1 (List.all_eq_true.1 (r0_2) m2 (List.mem_range.2 h2)) m3 (List.mem_range.2 h3)) m4 (List.mem_range.2 h4)
            · exact List.all_eq_true.1 (List.all_eq_true.1 (List.all_eq_true.1 (r0_3) m2 (List.mem_range.2 h2)) m3 (List.mem_range.2 h3)) m4 (List.mem_range.2 h4)
            · exact List.all_eq_true.1 (List.all_eq_true.1 (List.all_eq_true.1 (r1_0) m2 (List.mem_range.2 h2)) m3 (List.mem_range.2 h3)) m4 (List.mem_range.2 h4)
            · exact List.all_eq_true.1 (List.all_eq_true.1 (List.all_eq_true.1 (r1_1) m2 (List.mem_range.2 h2)) m3 (List.mem_range.2 h3)) m4 (List.mem_range.2 h4)
            · exact List.all_eq_true.1 (List.all_eq_true.1 (List.all_eq_true.1 (r1_2) m2 (List.mem_range.2 h2)) m3 (List.mem_range.2 h3)) m4 (List.mem_range.2 h4)
            · exact List.all_eq_true.1 (List.all_eq_true.1 (List.all_eq_true.1 (r1_3) m2 (List.mem_range.2 h2)) m3 (List.mem_range.2 h3)) m4 (List.mem_range.2 h4)
            · exact List.all_eq_true.1 (List.all_eq_true.1 (List.all_eq_true.1 (r2_0) m2 (List.mem_range.2 h2)) m3 (List.mem_range.2 h3)) m4 (List.mem_range.2 h4)
            · exact List.all_eq_true.1 (List.all_eq_true.1 (List.all_eq_true.1 (r2_1) m2 (List.mem_range.2 h2)) m3 (List.mem_range.2 h3)) m4 (List.mem_range.2 h4)
            · exact List.all_eq_true.1 (List.all_eq_true.1 (List.all_eq_true.1 (r2_2) m2 (List.mem_range.2 h2)) m3 (List.mem_range.2 h3)) m4 (List.mem_range.2 h4)
            · exact List.all_eq_true.1 (List.all_eq_true.1 (List.all_eq_true.1 (r2_3) m2 (List.mem_range.2 h2)) m3 (List.mem_range.2 h3)) m4 (List.mem_range.2 h4)
            · exact List.all_eq_true.1 (List.all_eq_true.1 (List.all_eq_true.1 (r3_0) m2 (List.mem_range.2 h2)) m3 (List.mem_range.2 h3)) m4 (List.mem_range.2 h4)
            · exact List.all_eq_true.1 (List.all_eq_true.1 (List.all_eq_true.1 (r3_1) m2 (List.mem_range.2 h2)) m3 (List.mem_range.2 h3)) m4 (List.mem_range.2 h4)
            · exact List.all_eq_true.1 (List.all_eq_true.1 (List.all_eq_true.1 (r3_2) m2 (List.mem_range.2 h2)) m3 (List.mem_range.2 h3)) m4 (List.mem_range.2 h4)
            · exact List.all_eq_true.1 (List.all_eq_true.1 (List.all_eq_true.1 (r3_3) m2 (List.mem_range.2 h2)) m3 (List.mem_range.2 h3)) m4 (List.mem_range.2 h4)
            · exact List.all_eq_true.1 (List.all_eq_true.1 (List.all_eq_true.1 (r4_0) m2 (List.mem_range.2 h2)) m3 (List.mem_range.2 h3)) m4 (List.mem_range.2 h4)
            · exact List.all_eq_true.1 (List.all_eq_true.1 (List.all_eq_true.1 (r4_1) m2 (List.mem_range.2 h2)) m3 (List.mem_range.2 h3)) m4 (List.mem_range.2 h4)
            · exact List.all_eq_true.1 (List.all_eq_true.1 (List.all_eq_true.1 (r4_2) m2 (List.mem_range.2 h2)) m3 (List.mem_range.2 h3)) m4 (List.mem_range.2 h4)
            · exact List.all_eq_true.1 (List.all_eq_true.1 (List.all_eq_true.1 (r4_3) m2 (List.mem_range.2 h2)) m3 (List.mem_range.2 h3)) m4 (List.mem_range.2 h4)

theorem knows : Go.XM.yes (Go.XM.xcall Try.prog Go.XM.noPrim 60 12 [] 0 Go.XM.XS.none) = true := by kernel_rfl

theorem walk (a0 a1 a2 a3 a4 : Int) (w0 : (Lit.int .i64 a0).wf = true) (w1 : (Lit.int .i64 a1).wf = true) (w2 : (Lit.int .i64 a2).wf = true) (w3 : (Lit.int .i64 a3).wf = true) (w4 : (Lit.int .i64 a4).wf = true) (w : World) :
    Calls Try.prog 5 #[.int .i64 a0, .int .i64 a1, .int .i64 a2, .int .i64 a3, .int .i64 a4] w fun e w' => e = .returned (.bool true) ∧ Below w.heap.size w w' :=
  Go.XM.calls_trueP Try.checked.mixed good (fun _ _ => Go.XM.primOK_true Try.checked.mixed good knows) (ran a0 a1 a2 a3 a4) (args' := [.int .i64 a0, .int .i64 a1, .int .i64 a2, .int .i64 a3, .int .i64 a4])
    (.cons _ _ _ _ (.int _ a0) (.cons _ _ _ _ (.int _ a1) (.cons _ _ _ _ (.int _ a2) (.cons _ _ _ _ (.int _ a3) (.cons _ _ _ _ (.int _ a4) .nil))))) w

/-! ### THE ROW's STEP: WRITTEN OUT: LEAVE IT -/
set_option maxRecDepth 100000 in
theorem lifted (os : Os) (started : os.Started) (H : Type) (enc : TypeId × Value → H) :
    ReturnsInHanded {} Try.checked os 5 .any (Rows.judgeManySpec.pre6 enc Try.prog Try.f5 Rows.judgeManyRow.domain false) (Rows.judgeManySpec.post enc Try.prog Try.f5 false true false false) := by
  refine returnsInHanded_of_change (C := Try.checked) own started (by kernel_rfl) Try.func5
    (ChangeSpec.witness6 (enc := enc) (C := Try.checked) false ⟨#[], #[.int .i64 0, .int .i64 0, .int .i64 0, .int .i64 0, .int .i64 0], []⟩ 8 (by kernel_rfl) (by kernel_rfl) (by kernel_rfl) (by kernel_rfl)) ?_
  intro W base args ds gs before hval0 hW hcnd _
  have hval : ∀ (j : Nat) t v, Try.f5.params[j]? = some t → args[j]? = some v → Value.okWide Try.prog W .any base t v := hval0
  have hW' := hW
  obtain ⟨p, q, hA0, hV, rfl, hfz, hnd⟩ := hW
  have hA : DataW.TrodAll enc Try.prog W 0 (fun _ => true) true Try.f5.params.toList args.toList ds p := hA0
  rw [Try.params5] at hA hval
  obtain ⟨v0, vs0, d0, ds0, p0, q0, hargs, rfl, rfl, h0, r0⟩ := trodAll_cons hA
  obtain ⟨v1, vs1, d1, ds1, p1, q1, rfl, rfl, rfl, h1, r1⟩ := trodAll_cons r0
  obtain ⟨v2, vs2, d2, ds2, p2, q2, rfl, rfl, rfl, h2, r2⟩ := trodAll_cons r1
  obtain ⟨v3, vs3, d3, ds3, p3, q3, rfl, rfl, rfl, h3, r3⟩ := trodAll_cons r2
  obtain ⟨v4, vs4, d4, ds4, p4, q4, rfl, rfl, rfl, h4, r4⟩ := trodAll_cons r3
  obtain ⟨rfl, rfl, rfl⟩ := trodAll_nil r4
  obtain rfl : args = #[v0, v1, v2, v3, v4] := by cases args; simp_all
  obtain ⟨rfl, rfl⟩ := trodVars_none hV
  obtain ⟨a0, rfl, rfl, rfl, w0⟩ := open_int Try.underlying3 (hval 0 3 v0 rfl rfl) h0
  obtain ⟨a1, rfl, rfl, rfl, w1⟩ := open_int Try.underlying3 (hval 1 3 v1 rfl rfl) h1
  obtain ⟨a2, rfl, rfl, rfl, w2⟩ := open_int Try.underlying3 (hval 2 3 v2 rfl rfl) h2
  obtain ⟨a3, rfl, rfl, rfl, w3⟩ := open_int Try.underlying3 (hval 3 3 v3 rfl rfl) h3
  obtain ⟨a4, rfl, rfl, rfl, w4⟩ := open_int Try.underlying3 (hval 4 3 v4 rfl rfl) h4
  clear hA0 hval0
  simp only [List.append_nil] at hW'
  refine (walk a0 a1 a2 a3 a4 w0 w1 w2 w3 w4 W).mono fun e W' ⟨he, hg⟩ => ?_
  subst he
  exact ⟨_, rfl, Go.XM.post_of_below (pa := []) (pv := []) hW' (fun _ _ _ => (trodAll_cons_mk (shut_bool Try.underlying4 _) trodAll_mk0)) (fun sp _ => (trodAll_cons_mk (shut_int Try.underlying3 w0) (trodAll_cons_mk (shut_int Try.underlying3 w1) (trodAll_cons_mk (shut_int Try.underlying3 w2) (trodAll_cons_mk (shut_int Try.underlying3 w3) (trodAll_cons_mk (shut_int Try.underlying3 w4) trodAll_mk0)))))) (fun _ _ => rfl) rfl
    hg (ok_one (by kernel_rfl) rfl (okWide_bool_mk Try.underlying4 _))⟩

theorem over : Rows.judgeManyRow.holds Try.pinned (OpenSpec.ofChange Rows.judgeManySpec) :=
  OpenClaim.holds_of_wide 5 Try.f5 rfl rfl rfl rfl rfl rfl rfl ⟨rfl, rfl, rfl, rfl, rfl⟩ rfl rfl rfl rfl rfl (by kernel_rfl) Try.func5 (by kernel_rfl)
    (of_decide_eq_true (by kernel_rfl)) (by unfold Func.isWrapper; first | (rw [if_pos (by decide +kernel)]; kernel_rfl) | (rw [if_neg (by decide +kernel)]; exact ⟨rfl, rfl⟩))
    (fun os started H enc _ => lifted os started H enc)

/-- ████ THE STATEMENT ████ -/
theorem proved : Rows.JudgeManySaid :=
  over
#print axioms proved
end Go.Proofs.Ytlaamopkgopleaa.judgeMany

