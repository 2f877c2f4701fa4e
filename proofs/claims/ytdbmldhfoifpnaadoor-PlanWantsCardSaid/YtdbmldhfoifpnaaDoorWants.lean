/-
  PlanWants holds: for every input the law returns true, and each argument reads behind the call as it read before; the tied card of it. Conditions: none beyond the row's own (unicode/utf8.first and acceptRanges read as the row lists them; the card ties that to the program's text). The walk is a run of the plain machine (X texts) in the kernel; the step to the row after the guide's worked texts.
-/
import Derived.Test.YtdbmldhfoifpnaaDoorRows
import Derived.Test.YtdbmldhfoifpnaaDoorCards
import Derived.Test.YtdbmldhfoifpnaaDoorTie
import Derived.WalkKit
import Derived.ProofKit
import Derived.OpenShut
import Derived.Lay
import Derived.LaidOnce
import Derived.SevenTiedAt
import Derived.Lib.LaidU8
import Derived.Test.YtdbmldhfoifpnaaDoorEC
import Derived.Test.YtdbmldhfoifpnaaDoorED
namespace Go.Proofs.YtdbmldhfoifpnaaDoor.planWants
open Go.ChangeShapes Go.WideShapes Go.ChangeAt Go.RowKit Go.XM Go.Shelf
set_option linter.unusedVariables false
set_option linter.unusedSimpArgs false
set_option linter.unnecessarySimpa false

theorem own : ownKnob Tryd.prog.godebug = none := by kernel_rfl
theorem kids : Kids Tryd.prog (· < Tryd.prog.types.size) := kids_rows (by kernel_rfl) (by kernel_rfl)
theorem full : ∀ t e, t < Tryd.prog.types.size → Tryd.prog.underlying t = some (.slice e) → 0 < Tryd.prog.cellsOf e := slices_full_of Tryd.prog (by kernel_rfl)
theorem small : ∀ t ∈ [4, 4, 4], t < Tryd.prog.types.size := by
  have h : decide (4 < Tryd.prog.types.size) = true := by kernel_rfl
  intro t ht
  simp only [List.mem_cons, List.not_mem_nil, or_false, or_self] at ht
  subst ht
  exact of_decide_eq_true h

/-! ### the tables -/
def laid : List (String × DataW Unit) := [("unicode/utf8.acceptRanges", Rows.laid_unicode_utf8_acceptRanges), ("unicode/utf8.first", Rows.laid_unicode_utf8_first)]
theorem extra : U8Extra Tryd.prog rho := ⟨by kernel_rfl, by kernel_rfl, by kernel_rfl, by kernel_rfl, by kernel_rfl, by kernel_rfl, by kernel_rfl⟩
theorem first_eq : Pinned.utf8First = Lib.firstData := by kernel_rfl
theorem accept_eq : (Rows.laid_unicode_utf8_acceptRanges : DataW Unit) = Lib.acceptData := by kernel_rfl
theorem tables {W : World} (h : laidMet Tryd.prog laid W) : Laid Tryd.prog W := fun g3 g4 h3 h4 => by
  have r3 : Lib.VarReads Tryd.prog W "unicode/utf8.first" Lib.firstData := first_eq ▸ Lib.laidMet.reads h (List.mem_cons_of_mem _ (List.mem_cons_self))
  have r4 : Lib.VarReads Tryd.prog W "unicode/utf8.acceptRanges" Lib.acceptData := accept_eq ▸ Lib.laidMet.reads h (List.mem_cons_self)
  have := utf8Tabs_of_reads { lays with } extra r3 r4
  have e3 : rho.g 3 = g3 := Option.some.inj (extra.n3.symm.trans h3)
  have e4 : rho.g 4 = g4 := Option.some.inj (extra.n4.symm.trans h4)
  rw [e3, e4] at this
  exact this

theorem ran (a0 : Bool) (a1 : Bool) (a2 : Bool) : run 8 [.bool a0, .bool a1, .bool a2] = true := match a0, a1, a2 with | false, false, false => wfalse_falsefalse | false, false, true => wtrue_falsefalse | false, true, false => wfalse_falsetrue | false, true, true => wtrue_falsetrue | true, false, false => wfalse_truefalse | true, false, true => wtrue_truefalse | true, true, false => wfalse_truetrue | true, true, true => wtrue_truetrue
theorem walk (a0 : Bool) (a1 : Bool) (a2 : Bool) (W : World) (hl : Laid Tryd.prog W) : Calls Tryd.prog 8 #[.bool a0, .bool a1, .bool a2] W fun e w' => e = .returned (.bool true) ∧ Below W.heap.size W w' :=
  calls_law (prim := pr2) Tryd.checked.mixed good pr2_ok (ran a0 a1 a2) W hl (.cons _ _ _ _ _ (.bool _ _) (.cons _ _ _ _ _ (.bool _ _) (.cons _ _ _ _ _ (.bool _ _) (.nil _))))

/-! ### THE ROW's STEP -/
set_option maxRecDepth 100000 in
theorem lifted (os : Os) (started : os.Started) (H : Type) (enc : TypeId × Value → H) :
    ReturnsInHanded {} Tryd.checked os 8 .any (fun w args => (Rows.planWantsSpec.pre enc Tryd.prog Tryd.f8 [] false w args ∧ laidMetH Tryd.prog laid w) ∧ sizedMet enc Tryd.prog Tryd.f8 (OpenSpec.ofChange Rows.planWantsSpec) false w args)
      (Rows.planWantsSpec.post enc Tryd.prog Tryd.f8 false true false false) := by
  refine returnsInHanded_of_change_and (C := Tryd.checked) (X := fun w _ => laidMetH Tryd.prog laid w) (fun _ _ _ hh h => h.of_heap hh) own started (by kernel_rfl) Tryd.func8
    (ChangeSpec.witness_shaped (enc := enc) (C := Tryd.checked) (os := os) (X := fun w _ => laidMetH Tryd.prog laid w) false (World.laidAll Tryd.prog os laid) #[.bool false, .bool false, .bool false] 8 (World.laidAll_os _ _ _)
      (World.shaped_of_ZipB (by kernel_rfl) (by kernel_rfl)) (by kernel_rfl) (by kernel_rfl) (by kernel_rfl)
      (by rw [MakeChecks.laidMetH_plain _ _ _ (by kernel_rfl)]; exact laidMet_laidAll _ (by kernel_rfl) (by kernel_rfl))) ?_
  intro W base args ds gs before hval0 hW _ _ hL _
  have hval : ∀ (j : Nat) t v, Tryd.f8.params[j]? = some t → args[j]? = some v → Value.okWide Tryd.prog W .any base t v := hval0
  have hW' := hW
  obtain ⟨p, q, hA0, hV, rfl, _, _⟩ := hW
  have hA : DataW.TrodAll enc Tryd.prog W 0 (fun _ => true) true Tryd.f8.params.toList args.toList ds p := hA0
  rw [Tryd.params8] at hA hval
  have hAk := hA
  obtain ⟨v0, vs0, d0, ds0, p0, q0, hargs, rfl, rfl, h0, r0⟩ := trodAll_cons hA
  obtain ⟨v1, vs1, d1, ds1, p1, q1, rfl, rfl, rfl, h1, r1⟩ := trodAll_cons r0
  obtain ⟨v2, vs2, d2, ds2, p2, q2, rfl, rfl, rfl, h2, r2⟩ := trodAll_cons r1
  obtain ⟨rfl, rfl, rfl⟩ := trodAll_nil r2
  obtain rfl : args = #[v0, v1, v2] := by cases args; simp_all
  obtain ⟨rfl, rfl⟩ := trodVars_none hV
  obtain ⟨a0, rfl, rfl, rfl⟩ := open_bool Tryd.underlying4 (hval 0 4 v0 rfl rfl) h0
  obtain ⟨a1, rfl, rfl, rfl⟩ := open_bool Tryd.underlying4 (hval 1 4 v1 rfl rfl) h1
  obtain ⟨a2, rfl, rfl, rfl⟩ := open_bool Tryd.underlying4 (hval 2 4 v2 rfl rfl) h2
  rw [MakeChecks.laidMetH_plain _ _ _ (by kernel_rfl)] at hL
  have hlt := hW'.lt
  refine (walk a0 a1 a2 W (tables hL)).mono fun e W' ⟨he, hg⟩ => ?_
  subst he
  exact ⟨_, rfl, Go.XM.post_of_below (pv := []) hW' (fun _ _ _ => (trodAll_cons_mk (shut_bool Tryd.underlying4 _) trodAll_mk0))
    (fun sp hsp => trodAll_again kids full (by rw [Tryd.params8]; exact small) (by rw [Tryd.params8]; exact hAk) hg (fun x hx => by simpa using hlt x (by simpa using hx)) (fun x hx => hsp x (by simpa using hx))) (fun _ _ => rfl) rfl
    hg (ok_one (by kernel_rfl) rfl (okWide_bool_mk Tryd.underlying4 _))⟩

theorem holds : Rows.PlanWantsSaid :=
  OpenClaim.holds_of_wide 8 Tryd.f8 rfl rfl rfl rfl rfl rfl rfl ⟨rfl, rfl, rfl, rfl, rfl⟩ rfl rfl rfl rfl rfl (by kernel_rfl) Tryd.func8 (by kernel_rfl)
    (of_decide_eq_true (by kernel_rfl)) (by unfold Func.isWrapper; first | (rw [if_pos (by decide +kernel)]; kernel_rfl) | (rw [if_neg (by decide +kernel)]; exact ⟨rfl, rfl⟩))
    (fun os started H enc _ => lifted os started H enc)

/-- ████ THE CARD ████ -/
theorem proved : Rows.PlanWantsCardSaid :=
  Claim7.holds_tied_plain_at .later [] [.data, .pinned] true (true, "c2423804ff05231737476b81e16d66d5de6b60caebf9ad6884f044f7b60806b3") false
    holds (fun _ h => by cases h) (by kernel_rfl) (fun _ h => by cases h) planWants_row_tie rfl ⟨rfl, rfl⟩ (by kernel_rfl) rfl
    (fun f fn hf hfn => by
      obtain rfl : f = 8 := Option.some.inj ((show Tryd.prog.funcNamed "pointsman/pointsmanlaw3.PlanWants" = some 8 by kernel_rfl).symm.trans hf) |>.symm
      obtain rfl : fn = Tryd.f8 := (Option.some.inj (Tryd.func8.symm.trans hfn)).symm
      exact ⟨by kernel_rfl, fun j t ht => by
        rw [Tryd.params8] at ht
        have hm : t ∈ [4, 4, 4] := by simpa using Array.mem_of_getElem? ht
        have hall : ([4, 4, 4].all fun u => !Tryd.prog.wantsStandIn u) = true := by kernel_rfl
        exact (show Tryd.prog.wantsStandIn t = false by simpa using List.all_eq_true.1 hall t hm)⟩)
    (by kernel_rfl)
#print axioms proved
end Go.Proofs.YtdbmldhfoifpnaaDoor.planWants
