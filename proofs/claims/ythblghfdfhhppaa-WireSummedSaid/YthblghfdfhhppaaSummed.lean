/-
  WireSummed holds: for every input the law returns true, and the argument reads behind the call as it read before. Conditions: none beyond the row's own. The walk is a run of the plain machine (X texts), told from its end; the step to the row began as proof-skeleton.mjs' shell.
-/
import Derived.Test.YthblghfdfhhppaaRows
import Derived.WalkKit
import Derived.ProofKit
import Derived.OpenShut
import Derived.Test.YthblghfdfhhppaaWB
namespace Go.Proofs.Ythblghfdfhhppaa.wireSummed
open Go.ChangeShapes Go.WideShapes Go.ChangeAt Go.RowKit Go.XM
set_option linter.unusedVariables false
set_option linter.unusedSimpArgs false

theorem own : ownKnob Try.prog.godebug = none := by kernel_rfl
theorem kids : Kids Try.prog (· < Try.prog.types.size) := kids_rows (by kernel_rfl) (by kernel_rfl)
theorem full : ∀ t e, t < Try.prog.types.size → Try.prog.underlying t = some (.slice e) → 0 < Try.prog.cellsOf e := slices_full_of Try.prog (by kernel_rfl)
theorem small : ∀ t ∈ [22], t < Try.prog.types.size := by
  have h : Nat.blt 22 Try.prog.types.size = true := by kernel_rfl
  intro t ht
  simp only [List.mem_cons, List.not_mem_nil, or_false] at ht
  subst ht
  exact Nat.le_of_ble_eq_true h

/-- numbers that are bytes -/
theorem ints_bytes : ∀ l : List Int, (∀ i, i ∈ l → (Lit.int .u8 i).wf = true) → ∃ b : Bs, l.map (XV.int .u8) = cells b ∧ l.length = b.length
  | [], _ => ⟨[], rfl, rfl⟩
  | i :: l, h => by
    obtain ⟨b, h1, h2⟩ := ints_bytes l fun i hi => h i (by simp [hi])
    have hw := h i (by simp)
    have hi := bounds_u8 hw
    refine ⟨UInt8.ofNat i.toNat :: b, ?_, by simp [h2]⟩
    rw [List.map_cons, h1]
    have : iv (UInt8.ofNat i.toNat) = i := by
      unfold iv
      rw [UInt8.toNat_ofNat', show (2 : Nat) ^ 8 = 256 from rfl]
      omega
    show _ = XV.int .u8 (iv (UInt8.ofNat i.toNat)) :: cells b
    rw [this]

/-- the argument, opened -/
theorem open_arg {H : Type} {enc : TypeId × Value → H} {W : World} {r : Reach} {base : Nat} {v : Value} {d : DataW H} {p : List MemPlace} (hv : Value.okWide Try.prog W r base 22 v) (h : DataW.Trod enc Try.prog W 0 (fun _ => true) true 22 v d p) : ∃ b : Bs, fitB_ b ∧ DR (snap W) (⟨false, false, b⟩ : Row).x.v v := by
  obtain ⟨n, h⟩ := h
  have hp : plainTy Try.prog 5 22 = true := by kernel_rfl
  obtain ⟨xs, h1, h2, _⟩ := trod_shape 5 n 22 _ _ hp h
  obtain ⟨ds, rfl, l1, hwf⟩ := shaped_ints (n := 3) Try.underlying22 Try.underlying5 h1
  obtain ⟨b, hb, hl⟩ := ints_bytes ds hwf
  refine ⟨b, by unfold fitB_; omega, ?_⟩
  rw [hb, hl] at h2
  obtain ⟨a, len, cap, rfl⟩ := okWide_slice Try.underlying22 hv
  cases h2 with
  | cons _ _ _ _ _ h3 _ => exact h3

theorem walk (b : Bs) (hb : fitB_ b) (W : World) {v : Value} (h : DR (snap W) (⟨false, false, b⟩ : Row).x.v v) :
    Calls Try.prog 4 #[v] W fun e w' => e = .returned (.bool true) ∧ Below W.heap.size W w' := by
  refine law_pure law4 (args := encB b) (args' := [v]) ?_ W (.cons _ _ _ _ _ h (.nil _))
  unfold Known.F known
  simp only [okC_of (enc := encB) (good := fitB_) (x := b) hb, valC_of injB (good := fitB_) (x := b) hb]
  rfl

/-! ### THE ROW's STEP -/
set_option maxRecDepth 100000 in
theorem lifted (os : Os) (started : os.Started) (H : Type) (enc : TypeId × Value → H) :
    ReturnsInHanded {} Try.checked os 4 .any (Rows.wireSummedSpec.pre6 enc Try.prog Try.f4 Rows.wireSummedRow.domain false) (Rows.wireSummedSpec.post enc Try.prog Try.f4 false true false false) := by
  refine returnsInHanded_of_change (C := Try.checked) own started (by kernel_rfl) Try.func4
    (ChangeSpec.witness6 (enc := enc) (C := Try.checked) false ⟨#[], #[.slice none 0 0], []⟩ 8 (by kernel_rfl) (by kernel_rfl) (by kernel_rfl) (by kernel_rfl)) ?_
  intro W base args ds gs before hval0 hW hcnd _
  have hW' := hW
  obtain ⟨p, q, hA0, hV, rfl, hfz, hnd⟩ := hW
  have hA : DataW.TrodAll enc Try.prog W 0 (fun _ => true) true Try.f4.params.toList args.toList ds p := hA0
  have hval : ∀ (j : Nat) t v, Try.f4.params[j]? = some t → args[j]? = some v → Value.okWide Try.prog W .any base t v := hval0
  rw [Try.params4] at hA hval
  have hAk := hA
  obtain ⟨v0, vs0, d0, ds0, p0, q0, hargs, rfl, rfl, h0, r0⟩ := trodAll_cons hA
  obtain ⟨rfl, rfl, rfl⟩ := trodAll_nil r0
  obtain rfl : args = #[v0] := by cases args; simp_all
  obtain ⟨rfl, rfl⟩ := trodVars_none hV
  obtain ⟨b, fb, k0⟩ := open_arg (hval 0 22 v0 rfl rfl) h0
  have hlt := hW'.lt
  refine (walk b fb W k0).mono fun e W' ⟨he, hg⟩ => ?_
  subst he
  exact ⟨_, rfl, Go.XM.post_of_below (pv := []) hW' (fun _ _ _ => (trodAll_cons_mk (shut_bool Try.underlying4 _) trodAll_mk0))
    (fun sp hsp => trodAll_again kids full (by rw [Try.params4]; exact small) (by rw [Try.params4]; exact hAk) hg (fun x hx => by simpa using hlt x (by simpa using hx)) (fun x hx => hsp x (by simpa using hx))) (fun _ _ => rfl) rfl
    hg (ok_one (by kernel_rfl) rfl (okWide_bool_mk Try.underlying4 _))⟩

theorem over : Rows.wireSummedRow.holds Try.pinned (OpenSpec.ofChange Rows.wireSummedSpec) :=
  OpenClaim.holds_of_wide 4 Try.f4 rfl rfl rfl rfl rfl rfl rfl ⟨rfl, rfl, rfl, rfl, rfl⟩ rfl rfl rfl rfl rfl (by kernel_rfl) Try.func4 (by kernel_rfl)
    (of_decide_eq_true (by kernel_rfl)) (by unfold Func.isWrapper; first | (rw [if_pos (by decide +kernel)]; kernel_rfl) | (rw [if_neg (by decide +kernel)]; exact ⟨rfl, rfl⟩))
    (fun os started H enc _ => lifted os started H enc)

/-- ████ THE STATEMENT ████ -/
theorem proved : Rows.WireSummedSaid :=
  over
#print axioms proved
end Go.Proofs.Ythblghfdfhhppaa.wireSummed
