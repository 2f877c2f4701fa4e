/-
  utf8.DecodeRuneInString and stringslite.IndexByte, known by the shelf's contracts. Condition: the tables of unicode/utf8 hold what the program's text lays (Laid).
-/
import Derived.Test.YtdbmldhfoifpnaaDoorRows
import Derived.Shelf.Unicode.DecodeAny
import Derived.Shelf.Strings.Search1
import Derived.Test.YtdbmldhfoifpnaaDoorXF
import Derived.KernelRfl
namespace Go.Proofs.YtdbmldhfoifpnaaDoor
open Go.XM Go.Shelf Go.RowKit
set_option linter.unusedVariables false
set_option linter.unusedSimpArgs false

theorem good : Go.XM.goodAll Tryd.prog = true := by decide +kernel

def rho : Ren := { f := fun i => match i with | 197 => 51 | 260 => 70 | 217 => 71 | 266 => 85 | _ => 0, t := fun i => match i with | 46 => 116 | 105 => 92 | 119 => 122 | 138 => 124 | 139 => 125 | i => i, g := fun i => match i with | 3 => 1 | _ => 2 }
theorem lays : Lays.n197 Tryd.prog rho where
  mixed := Tryd.checked.mixed
  f197 := by kernel_rfl
  f260 := by kernel_rfl
  t0 := by kernel_rfl
  a0 := fun _ => by kernel_rfl
  z0 := fun _ => by kernel_rfl
  v0 := fun _ => by kernel_rfl
  t3 := by kernel_rfl
  a3 := fun _ => by kernel_rfl
  z3 := fun _ => by kernel_rfl
  v3 := fun _ => by kernel_rfl
  t4 := by kernel_rfl
  a4 := fun _ => by kernel_rfl
  z4 := fun _ => by kernel_rfl
  v4 := fun _ => by kernel_rfl
  t5 := by kernel_rfl
  a5 := fun _ => by kernel_rfl
  z5 := fun _ => by kernel_rfl
  v5 := fun _ => by kernel_rfl
  t9 := by kernel_rfl
  a9 := fun _ => by kernel_rfl
  z9 := fun _ => by kernel_rfl
  v9 := fun _ => by kernel_rfl
  t21 := by kernel_rfl
  a21 := fun _ => by kernel_rfl
  z21 := fun _ => by kernel_rfl
  v21 := fun _ => by kernel_rfl
  t46 := by kernel_rfl
  a46 := fun _ => by kernel_rfl
  z46 := fun _ => by kernel_rfl
  v46 := fun _ => by kernel_rfl
  t105 := by kernel_rfl
  a105 := fun _ => by kernel_rfl
  z105 := fun _ => by kernel_rfl
  v105 := fun _ => by kernel_rfl
  t119 := by kernel_rfl
  a119 := fun _ => by kernel_rfl
  z119 := fun _ => by kernel_rfl
  t138 := by kernel_rfl
  a138 := fun _ => by kernel_rfl
  z138 := fun _ => by kernel_rfl
  v138 := fun _ => by kernel_rfl
  t139 := by kernel_rfl
  a139 := fun _ => by kernel_rfl
  z139 := fun _ => by kernel_rfl
  v139 := fun _ => by kernel_rfl
  g3 := by kernel_rfl
  g4 := by kernel_rfl

/-- what Go's decoder hands back -/
def decG (s : List UInt8) : Nat × Nat := match s with
  | [] => (65533, 0)
  | s => decL s
def okStr : List XV → Bool
  | [.str _] => true
  | _ => false
def decV : List XV → XV
  | [.str s] => .tuple [.int .i32 (decG s).1, .int .i64 (decG s).2]
  | _ => .nilPtr
def kDec : Known := ⟨51, 1, okStr, decV⟩
theorem decodeGo_eq (s : List UInt8) : Lib.decodeGo ⟨s.toArray⟩ = decG s := by
  unfold Lib.decodeGo
  cases s with
  | nil => rfl
  | cons x s =>
    have : ¬ (ByteArray.mk (x :: s).toArray).size = 0 := by show ¬ (x :: s).toArray.size = 0; simp
    rw [if_neg this, decode_dec _ 0 (by simp)]
    rfl
theorem pDec : Pure Tryd.prog 51 kDec.F := by
  intro args v hF z w args' hok hzc hlaid hargs
  unfold Known.F kDec at hF
  simp only at hF
  cases hs : okStr args with
  | false => rw [hs] at hF; cases hF
  | true =>
    rw [hs] at hF
    simp only [cond_true, Option.some.injEq] at hF
    subst hF
    obtain ⟨s, rfl⟩ : ∃ s, args = [.str s] := by
      unfold okStr at hs
      split at hs
      · exact ⟨_, rfl⟩
      · cases hs
    have hT : Lib.Utf8Tabs (rho.g 3) (rho.g 4) w := hlaid _ _ (by kernel_rfl) (by kernel_rfl)
    cases hargs with
    | cons _ _ u _ _ h1 h2 =>
      cases h1
      cases h2
      refine (Any.utf8_DecodeRuneInString lays ⟨s.toArray⟩ w hT).mono ?_
      rintro e w' ⟨rfl, hb⟩
      rw [decodeGo_eq]
      refine ⟨_, z, rfl, ZMap.le_refl _, hok, fun t r o u q => ?_, fun t r o u q _ => q, ?_, hb⟩
      · have hlt := cell_lt (hzc _ _ _ _ q)
        exact (hb.cell (p := ⟨r, o, none⟩) hlt).trans (hzc _ _ _ _ q)
      · exact .tuple _ _ _ (.cons _ _ _ _ _ (.int _ _ _) (.cons _ _ _ _ _ (.int _ _ _) (.nil _)))

theorem laysB : Lays.n217 Tryd.prog rho where
  mixed := Tryd.checked.mixed
  f217 := by kernel_rfl
  f266 := by kernel_rfl
  t3 := by kernel_rfl
  a3 := fun _ => by kernel_rfl
  z3 := fun _ => by kernel_rfl
  v3 := fun _ => by kernel_rfl
  t5 := by kernel_rfl
  a5 := fun _ => by kernel_rfl
  z5 := fun _ => by kernel_rfl
  v5 := fun _ => by kernel_rfl
  t9 := by kernel_rfl
  a9 := fun _ => by kernel_rfl
  z9 := fun _ => by kernel_rfl
  v9 := fun _ => by kernel_rfl
def okSB : List XV → Bool
  | [.str _, .int .u8 _] => true
  | _ => false
def ibV : List XV → XV
  | [.str s, .int .u8 c] => .int .i64 (Lib.indexByte s c.toNat.toUInt8)
  | _ => .nilPtr
def kIB : Known := ⟨71, 2, okSB, ibV⟩
theorem pIB : Pure Tryd.prog 71 kIB.F := by
  intro args v hF z w args' hok hzc hlaid hargs
  unfold Known.F kIB at hF
  simp only at hF
  cases hs : okSB args with
  | false => rw [hs] at hF; cases hF
  | true =>
    rw [hs] at hF
    simp only [cond_true, Option.some.injEq] at hF
    subst hF
    obtain ⟨s, c, rfl⟩ : ∃ s c, args = [.str s, .int .u8 c] := by
      unfold okSB at hs
      split at hs
      · exact ⟨_, _, rfl⟩
      · cases hs
    cases hargs with
    | cons _ _ u _ _ h1 h2 =>
      cases h2 with
      | cons _ _ u2 _ _ h3 h4 =>
        cases h1
        cases h3
        cases h4
        refine (Any.stringslite_IndexByte laysB ⟨s.toArray⟩ c w).mono ?_
        rintro e w' ⟨rfl, rfl⟩
        refine ⟨_, z, rfl, ZMap.le_refl _, hok, hzc, fun t r o u q _ => q, ?_, Below.refl _ _⟩
        exact .int _ _ _
end Go.Proofs.YtdbmldhfoifpnaaDoor

/-
  plan's known(): it answers true. Condition: the tables of unicode/utf8 hold what the program's text lays (Laid).
-/
namespace Go.Proofs.YtdbmldhfoifpnaaDoor
open Go.XM
set_option linter.unusedVariables false
set_option linter.unusedSimpArgs false
/-- builder.places and builder.needs: their answers are read out -/
def noLive : FuncId → Nat → Option (List Nat) := fun f i => if Nat.beq i 1000000 && (Nat.beq f 81 || Nat.beq f 82) then some [] else none
noncomputable def pr : XPrim := primK [kDec, kIB] noLive
theorem pr_ok : PrimOK Tryd.prog pr := primOf_ok (fun e he => by
  obtain ⟨e', h1, rfl⟩ := List.mem_map.1 he
  simp only [List.mem_cons, List.not_mem_nil, or_false] at h1
  rcases h1 with rfl | rfl
  · exact pDec
  · exact pIB)
theorem knows : yes (xcall Tryd.prog pr 200 16 [] 0 XS.none) = true := by kernel_rfl
def okNone : List XV → Bool
  | [] => true
  | _ => false
def kKn : Known := ⟨16, 0, okNone, fun _ => .bool true⟩
theorem pKn : Pure Tryd.prog 16 kKn.F := by
  refine pure_of (P := Tryd.prog) Tryd.checked.mixed good pr_ok fun args v hv => ?_
  have : args = [] ∧ v = .bool true := by
    unfold Known.F kKn at hv
    cases args with
    | nil => simp only [okNone, cond_true, Option.some.injEq] at hv; exact ⟨rfl, hv.symm⟩
    | cons x r => cases hv
  obtain ⟨rfl, rfl⟩ := this
  obtain ⟨S', h⟩ := yes_spec knows
  exact ⟨200, false, by unfold prun; rw [h]; exact hard_bool _ _ _⟩
noncomputable def pr2 : XPrim := primK [kDec, kIB, kKn] noLive
theorem pr2_ok : PrimOK Tryd.prog pr2 := primOf_ok (fun e he => by
  obtain ⟨e', h1, rfl⟩ := List.mem_map.1 he
  simp only [List.mem_cons, List.not_mem_nil, or_false] at h1
  rcases h1 with rfl | rfl | rfl
  · exact pDec
  · exact pIB
  · exact pKn)
noncomputable def run (f : Nat) (args : List XV) : Bool := yes (xcall Tryd.prog pr2 400 f args 0 XS.none)
end Go.Proofs.YtdbmldhfoifpnaaDoor
