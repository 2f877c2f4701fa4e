/- A plain machine beside the model, and that what it tells the model does: part Xo. Conditions: those of each theorem below. -/
import Derived.Test.YtlaamopkgopleaaXn
namespace Go.XM
set_option linter.unusedVariables false
set_option linter.unusedSimpArgs false
open Go.RowKit
set_option linter.unusedVariables false

section
variable {P : Program} {B : Nat} {w0 : World} {base : Nat} {ρ : Emb} {S : XS} {w : World}

/-- the second argument's type says no number -/
def NoZeros (P : Program) (ts : Array TypeId) : Prop := ts[1]? = none ∨ ∃ tt d, ts[1]? = some tt ∧ P.underlying tt = some d ∧ ((∃ e', d = .slice e') ∨ d = .string)
def Zeros (P : Program) (ts : Array TypeId) : Prop := ∃ tt k, ts[1]? = some tt ∧ P.underlying tt = some (.int k)

theorem append_room {ts : Array TypeId} {t e ty : TypeId} {us : Array Value} {x : Value} {a : Addr} {sLen sCap n : Nat} (ht : ts[0]? = some t) (hs : us[0]? = some (.slice (some a) sLen sCap)) (hx : us[1]? = some x)
    (he : P.underlying t = some (.slice e)) {size : Nat} (hsz : tsize P e = some size) (hz : NoZeros P ts) (hlen : ∀ w, (Builtin.lenOf x).run P w = .ok n w) {new : List Value}
    (hnew : (Builtin.firstCells size n x).run P w = .ok new.toArray w) (hroom : sLen + n ≤ sCap) {w' : World} (hst : (storeCells (a.add (sLen * size)) new).run P w = .ok () w') :
    (Builtin.append_ ts ty us).run P w = .ok (.slice (some a) (sLen + n) sCap) w' := by
  rcases hz with hz | ⟨tt, d, hz, hd, hk⟩
  · simp [Builtin.append_, ht, hs, hx, run_underlying he, run_size hsz, hz, hlen, hroom, hnew, hst]
  · rcases hk with ⟨e', rfl⟩ | rfl <;> simp [Builtin.append_, ht, hs, hx, run_underlying he, run_size hsz, hz, run_underlying hd, hlen, hroom, hnew, hst]

theorem append_same {ts : Array TypeId} {t e ty : TypeId} {us : Array Value} {x : Value} {ba : Option Addr} {sLen sCap : Nat} (ht : ts[0]? = some t) (hs : us[0]? = some (.slice ba sLen sCap)) (hx : us[1]? = some x)
    (he : P.underlying t = some (.slice e)) {size : Nat} (hsz : tsize P e = some size) (hz : NoZeros P ts) (hlen : ∀ w, (Builtin.lenOf x).run P w = .ok 0 w)
    (hnew : (Builtin.firstCells size 0 x).run P w = .ok #[] w) (hroom : sLen ≤ sCap) :
    (Builtin.append_ ts ty us).run P w = .ok (.slice ba sLen sCap) w := by
  rcases hz with hz | ⟨tt, d, hz, hd, hk⟩
  · cases ba <;> simp [Builtin.append_, ht, hs, hx, run_underlying he, run_size hsz, hz, hlen, hroom, hnew, storeCells]
  · rcases hk with ⟨e', rfl⟩ | rfl <;> cases ba <;> simp [Builtin.append_, ht, hs, hx, run_underlying he, run_size hsz, hz, run_underlying hd, hlen, hroom, hnew, storeCells]

theorem fits {need cap bytes : Nat} (h : cap < need) (hb : need * bytes ≤ 35184372088832) : ¬ (281474976710656 < Builtin.nextslicecap need cap * bytes) := by
  have h1 := nextslicecap_le h
  have h2 : Builtin.nextslicecap need cap * bytes ≤ 2 * need * bytes := Nat.mul_le_mul_right _ h1
  have h3 : 2 * need * bytes = 2 * (need * bytes) := Nat.mul_assoc ..
  omega

theorem append_grow {ts : Array TypeId} {t e ty : TypeId} {us : Array Value} {x : Value} {ba : Option Addr} {sLen sCap n : Nat} (ht : ts[0]? = some t) (hs : us[0]? = some (.slice ba sLen sCap)) (hx : us[1]? = some x)
    (he : P.underlying t = some (.slice e)) {i : TypeInfo} (hi : P.info? e = some i) (hb0 : i.bytes ≠ 0) {z : Value} (hzero : i.zero = some z) (hzs : z.cells.size = i.size) (hz : NoZeros P ts) (hlen : ∀ w, (Builtin.lenOf x).run P w = .ok n w) {old new : List Value}
    (hold : (Builtin.firstCells i.size sLen (.slice ba sLen sCap)).run P w.drew = .ok old.toArray w.drew)
    (hnew : (Builtin.firstCells i.size n x).run P w.drew = .ok new.toArray w.drew) (hroom : sCap < sLen + n) (hbound : (sLen + n) * i.bytes ≤ 35184372088832) :
    ∃ c, sLen + n ≤ c ∧ (Builtin.append_ ts ty us).run P w = .ok (.slice (some ⟨w.heap.size, 0, none⟩) (sLen + n) c) (w.drew.alloc (.cells (old.toArray ++ (new.toArray ++ Builtin.zeroCells z.cells (c - (sLen + n)))) e)) := by
  refine ⟨grownCap w (sLen + n) sCap e, grownCap_ge w (sLen + n) sCap e, ?_⟩
  have hf := fits hroom hbound
  have hnr : ¬ (sLen + n ≤ sCap) := by omega
  have hinfo := fun w => run_info hi (P := P) w
  have hzr : ∀ w, (zeroValue e).run P w = .ok z w := fun w => by simp [zeroValue, hinfo, hzero]
  have hsr : ∀ w, (sizeOf e).run P w = .ok i.size w := fun w => by simp [sizeOf, hinfo]
  have hforced : (Question.appendCap (sLen + n) sCap e).forced = false := rfl
  rcases hz with hz | ⟨tt, d, hz, hd, hk⟩
  · simp [Builtin.append_, ht, hs, hx, run_underlying he, hsr, hinfo, hz, hlen, hnr, hnew, hold, hb0, hf, hforced, hzr, newRow, grownCap]
  · rcases hk with ⟨e', rfl⟩ | rfl <;> simp [Builtin.append_, ht, hs, hx, run_underlying he, hsr, hinfo, hz, run_underlying hd, hlen, hnr, hnew, hold, hb0, hf, hforced, hzr, newRow, grownCap]


theorem append_zeros_grow {ts : Array TypeId} {t e ty : TypeId} {us : Array Value} {ba : Option Addr} {sLen sCap : Nat} {k : IntKind} {l : Int} (ht : ts[0]? = some t) (hs : us[0]? = some (.slice ba sLen sCap)) (hx : us[1]? = some (.int k l))
    (he : P.underlying t = some (.slice e)) {i : TypeInfo} (hi : P.info? e = some i) (hb0 : i.bytes ≠ 0) (hs0 : 0 < i.size) {z : Value} (hzero : i.zero = some z) (hzs : z.cells.size = i.size) (hz : Zeros P ts) (hl0 : 0 < l) (hl1 : l ≤ 1099511627776)
    (hl2 : l * i.bytes ≤ 35184372088832) {old : List Value}
    (hold : (Builtin.firstCells i.size sLen (.slice ba sLen sCap)).run P w.drew = .ok old.toArray w.drew) (hroom : sCap < sLen + l.toNat) (hbound : (sLen + l.toNat) * i.bytes ≤ 35184372088832) :
    ∃ c, sLen + l.toNat ≤ c ∧ (Builtin.append_ ts ty us).run P w = .ok (.slice (some ⟨w.heap.size, 0, none⟩) (sLen + l.toNat) c) (w.drew.alloc (.cells (old.toArray ++ (Builtin.zeroCells z.cells l.toNat ++ Builtin.zeroCells z.cells (c - (sLen + l.toNat)))) e)) := by
  refine ⟨grownCap w (sLen + l.toNat) sCap e, grownCap_ge w (sLen + l.toNat) sCap e, ?_⟩
  have hf := fits hroom hbound
  have hnr : ¬ (sLen + l.toNat ≤ sCap) := by omega
  have hinfo := fun w => run_info hi (P := P) w
  have hzr : ∀ w, (zeroValue e).run P w = .ok z w := fun w => by simp [zeroValue, hinfo, hzero]
  have hsr : ∀ w, (sizeOf e).run P w = .ok i.size w := fun w => by simp [sizeOf, hinfo]
  have hforced : (Question.appendCap (sLen + l.toNat) sCap e).forced = false := rfl
  have hbl : sLen + l.toNat ≤ 35184372088832 := by
    have : (sLen + l.toNat) * 1 ≤ (sLen + l.toNat) * i.bytes := Nat.mul_le_mul_left _ (by omega)
    omega
  have hw : IntKind.i64.wrap l = l := by rw [IntKind.wrap_i64]; omega
  have h1 : ¬ l < 0 := by omega
  have h2 : ¬ (281474976710656 < l * (i.bytes : Int)) := by omega
  have h3 : ¬ (9223372036854775807 < (sLen : Int) + max l 0) := by omega
  have h4 : ¬ (l.toNat * i.size = 0) := by
    intro hq
    rcases Nat.mul_eq_zero.1 hq with q | q <;> omega
  obtain ⟨tt, kk, hz, hd⟩ := hz
  simp [Builtin.append_, ht, hs, hx, run_underlying he, hsr, hinfo, hz, run_underlying hd, asInt, asIntOf, hw, h1, h2, h3, h4, hnr, hold, hb0, hf, hforced, hzr, newRow, grownCap]

end
end Go.XM
