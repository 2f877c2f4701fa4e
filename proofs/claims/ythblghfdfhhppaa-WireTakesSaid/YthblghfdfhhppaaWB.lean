/-
  Crates and wire.Pack: each as a law in plain Lean. No condition.
-/
import Derived.Test.YthblghfdfhhppaaWA
namespace Go.Proofs.Ythblghfdfhhppaa
open Go.XM
set_option linter.unusedVariables false
set_option linter.unusedSimpArgs false

/-! ### crates -/
def thI : Th → XV
  | .num n => .iface 3 (.int .i64 n)
  | .txt s => .iface 9 (.str s)
  | .tru b => .iface 4 (.bool b)
structure Cr where
  t : Bool
  rt : Bool
  rm : Bool
  l : List Th
def Cr.x (c : Cr) : RX := ⟨c.rt, c.rm, c.l.map thI, c.l.length⟩
def Cr.v (c : Cr) : XV := cr c.t c.x
theorem thI_inj {a b : Th} (h : thI a = thI b) : a = b := by
  cases a <;> cases b <;> simp_all [thI]
theorem thIs_inj : ∀ a b : List Th, a.map thI = b.map thI → a = b
  | [], [], _ => rfl
  | [], _ :: _, h => by cases h
  | _ :: _, [], h => by cases h
  | x :: a, y :: b, h => by
    simp only [List.map_cons, List.cons.injEq] at h
    rw [thI_inj h.1, thIs_inj a b h.2]
theorem cr_inj {a b : Cr} (h : a.v = b.v) : a = b := by
  obtain ⟨t, rt, rm, l⟩ := a
  obtain ⟨t', rt', rm', l'⟩ := b
  simp only [Cr.v, cr, RX.v, Cr.x, XV.rptr.injEq, List.cons.injEq, XV.row.injEq, and_true] at h
  obtain ⟨rfl, rfl, rfl, h, _⟩ := h
  rw [thIs_inj _ _ h]
theorem rdA_th {A : Type} (l : List Th) (k : Nat) (h : k < l.length) (ki : TypeId → Int → Option A) (ks : TypeId → List UInt8 → Option A) (kb : TypeId → Bool → Option A) (kn : Option A) :
    rdA (l.map thI) ((k : Int).toNat * 1) ki ks kb kn = match l[k] with | .num n => ki 3 n | .txt s => ks 9 s | .tru b => kb 4 b := by
  unfold rdA
  simp only [Int.toNat_natCast, Nat.mul_one, List.getElem?_map, List.getElem?_eq_getElem h, Option.map_some]
  cases l[k] <;> rfl
def enc19 (x : Cr × Nat) : List XV := [x.1.v, .int .i64 x.2]
theorem inj19 (x y : Cr × Nat) (h : enc19 x = enc19 y) : x = y := by
  simp only [enc19, List.cons.injEq, XV.int.injEq, true_and, and_true] at h
  exact Prod.ext (cr_inj h.1) (by omega)
def ans19 (x : Cr × Nat) : Int × Bool := match x.1.l[x.2]? with
  | some (.num n) => (n, true)
  | _ => (0, false)
def ans20 (x : Cr × Nat) : Bs × Bool := match x.1.l[x.2]? with
  | some (.txt n) => (n, true)
  | _ => ([], false)
def ans21 (x : Cr × Nat) : Bool × Bool := match x.1.l[x.2]? with
  | some (.tru n) => (n, true)
  | _ => (false, false)
theorem p19 : Pure Try.prog 19 (known 19 2 enc19 (fun _ => True) ans19 (0, false) (fun y => .tuple [.int .i64 y.1, .bool y.2])).F := by
  refine kp [] [28, 29] true Try.func19 (fun e he => by cases he) (by kernel_rfl) (by kernel_rfl) (by kernel_rfl) rfl inj19 (fun _ => rfl) fun x _ => ?_
  obtain ⟨c, k⟩ := x
  refine ⟨noLp, noLoops, (e19 c.t c.x k).trans ?_⟩
  show (bif ile 0 k then (bif ilt k c.l.length then gd (within k c.l.length) (rdA (c.l.map thI) _ _ _ _ _) else _) else _) = _
  rw [ile_of (by omega)]
  unfold ans19
  by_cases h : k < c.l.length
  · rw [ilt_of (by omega), within_nat h, rdA_th _ _ h]
    simp only [List.getElem?_eq_getElem h]
    cases c.l[k] <;> rfl
  · rw [ilt_not (by omega)]
    simp only [List.getElem?_eq_none (Nat.le_of_not_lt h)]
    rfl
theorem p20 : Pure Try.prog 20 (known 20 2 enc19 (fun _ => True) ans20 ([], false) (fun y => .tuple [.str y.1, .bool y.2])).F := by
  refine kp [] [28, 29] true Try.func20 (fun e he => by cases he) (by kernel_rfl) (by kernel_rfl) (by kernel_rfl) rfl inj19 (fun _ => rfl) fun x _ => ?_
  obtain ⟨c, k⟩ := x
  refine ⟨noLp, noLoops, (e20 c.t c.x k).trans ?_⟩
  show (bif ile 0 k then (bif ilt k c.l.length then gd (within k c.l.length) (rdA (c.l.map thI) _ _ _ _ _) else _) else _) = _
  rw [ile_of (by omega)]
  unfold ans20
  by_cases h : k < c.l.length
  · rw [ilt_of (by omega), within_nat h, rdA_th _ _ h]
    simp only [List.getElem?_eq_getElem h]
    cases c.l[k] <;> rfl
  · rw [ilt_not (by omega)]
    simp only [List.getElem?_eq_none (Nat.le_of_not_lt h)]
    rfl
theorem p21 : Pure Try.prog 21 (known 21 2 enc19 (fun _ => True) ans21 (false, false) (fun y => .tuple [.bool y.1, .bool y.2])).F := by
  refine kp [] [28, 29] true Try.func21 (fun e he => by cases he) (by kernel_rfl) (by kernel_rfl) (by kernel_rfl) rfl inj19 (fun _ => rfl) fun x _ => ?_
  obtain ⟨c, k⟩ := x
  refine ⟨noLp, noLoops, (e21 c.t c.x k).trans ?_⟩
  show (bif ile 0 k then (bif ilt k c.l.length then gd (within k c.l.length) (rdA (c.l.map thI) _ _ _ _ _) else _) else _) = _
  rw [ile_of (by omega)]
  unfold ans21
  by_cases h : k < c.l.length
  · rw [ilt_of (by omega), within_nat h, rdA_th _ _ h]
    simp only [List.getElem?_eq_getElem h]
    cases c.l[k] <;> rfl
  · rw [ilt_not (by omega)]
    simp only [List.getElem?_eq_none (Nat.le_of_not_lt h)]
    rfl
theorem p18 : Pure Try.prog 18 (known 18 1 (fun c : Cr => [c.v]) (fun _ => True) (fun c => (c.l.length : Int)) 0 (.int .i64)).F := by
  refine kp [] [28] true Try.func18 (fun e he => by cases he) (by kernel_rfl) (by kernel_rfl) (by kernel_rfl) rfl (fun x y h => by simp only [List.cons.injEq, and_true] at h; exact cr_inj h) (fun _ => rfl) fun c _ => ?_
  exact ⟨noLp, noLoops, (e18 c.t c.x)⟩

/-! ### Pack -/
theorem q_of {X Y : Type} {enc : X → List XV} {good_ : X → Prop} {ans : X → Y} {y0 : Y} (hinj : ∀ x y, enc x = enc y → x = y) (x : X) (hg : good_ x) (args : List XV) (h : enc x = args) : okC enc good_ args = true ∧ valC enc good_ ans y0 args = ans x := ⟨okC_at x h hg, valC_at hinj x h hg⟩
noncomputable def k19 : PK Int := ⟨okC enc19 (fun _ => True), fun xs => (valC enc19 (fun _ => True) ans19 (0, false) xs).1, fun xs => (valC enc19 (fun _ => True) ans19 (0, false) xs).2⟩
noncomputable def k20 : PK Bs := ⟨okC enc19 (fun _ => True), fun xs => (valC enc19 (fun _ => True) ans20 ([], false) xs).1, fun xs => (valC enc19 (fun _ => True) ans20 ([], false) xs).2⟩
noncomputable def k21 : PK Bool := ⟨okC enc19 (fun _ => True), fun xs => (valC enc19 (fun _ => True) ans21 (false, false) xs).1, fun xs => (valC enc19 (fun _ => True) ans21 (false, false) xs).2⟩
noncomputable def k25 : IK := ⟨okC enc25 (fun x => fitR x.2), valC enc25 (fun x => fitR x.2) (fun x => crc x.2.l) 0⟩
theorem q19 {A : Type} (c : Cr) (i : Nat) (k : Int → Bool → Option A) : k19.q [cr c.t c.x, .int .i64 i] k = k (ans19 (c, i)).1 (ans19 (c, i)).2 := by
  obtain ⟨h1, h2⟩ := q_of (good_ := fun _ => True) (ans := ans19) (y0 := (0, false)) inj19 (c, i) trivial [cr c.t c.x, .int .i64 i] rfl
  unfold PK.q k19
  simp only [h1, h2, gd_true]
theorem q20 {A : Type} (c : Cr) (i : Nat) (k : Bs → Bool → Option A) : k20.q [cr c.t c.x, .int .i64 i] k = k (ans20 (c, i)).1 (ans20 (c, i)).2 := by
  obtain ⟨h1, h2⟩ := q_of (good_ := fun _ => True) (ans := ans20) (y0 := ([], false)) inj19 (c, i) trivial [cr c.t c.x, .int .i64 i] rfl
  unfold PK.q k20
  simp only [h1, h2, gd_true]
theorem q21 {A : Type} (c : Cr) (i : Nat) (k : Bool → Bool → Option A) : k21.q [cr c.t c.x, .int .i64 i] k = k (ans21 (c, i)).1 (ans21 (c, i)).2 := by
  obtain ⟨h1, h2⟩ := q_of (good_ := fun _ => True) (ans := ans21) (y0 := (false, false)) inj19 (c, i) trivial [cr c.t c.x, .int .i64 i] rfl
  unfold PK.q k21
  simp only [h1, h2, gd_true]
theorem q25 {A : Type} (t : Bool) (r : Row) (h : fitR r) (k : Int → Option A) : k25.q [rowOne t r.x] k = k (crc r.l) := by
  obtain ⟨h1, h2⟩ := q_of (good_ := fun x : Bool × Row => fitR x.2) (ans := fun x => crc x.2.l) (y0 := 0) inj25 (t, r) h [rowOne t r.x] rfl
  unfold IK.q k25
  simp only [h1, h2, gd_true]
noncomputable def KP : List Known := K10 k19 k20 k21 k25
theorem KP_pure : ∀ e, e ∈ KP → Pure Try.prog e.id e.F := fun e he => by
  simp only [KP, K10, List.mem_cons, List.not_mem_nil, or_false] at he
  rcases he with rfl | rfl | rfl | rfl
  · exact p19
  · exact p20
  · exact p21
  · exact p25

theorem byte_iv (m k : Nat) : byte (m : Int) (8 * k) = .int .u8 (iv (ub m k)) := by
  unfold byte iv ub
  congr 1
  rw [IntKind.wrap_u8, UInt8.toNat_ofNat', show (2 : Nat) ^ 8 = 256 from rfl]
  have : (2 : Int) ^ (8 * k) = ((256 ^ k : Nat) : Int) := by
    rw [show (256 : Nat) = 2 ^ 8 from rfl, ← Nat.pow_mul]; norm_cast
  rw [this, Int.fdiv_eq_ediv_of_nonneg _ (Int.natCast_nonneg _)]
  omega
theorem u8of_len (n : Nat) : u8of (n : Int) = .int .u8 (iv (UInt8.ofNat n)) := by
  unfold u8of iv
  congr 1
theorem wrap_uint (n : Int) : IntKind.u64.wrap n = (uint n : Int) := by
  unfold uint
  rw [IntKind.wrap_u64]
  omega
theorem strCells_eq (s : Bs) : strCells s = cells s := rfl
theorem cells_app (a b : Bs) : cells (a ++ b) = cells a ++ cells b := by simp [cells]
theorem fits1 (n : Nat) (h : n ≤ 35184372088832) : fitsB n 1 = true := by
  unfold fitsB
  rw [Nat.mul_one]
  exact (bleI _ _).2 h
theorem push1_eq {A : Type} (bs : List XV) (n : Nat) (h : n + 1 ≤ 35184372088832) (x : XV) (k : List XV → Nat → Option A) : push1 bs n x k = k (bs ++ [x]) (n + 1) := by
  unfold push1
  rw [fits1 _ h]; rfl
theorem push8s_eq {A : Type} (q : Bs) (n : Int) (h : q.length + 8 ≤ 35184372088832) (k : List XV → Nat → Option A) : push8s (cells q) q.length (IntKind.u64.wrap n) k = k (cells (q ++ bigB (uint n) 8)) (q ++ bigB (uint n) 8).length := by
  unfold push8s
  rw [wrap_uint]
  have b7 := byte_iv (uint n) 7
  have b6 := byte_iv (uint n) 6
  have b5 := byte_iv (uint n) 5
  have b4 := byte_iv (uint n) 4
  have b3 := byte_iv (uint n) 3
  have b2 := byte_iv (uint n) 2
  have b1 := byte_iv (uint n) 1
  have b0 := byte_iv (uint n) 0
  simp only [Nat.reduceMul, Nat.mul_zero] at b7 b6 b5 b4 b3 b2 b1 b0
  simp only [b7, b6, b5, b4, b3, b2, b1, b0]
  rw [push1_eq _ _ (by omega), push1_eq _ _ (by omega), push1_eq _ _ (by omega), push1_eq _ _ (by omega), push1_eq _ _ (by omega), push1_eq _ _ (by omega), push1_eq _ _ (by omega), push1_eq _ _ (by omega)]
  rw [cells_app, List.length_append, bigB_len]
  simp [bigB, cells, List.append_assoc]

theorem len_tb (t : Th) : (tb t).length = match t with | .num _ => 9 | .txt s => s.length + 2 | .tru _ => 2 := by
  cases t <;> simp [tb, bigB_len]
def good10 (c : Cr) : Prop := c.l.length ≤ 100 ∧ ∀ t, t ∈ c.l → (tb t).length ≤ 5000
noncomputable def Hp (c : Cr) (i : Int) (q : Bs) : Tmps × XS := match i with
  | .ofNat 0 => H10a c.t c.x 0 0 (u8of c.x.n)
  | i => H10 c.t c.x 0 i (bc (cells q) q.length)
noncomputable def rb10 (c : Cr) (k : Nat) : XExit × Tmps × XS := (.ret, match k with
  | 0 => H10a c.t c.x 1 0 (u8of c.x.n)
  | k + 1 => H10e c.t c.x ((k + 1 : Nat) : Int))
def step10 (l : List Th) (k : Nat) (q : Bs) : Bs ⊕ Nat := if fits (l.getD k (.tru false)) then .inl (q ++ tb (l.getD k (.tru false))) else .inr k
def inv10 (l : List Th) (k : Nat) (q : Bs) : Prop := q.length ≤ 1 + 5000 * k ∧ (k = 0 → q = [UInt8.ofNat l.length])

/-- what a round of Pack's loop comes to, whatever it began with -/
theorem round10_tree (c : Cr) (k : Nat) (hk : k < c.l.length) (hc : good10 c) (q : Bs) (hq : q.length ≤ 600000) (nxt : List XV → Nat → Ans) (bad : Ans) :
    (k19.q [cr c.t c.x, .int .i64 k] fun v ok => bif ok then push1 (cells q) q.length (.int .u8 1) fun bs n => push8s bs n (IntKind.u64.wrap v) nxt else
     k20.q [cr c.t c.x, .int .i64 k] fun s ok => bif ok then gd (fitsB (q.length + 2) 1) (gd (Nat.beq (strCells s).length (s.length * 1) && true) (bif Nat.beq s.length 0 then (bif !(ile s.length 200) then bad else nxt (cells q ++ [.int .u8 2, u8of s.length]) (q.length + 2)) else
        gd (fitsB (q.length + 2 + s.length) 1) (bif !(ile s.length 200) then bad else nxt (cells q ++ [.int .u8 2, u8of s.length] ++ strCells s) (q.length + 2 + s.length)))) else
     k21.q [cr c.t c.x, .int .i64 k] fun b ok => bif b then gd (fitsB (q.length + 2) 1) (nxt (cells q ++ [.int .u8 3, .int .u8 1]) (q.length + 2)) else gd (fitsB (q.length + 2) 1) (nxt (cells q ++ [.int .u8 3, .int .u8 0]) (q.length + 2))) =
    if fits (c.l.getD k (.tru false)) then nxt (cells (q ++ tb (c.l.getD k (.tru false)))) (q ++ tb (c.l.getD k (.tru false))).length else bad := by
  have hm : c.l.getD k (.tru false) = c.l[k] := by simp [hk]
  have hg := hc.2 _ (List.getElem_mem hk)
  rw [hm, q19]
  simp only [ans19, List.getElem?_eq_getElem hk]
  cases hl : c.l[k] with
  | num n =>
    simp only [cond_true]
    rw [push1_eq _ _ (by omega)]
    have := push8s_eq (q ++ [1]) n (by simp; omega) nxt
    rw [cells_app, List.length_append] at this
    refine this.trans ?_
    simp only [fits, if_true, tb, List.append_assoc]
    rfl
  | txt s =>
    rw [hl, len_tb] at hg
    simp only at hg
    simp only [cond_false]
    rw [q20]
    simp only [ans20, List.getElem?_eq_getElem hk, hl, cond_true, fits]
    rw [fits1 _ (by omega), fits1 _ (by omega), strCells_eq, cells_len, Nat.mul_one, Nat.beq_refl, u8of_len]
    simp only [gd_true, Bool.and_self, ile_eq]
    have e1 : cells q ++ [.int .u8 2, .int .u8 (iv (UInt8.ofNat s.length))] ++ cells s = cells (q ++ tb (.txt s)) := by
      rw [cells_app, List.append_assoc]; rfl
    have e2 : q.length + 2 + s.length = (q ++ tb (.txt s)).length := by rw [List.length_append, len_tb]; simp only; omega
    have e3 : ∀ bad : Ans, (bif s.length.beq 0 then (bif !decide ((s.length : Int) ≤ 200) then bad else nxt (cells q ++ [.int .u8 2, .int .u8 (iv (UInt8.ofNat s.length))]) (q.length + 2)) else (bif !decide ((s.length : Int) ≤ 200) then bad else nxt (cells (q ++ tb (.txt s))) (q ++ tb (.txt s)).length)) = (bif !decide ((s.length : Int) ≤ 200) then bad else nxt (cells (q ++ tb (.txt s))) (q ++ tb (.txt s)).length) := fun bad => by
      cases s with
      | nil =>
        rw [← e1, ← e2]
        simp only [cells, List.map_nil, List.append_nil]
        rfl
      | cons x s =>
        have : (x :: s).length.beq 0 = false := rfl
        rw [this, cond_false]
    rw [e1, e2, e3]
    by_cases h : s.length ≤ 200
    · rw [decide_eq_true (by omega)]; simp [h]
    · rw [decide_eq_false (by omega)]; simp [h]
  | tru b =>
    simp only [cond_false]
    rw [q20]
    simp only [ans20, List.getElem?_eq_getElem hk, hl, cond_false]
    rw [q21]
    simp only [ans21, List.getElem?_eq_getElem hk, hl]
    rw [fits1 _ (by omega)]
    cases b <;> simp only [cells_app, List.length_append, fits, if_true] <;> rfl

theorem small_max {n : Nat} (h : n ≤ 1000000) : n < maxLen := by
  have : maxLen = 9223372036854775807 := by decide
  omega
theorem l10 (c : Cr) (hc : good10 c) {A : Type} : LOK (A := A) KP Try.f10 10 (loop Try.f10 5) (fun T S k => at_ T S (Hp c 0 [UInt8.ofNat c.l.length]).1 (Hp c 0 [UInt8.ofNat c.l.length]).2 (iends (Hp c) (rb10 c) (.exit 0) c.l.length (iterD (step10 c.l) c.l.length 0 [UInt8.ofNat c.l.length]) k)) := by
  refine iloop (fn := Try.f10) (f := 10) (l := KP) (I := [23, 24, 31]) (lp := fun _ _ => noLp) (H := Hp c) (inv10 c.l) (by kernel_rfl) ⟨by simp, fun _ => rfl⟩ (fun k q q' hk hi hs => ?_) (fun k q hk hi => ?_) (fun q hi => ?_)
  · unfold step10 at hs
    split at hs
    · injection hs with hs
      subst hs
      have hm : c.l.getD k (.tru false) = c.l[k] := by simp [hk]
      have := hc.2 _ (List.getElem_mem hk)
      rw [← hm] at this
      refine ⟨?_, fun h => by omega⟩
      have := hi.1
      rw [List.length_append]; omega
    · cases hs
  · have hsz : q.length ≤ 600000 := by
      have := hi.1
      have := hc.1
      omega
    have hinc : inc (k : Int) = ((k + 1 : Nat) : Int) := inc_n (small_max (by have := hc.1; omega))
    cases k with
    | zero =>
      have hq := hi.2 rfl
      subst hq
      have hx : u8of c.x.n = .int .u8 (iv (UInt8.ofNat c.l.length)) := u8of_len c.l.length
      have e := s10a k19 k20 k21 k25 c.t c.x 0 (iv (UInt8.ofNat c.l.length))
      rw [← hx] at e
      refine e.trans ?_
      show (bif ilt 0 c.l.length then _ else _) = _
      rw [ilt_of (by omega), cond_true]
      refine (round10_tree c 0 hk hc [UInt8.ofNat c.l.length] hsz (fun bs n => next (H10 c.t c.x 0 (inc ((0 : Nat) : Int)) (bc bs n))) (fin .ret (H10a c.t c.x 1 0 (u8of c.x.n)))).trans ?_
      unfold step10
      split <;> rfl
    | succ k =>
      refine (s10 k19 k20 k21 k25 c.t c.x ((k + 1 : Nat) : Int) (cells q) q.length).trans ?_
      show (bif ilt ((k + 1 : Nat) : Int) c.l.length then _ else _) = _
      rw [ilt_of (by omega), cond_true]
      refine (round10_tree c (k + 1) hk hc q hsz (fun bs n => next (H10 c.t c.x 0 (inc ((k + 1 : Nat) : Int)) (bc bs n))) (fin .ret (H10e c.t c.x ((k + 1 : Nat) : Int)))).trans ?_
      rw [hinc]
      unfold step10
      split <;> rfl
  · cases hn : c.l.length with
    | zero =>
      have hx : u8of c.x.n = .int .u8 (iv (UInt8.ofNat c.l.length)) := u8of_len c.l.length
      have e := s10a k19 k20 k21 k25 c.t c.x 0 (iv (UInt8.ofNat c.l.length))
      rw [← hx] at e
      refine e.trans ?_
      show (bif ilt 0 c.l.length then _ else _) = _
      rw [hn, ilt_not (by omega)]
      rfl
    | succ n =>
      refine (s10 k19 k20 k21 k25 c.t c.x ((n + 1 : Nat) : Int) (cells q) q.length).trans ?_
      show (bif ilt ((n + 1 : Nat) : Int) c.l.length then _ else _) = _
      rw [hn, ilt_not (by omega)]
      rfl

/-- the loop as a whole -/
theorem iter10 (l : List Th) : ∀ (d k : Nat) (q : Bs), k + d = l.length → ((l.drop k).all fits = true → iterD (step10 l) d k q = .inl (q ++ (l.drop k).flatMap tb)) ∧ ((l.drop k).all fits = false → ∃ j, iterD (step10 l) d k q = .inr j)
  | 0, k, q, h => by
    rw [List.drop_eq_nil_of_le (by omega)]
    exact ⟨fun _ => by simp [iterD], fun h => by cases h⟩
  | d + 1, k, q, h => by
    have hk : k < l.length := by omega
    have hd : l.drop k = l[k] :: l.drop (k + 1) := List.drop_eq_getElem_cons hk
    have hm : l.getD k (.tru false) = l[k] := by simp [hk]
    obtain ⟨h1, h2⟩ := iter10 l d (k + 1) (q ++ tb l[k]) (by omega)
    rw [hd]
    simp only [iterD, step10, hm, List.all_cons, List.flatMap_cons]
    cases hf : fits l[k] with
    | true =>
      simp only [if_true, Bool.true_and]
      exact ⟨fun h => by rw [h1 h, List.append_assoc], h2⟩
    | false =>
      simp only [Bool.false_and]
      exact ⟨fun h => by (cases h), fun _ => ⟨k, by simp⟩⟩

def ans10 (c : Cr) : Bool × Bs × Int := match pack c.l with
  | some b => (false, b, 0)
  | none => (true, [], 1)
theorem lent_cells : ∀ q : Bs, lentAny (cells q) = false
  | [] => rfl
  | x :: q => by
    show (false || lentAny (cells q)) = false
    rw [lent_cells q]; rfl
theorem live_cells (q : Bs) : (cells q).all XV.live = true := by
  rw [List.all_eq_true]
  intro v hv
  obtain ⟨b, _, rfl⟩ := List.mem_map.1 hv
  rfl
theorem out10_cells (q : Bs) (n : Nat) : out10 (cells q) n = some (.tuple [.row false false (cells q) n, .int .i64 0]) := by
  have h1 : hard false ⟨[.cells (cells q) (.loose 1 n)], 1, []⟩ 49 (.sl 0) = some (.row false false (cells q) n) := by
    show (if (false || !lentAny (cells q)) = true then some (XV.row false false (cells q) n) else none) = _
    rw [lent_cells]; rfl
  have h2 : hard false ⟨[.cells (cells q) (.loose 1 n)], 1, []⟩ 49 (.int .i64 0) = some (.int .i64 0) := rfl
  unfold out10
  show (match hardAll (hard false ⟨[.cells (cells q) (.loose 1 n)], 1, []⟩ 49) [.sl 0, .int .i64 0] with
    | some l => some (XV.tuple l)
    | none => none) = _
  simp only [hardAll, h1, h2]
theorem head6_eq (s n : Int) (hs : 0 ≤ s) (hn : 0 ≤ n) : head6 s n = cells (bigB s.toNat 4 ++ bigB n.toNat 2) := by
  obtain ⟨s, rfl⟩ := Int.eq_ofNat_of_zero_le hs
  obtain ⟨n, rfl⟩ := Int.eq_ofNat_of_zero_le hn
  have b3 := byte_iv s 3
  have b2 := byte_iv s 2
  have b1 := byte_iv s 1
  have b0 := byte_iv s 0
  have c1 := byte_iv n 1
  have c0 := byte_iv n 0
  simp only [Nat.reduceMul, Nat.mul_zero] at b3 b2 b1 b0 c1 c0
  unfold head6
  rw [b3, b2, b1, b0, c1, c0]
  rfl
theorem p10 : Pure Try.prog 10 (known 10 1 (fun c : Cr => [c.v]) good10 ans10 (true, [], 1) (fun y => .tuple [(⟨false, y.1, y.2.1⟩ : Row).x.v, .int .i64 y.2.2])).F := by
  refine kp KP [18, 28, 24] false Try.func10 KP_pure (by kernel_rfl) (by kernel_rfl) (by kernel_rfl) rfl (fun x y h => by simp only [List.cons.injEq, and_true] at h; exact cr_inj h) (fun _ => rfl) fun c hc => ?_
  have hl10 := l10 c hc (A := XV)
  have hit := iter10 c.l c.l.length 0 [UInt8.ofNat c.l.length] (by omega)
  rw [List.drop_zero] at hit
  have hend : ∀ {e : XExit} {h : Tmps × XS}, (∀ k : XExit → Tmps → XS → Option XV, iends (Hp c) (rb10 c) (.exit 0) c.l.length (iterD (step10 c.l) c.l.length 0 [UInt8.ofNat c.l.length]) k = k e h.1 h.2) → LOK KP Try.f10 10 (loop Try.f10 5) (fun T S k => at_ T S (H10a c.t c.x 0 0 (u8of c.x.n)).1 (H10a c.t c.x 0 0 (u8of c.x.n)).2 (k e h.1 h.2)) := fun {e h} he => by
    have : (fun (T : Tmps) (S : XS) (k : XExit → Tmps → XS → Option XV) => at_ T S (H10a c.t c.x 0 0 (u8of c.x.n)).1 (H10a c.t c.x 0 0 (u8of c.x.n)).2 (k e h.1 h.2)) = (fun T S k => at_ T S (Hp c 0 [UInt8.ofNat c.l.length]).1 (Hp c 0 [UInt8.ofNat c.l.length]).2 (iends (Hp c) (rb10 c) (.exit 0) c.l.length (iterD (step10 c.l) c.l.length 0 [UInt8.ofNat c.l.length]) k)) := by
      funext T S k
      rw [he k]; rfl
    rw [this]
    exact hl10
  cases hf : c.l.all fits with
  | false =>
    obtain ⟨j, hj⟩ := hit.2 hf
    have ha : ans10 c = (true, [], 1) := by
      unfold ans10 pack
      rw [if_neg (by rw [hf]; simp)]
    refine ⟨lp10 c.t c.x (rb10 c j).1 (rb10 c j).2, one_loop (c0 := loop Try.f10 5) (id0 := 5) (by kernel_rfl) (by kernel_rfl) rfl (hend fun k => by rw [hj]; rfl), ?_⟩
    rw [ha]
    cases j with
    | zero =>
      have hx : u8of c.x.n = .int .u8 (IntKind.u8.wrap c.x.n) := rfl
      have e := e10f k19 k20 k21 k25 c.t c.x 0 (IntKind.u8.wrap c.x.n)
      refine e.trans ?_
      unfold here10
      rw [at_self]; rfl
    | succ j =>
      refine (e10g k19 k20 k21 k25 c.t c.x ((j + 1 : Nat) : Int)).trans ?_
      unfold here10
      rw [at_self]; rfl
  | true =>
    have hi := hit.1 hf
    have hb : [UInt8.ofNat c.l.length] ++ c.l.flatMap tb = bodyOf c.l := rfl
    rw [hb] at hi
    refine ⟨lp10 c.t c.x (.exit 0) (Hp c c.l.length (bodyOf c.l)), one_loop (c0 := loop Try.f10 5) (id0 := 5) (by kernel_rfl) (by kernel_rfl) rfl (hend fun k => by rw [hi]; rfl), ?_⟩
    have cr0 := crc_range (bodyOf c.l)
    have hws : IntKind.u64.wrap (crc (bodyOf c.l)) = crc (bodyOf c.l) := IntWalk.u64_in _ ⟨by omega, by omega⟩
    have hlen : (bodyOf c.l).length ≤ 600000 := by
      have : ∀ l : List Th, (∀ t, t ∈ l → (tb t).length ≤ 5000) → (l.flatMap tb).length ≤ 5000 * l.length := fun l => by
        induction l with
        | nil => intro _; simp
        | cons t l ih =>
          intro h
          have h1 := ih fun t ht => h t (by simp [ht])
          have h2 := h t (by simp)
          rw [List.flatMap_cons, List.length_append, List.length_cons]
          omega
      have := this c.l hc.2
      have := hc.1
      unfold bodyOf
      rw [List.length_cons]
      omega
    have ha : ∀ hd : Bs, hd = bigB (crc (bodyOf c.l)).toNat 4 ++ bigB (bodyOf c.l).length 2 → (bodyOf c.l).length ≤ 4000 → ans10 c = (false, hd ++ bodyOf c.l, 0) := fun hd he hle => by
      subst he
      unfold ans10 pack
      rw [if_pos ⟨hf, hle⟩]
      rfl
    cases hn : c.l.length with
    | zero =>
      have hnil : c.l = [] := List.length_eq_zero_iff.1 hn
      have hbn : bodyOf c.l = [0] := by rw [hnil]; rfl
      have hx : u8of c.x.n = .int .u8 (iv 0) := (u8of_len c.l.length).trans (by rw [hn]; rfl)
      have e := e10z k19 k20 k21 k25 c.t c.x 0 (iv 0)
      rw [← hx] at e
      refine e.trans ?_
      rw [hx]
      unfold here10
      rw [at_self]
      have hq := q25 (A := XV) true ⟨true, true, [0]⟩ (by unfold fitR; exact Nat.le_of_lt (small_max (by decide))) (fun s => some (.tuple [.row false false (head6 (IntKind.u64.wrap s) (IntKind.u64.wrap 1) ++ [.int .u8 (iv 0)]) 7, .int .i64 0]))
      refine hq.trans ?_
      rw [hbn] at hws cr0 ha
      simp only [hws]
      rw [show IntKind.u64.wrap 1 = 1 from by decide, head6_eq _ _ cr0.1 (by decide), ha _ rfl (by decide)]
      rfl
    | succ n =>
      refine (e10s k19 k20 k21 k25 c.t c.x ((n + 1 : Nat) : Int) (cells (bodyOf c.l)) (bodyOf c.l).length).trans ?_
      unfold here10
      rw [at_self]
      by_cases hle : (bodyOf c.l).length ≤ 4000
      · rw [ilt_not (by omega), cond_false]
        have hq := q25 (A := XV) true ⟨true, false, bodyOf c.l⟩ (by unfold fitR; exact Nat.le_of_lt (small_max (by show (bodyOf c.l).length ≤ _; omega)))
        refine (hq _).trans ?_
        have hb0 : Nat.beq (bodyOf c.l).length 0 = false := rfl
        simp only [hws, live_cells, cells_len, Nat.mul_one, Nat.beq_refl, hb0, fits1 _ (show 6 + (bodyOf c.l).length ≤ 35184372088832 by omega)]
        rw [IntWalk.u64_in ((bodyOf c.l).length : Int) ⟨by omega, by omega⟩, head6_eq _ _ cr0.1 (by omega), ← cells_app, ha _ rfl hle]
        simp only [Bool.and_self, gd_true, cond_false, out10_cells]
        unfold Row.x RX.v
        simp only [List.length_append, bigB_len]
        rfl
      · rw [ilt_of (by omega), cond_true]
        unfold ans10 pack
        rw [if_neg (by omega)]
        rfl
end Go.Proofs.Ythblghfdfhhppaa

/-
  wire.Unpack as a law in plain Lean. No condition.
-/
namespace Go.Proofs.Ythblghfdfhhppaa
open Go.XM
set_option linter.unusedVariables false
set_option linter.unusedSimpArgs false

noncomputable def kT : TK := ⟨okC enc12 (fun x => fitR x.1), fun xs => (valC enc12 (fun x => fitR x.1) ans12 (0, ⟨true, true, []⟩, false) xs).1, fun xs => (valC enc12 (fun x => fitR x.1) ans12 (0, ⟨true, true, []⟩, false) xs).2.1.x, fun xs => (valC enc12 (fun x => fitR x.1) ans12 (0, ⟨true, true, []⟩, false) xs).2.2⟩
theorem qT {A : Type} (r : Row) (n : Nat) (h : fitR r) (k : Int → RX → Bool → Option A) : kT.q r.x n k = k (ans12 (r, n)).1 (ans12 (r, n)).2.1.x (ans12 (r, n)).2.2 := by
  obtain ⟨h1, h2⟩ := q_of (good_ := fun x : Row × Nat => fitR x.1) (ans := ans12) (y0 := (0, ⟨true, true, []⟩, false)) inj12 (r, n) h [r.x.v, .int .i64 n] rfl
  unfold TK.q kT
  simp only [h1, h2, gd_true]
theorem qT_no {A : Type} (r : Row) (n : Nat) (h : fitR r) (hn : r.l.length < n) (k : Int → RX → Bool → Option A) : kT.q r.x n k = k 0 (⟨true, true, []⟩ : Row).x false := by
  rw [qT r n h]
  simp only [ans12, if_pos hn]
theorem qT_yes {A : Type} (r : Row) (n : Nat) (h : fitR r) (hn : n ≤ r.l.length) (k : Int → RX → Bool → Option A) : kT.q r.x n k = k (num (r.l.take n)) (⟨r.t, r.m, r.l.drop n⟩ : Row).x true := by
  rw [qT r n h]
  simp only [ans12, if_neg (Nat.not_lt_of_le hn)]
theorem num_one (x : UInt8) : num [x] = iv x := by
  rw [num_nat _ (by simp), nat_one]; rfl
def bad13 (t m : Bool) : Bs → XV
  | [] => .nilSlice
  | k :: r => if k = 1 then (if 8 ≤ r.length then (⟨t, m, r.drop 8⟩ : Row).x.v else (⟨true, true, []⟩ : Row).x.v) else
    if k = 2 then (match r with | [] => .nilSlice | n :: r2 => if n.toNat ≤ r2.length then (⟨t, m, r2.drop n.toNat⟩ : Row).x.v else .nilSlice) else
    if k = 3 then (match r with | [] => (⟨true, true, []⟩ : Row).x.v | v :: r2 => (⟨t, m, r2⟩ : Row).x.v) else .nilSlice

theorem cutT_x {A : Type} (r : Row) (n : UInt8) (h : n.toNat ≤ r.l.length) (k : Bs → Option A) : cutT r.x (iv n) k = k (r.l.take n.toNat) := by
  unfold cutT
  have hu : upto (iv n) r.x.n = true := upto_of ⟨by unfold iv; omega, by show iv n ≤ (r.l.length : Nat); unfold iv; omega⟩
  have hi : (iv n).toNat = n.toNat := rfl
  have hc := cut_x r 0 n.toNat h
  rw [hi, hu, hc, gd_true, gd_true]
  have := textOf_x (A := A) (⟨r.t, r.m && n.toNat == r.l.length, (r.l.drop 0).take (n.toNat - 0)⟩ : Row) k
  refine Eq.trans ?_ this
  rfl

/-- what all of tree13 and tree13z come to: 'put' is what adds a thing -/
theorem WL_ok (th : List XV) : ((WL th).all fun p => (WL th).contains p && !([] : List (Nat × Nat)).contains p) = true := by
  rw [List.all_eq_true]
  intro p hp
  simp [hp]

theorem t13z {A : Type} (t m : Bool) (bs : Bs) (hb : bs.length ≤ maxLen) (no : XV → Option A) (yes : XV → XV → Option A) :
    tree13z kT (⟨t, m, bs⟩ : Row).x no yes = match takeL bs with
      | some (x, r) => yes (⟨t, m, r⟩ : Row).x.v (thI x)
      | none => no (bad13 t m bs) := by
  unfold tree13z takeL
  cases bs with
  | nil =>
    have := qT_no (A := A) ⟨t, m, []⟩ 1 hb (by simp)
    refine (this _).trans ?_
    rfl
  | cons k r =>
    have hr : r.length ≤ maxLen := by simp at hb; omega
    have := qT_yes (A := A) ⟨t, m, k :: r⟩ 1 hb (by simp)
    refine (this _).trans ?_
    simp only [List.take_succ_cons, List.take_zero, num_one, List.drop_succ_cons, List.drop_zero, Bool.not_true, cond_false]
    have c1 : (iv k == 1) = decide (k = 1) := iv_eq k 1 (by decide)
    have c2 : (iv k == 2) = decide (k = 2) := iv_eq k 2 (by decide)
    have c3 : (iv k == 3) = decide (k = 3) := iv_eq k 3 (by decide)
    simp only [c1, c2, c3, bad13]
    by_cases k1 : k = 1
    · simp only [k1, decide_true, cond_true, if_true]
      by_cases h8 : 8 ≤ r.length
      · refine (qT_yes (A := A) ⟨t, m, r⟩ 8 hr h8 _).trans ?_
        simp only [if_pos h8, cond_true]
        rfl
      · refine (qT_no (A := A) ⟨t, m, r⟩ 8 hr (Nat.lt_of_not_le h8) _).trans ?_
        simp only [if_neg h8, cond_false]
    · simp only [k1, decide_false, cond_false, if_false]
      by_cases k2 : k = 2
      · simp only [k2, decide_true, cond_true, if_true]
        cases r with
        | nil =>
          refine (qT_no (A := A) ⟨t, m, []⟩ 1 hr (by simp) _).trans ?_
          rfl
        | cons n r =>
          have hr2 : r.length ≤ maxLen := by simp at hr; omega
          refine (qT_yes (A := A) ⟨t, m, n :: r⟩ 1 hr (by simp) _).trans ?_
          simp only [List.take_succ_cons, List.take_zero, num_one, List.drop_succ_cons, List.drop_zero, Bool.not_true, cond_false, i64_iv]
          have hlt : ilt ((⟨t, m, r⟩ : Row).x.n : Int) (iv n) = !decide (n.toNat ≤ r.length) := by
            rw [ilt_eq]
            show decide ((r.length : Int) < iv n) = _
            unfold iv
            by_cases q : n.toNat ≤ r.length
            · rw [decide_eq_true q, decide_eq_false (by omega)]; rfl
            · rw [decide_eq_false q, decide_eq_true (by omega)]; rfl
          rw [hlt]
          by_cases q : n.toNat ≤ r.length
          · simp only [q, decide_true, Bool.not_true, cond_false, if_true]
            rw [cutT_x ⟨t, m, r⟩ n q, cutT_x ⟨t, m, r⟩ n q]
            have hc := cut_x ⟨t, m, r⟩ n.toNat r.length (Nat.le_refl _)
            have : ((⟨t, m, r⟩ : Row).x.cut (iv n).toNat (⟨t, m, r⟩ : Row).x.n) = (⟨t, m, r.drop n.toNat⟩ : Row).x := by
              refine hc.trans ?_
              simp only [beq_self_eq_true, Bool.and_true, List.take_of_length_le (Nat.le_of_eq (List.length_drop ..))]
            rw [this]
            rfl
          · simp only [q, decide_false, Bool.not_false, cond_true, if_false]
      · simp only [k2, decide_false, cond_false, if_false]
        by_cases k3 : k = 3
        · simp only [k3, decide_true, cond_true, if_true]
          cases r with
          | nil =>
            refine (qT_no (A := A) ⟨t, m, []⟩ 1 hr (by simp) _).trans ?_
            rfl
          | cons v r =>
            refine (qT_yes (A := A) ⟨t, m, v :: r⟩ 1 hr (by simp) _).trans ?_
            have hv : (iv v == 1) = (v == 1) := by rw [show (iv v == 1) = decide (v = UInt8.ofNat 1) from iv_eq v 1 (by decide)]; rfl
            simp only [List.take_succ_cons, List.take_zero, num_one, List.drop_succ_cons, List.drop_zero, cond_true, hv]
            rfl
        · simp only [k3, decide_false, cond_false, if_false]
theorem t13 {A : Type} (th : List XV) (n : Nat) (hn : n ≤ 1000) (t m : Bool) (bs : Bs) (hb : bs.length ≤ maxLen) (no : XV → Option A) (yes : XV → XV → Option A) :
    tree13 kT th n (⟨t, m, bs⟩ : Row).x no yes = match takeL bs with
      | some (x, r) => if n < 100 then yes (⟨t, m, r⟩ : Row).x.v (thI x) else no (bad13 t m bs)
      | none => no (bad13 t m bs) := by
  unfold tree13 takeL
  have hcap : ∀ a b : Option A, (bif ile 100 n then a else gd (fitsB (n + 1) 16) b) = if n < 100 then b else a := fun a b => by
    have hfit : fitsB (n + 1) 16 = true := by unfold fitsB; exact (bleI _ _).2 (by omega)
    rw [hfit, gd_true, ile_eq]
    by_cases q : n < 100
    · rw [if_pos q, decide_eq_false (by omega)]; rfl
    · rw [if_neg q, decide_eq_true (by omega)]; rfl
  cases bs with
  | nil =>
    have := qT_no (A := A) ⟨t, m, []⟩ 1 hb (by simp)
    refine (this _).trans ?_
    rfl
  | cons k r =>
    have hr : r.length ≤ maxLen := by simp at hb; omega
    have := qT_yes (A := A) ⟨t, m, k :: r⟩ 1 hb (by simp)
    refine (this _).trans ?_
    simp only [List.take_succ_cons, List.take_zero, num_one, List.drop_succ_cons, List.drop_zero, Bool.not_true, cond_false]
    have c1 : (iv k == 1) = decide (k = 1) := iv_eq k 1 (by decide)
    have c2 : (iv k == 2) = decide (k = 2) := iv_eq k 2 (by decide)
    have c3 : (iv k == 3) = decide (k = 3) := iv_eq k 3 (by decide)
    simp only [c1, c2, c3, bad13]
    by_cases k1 : k = 1
    · simp only [k1, decide_true, cond_true, if_true]
      by_cases h8 : 8 ≤ r.length
      · refine (qT_yes (A := A) ⟨t, m, r⟩ 8 hr h8 _).trans ?_
        simp only [if_pos h8, cond_true, hcap]
        rfl
      · refine (qT_no (A := A) ⟨t, m, r⟩ 8 hr (Nat.lt_of_not_le h8) _).trans ?_
        simp only [if_neg h8, cond_false]
    · simp only [k1, decide_false, cond_false, if_false]
      by_cases k2 : k = 2
      · simp only [k2, decide_true, cond_true, if_true]
        cases r with
        | nil =>
          refine (qT_no (A := A) ⟨t, m, []⟩ 1 hr (by simp) _).trans ?_
          rfl
        | cons x r =>
          have hr2 : r.length ≤ maxLen := by simp at hr; omega
          refine (qT_yes (A := A) ⟨t, m, x :: r⟩ 1 hr (by simp) _).trans ?_
          simp only [List.take_succ_cons, List.take_zero, num_one, List.drop_succ_cons, List.drop_zero, Bool.not_true, cond_false, i64_iv]
          have hlt : ilt ((⟨t, m, r⟩ : Row).x.n : Int) (iv x) = !decide (x.toNat ≤ r.length) := by
            rw [ilt_eq]
            show decide ((r.length : Int) < iv x) = _
            unfold iv
            by_cases q : x.toNat ≤ r.length
            · rw [decide_eq_true q, decide_eq_false (by omega)]; rfl
            · rw [decide_eq_false q, decide_eq_true (by omega)]; rfl
          rw [hlt]
          by_cases q : x.toNat ≤ r.length
          · simp only [q, decide_true, Bool.not_true, cond_false, if_true]
            rw [cutT_x ⟨t, m, r⟩ x q, hcap, cutT_x ⟨t, m, r⟩ x q, hcap]
            have hc := cut_x ⟨t, m, r⟩ x.toNat r.length (Nat.le_refl _)
            have : ((⟨t, m, r⟩ : Row).x.cut (iv x).toNat (⟨t, m, r⟩ : Row).x.n) = (⟨t, m, r.drop x.toNat⟩ : Row).x := by
              refine hc.trans ?_
              simp only [beq_self_eq_true, Bool.and_true, List.take_of_length_le (Nat.le_of_eq (List.length_drop ..))]
            rw [this, WL_ok, gd_true]
            by_cases q2 : n < 100
            · simp only [if_pos q2]
              rfl
            · simp only [if_neg q2]
          · simp only [q, decide_false, Bool.not_false, cond_true, if_false]
      · simp only [k2, decide_false, cond_false, if_false]
        by_cases k3 : k = 3
        · simp only [k3, decide_true, cond_true, if_true]
          cases r with
          | nil =>
            refine (qT_no (A := A) ⟨t, m, []⟩ 1 hr (by simp) _).trans ?_
            rfl
          | cons v r =>
            refine (qT_yes (A := A) ⟨t, m, v :: r⟩ 1 hr (by simp) _).trans ?_
            have hv : (iv v == 1) = (v == 1) := by rw [show (iv v == 1) = decide (v = UInt8.ofNat 1) from iv_eq v 1 (by decide)]; rfl
            simp only [List.take_succ_cons, List.take_zero, num_one, List.drop_succ_cons, List.drop_zero, cond_true, hv, hcap]
            rfl
        · simp only [k3, decide_false, cond_false, if_false]

/-! ### Unpack -/
noncomputable def k10 : PackK := ⟨okC (fun c : Cr => [c.v]) good10, fun xs => (valC (fun c : Cr => [c.v]) good10 ans10 (true, [], 1) xs).1, fun xs => cells (valC (fun c : Cr => [c.v]) good10 ans10 (true, [], 1) xs).2.1, fun xs => (valC (fun c : Cr => [c.v]) good10 ans10 (true, [], 1) xs).2.1.length, fun xs => (valC (fun c : Cr => [c.v]) good10 ans10 (true, [], 1) xs).2.2⟩
noncomputable def k14 : BK := ⟨okC enc14 (fun _ => True), valC enc14 (fun _ => True) (fun x => x.1.l == x.2.l) true⟩
theorem encC_inj (x y : Cr) (h : [x.v] = [y.v]) : x = y := by
  simp only [List.cons.injEq, and_true] at h
  exact cr_inj h
theorem k10_ok (c : Cr) (h : good10 c) : k10.ok [c.v] = true := okC_at (enc := fun c : Cr => [c.v]) c rfl h
theorem k10_x (c : Cr) (h : good10 c) : k10.x [c.v] = (⟨false, (ans10 c).1, (ans10 c).2.1⟩ : Row).x ∧ k10.e [c.v] = (ans10 c).2.2 := by
  have := (q_of (good_ := good10) (ans := ans10) (y0 := (true, [], 1)) encC_inj c h [c.v] rfl).2
  unfold PackK.x k10 Row.x
  simp only [this]
  exact ⟨trivial, trivial⟩
theorem q14 {A : Type} (a b : Row) (k : Bool → Option A) : k14.q [a.x.v, b.x.v] k = k (a.l == b.l) := by
  obtain ⟨h1, h2⟩ := q_of (good_ := fun _ : Row × Row => True) (ans := fun x => x.1.l == x.2.l) (y0 := true) inj14 (a, b) trivial [a.x.v, b.x.v] rfl
  unfold BK.q k14
  simp only [h1, h2, gd_true]
noncomputable def KU : List Known := L5 kT k10 k14
theorem KU_pure : ∀ e, e ∈ KU → Pure Try.prog e.id e.F := fun e he => by
  simp only [KU, L5, List.mem_cons, List.not_mem_nil, or_false] at he
  rcases he with rfl | rfl | rfl
  · exact p12
  · exact p10
  · exact p14

def hcS : List Th → XS
  | [] => hc0
  | x :: r => hc (thI x :: r.map thI) (r.length + 1)
theorem hcS_app (l : List Th) (x : Th) : hcS (l ++ [x]) = hc (l.map thI ++ [thI x]) (l.length + 1) := by
  cases l with
  | nil => rfl
  | cons y l => simp [hcS]
noncomputable def H5q (b : RX) (t m : Bool) (n : Int) (i : Int) (q : Bs × List Th) : Tmps × XS := H5 b .nilPtr (.int .i64 0) (⟨t, m, q.1⟩ : Row).x.v n i (hcS q.2)
noncomputable def rb5 (b : RX) (t m : Bool) (n : Int) (r : Nat × Bs × List Th) : XExit × Tmps × XS := (.ret, H5 b .nilPtr (.int .i64 2) (bad13 t m r.2.1) n r.1 (hcS r.2.2))
def step5 (k : Nat) (q : Bs × List Th) : (Bs × List Th) ⊕ (Nat × Bs × List Th) := match takeL q.1 with
  | some (x, r) => if q.2.length < 100 then .inl (r, q.2 ++ [x]) else .inr (k, q)
  | none => .inr (k, q)
theorem takeL_len {b : Bs} {x : Th} {r : Bs} (h : takeL b = some (x, r)) : r.length ≤ b.length ∧ (tb x).length ≤ 5000 := by
  obtain ⟨c, h1, h2, _⟩ := takeL_split h
  refine ⟨by rw [h1]; simp, ?_⟩
  unfold takeL at h
  split at h
  · cases h
  · rename_i k b
    split at h
    · split at h
      · simp only [Option.some.injEq, Prod.mk.injEq] at h
        rw [← h.1, len_tb]; simp
      · cases h
    · split at h
      · split at h
        · cases h
        · rename_i n b2
          split at h
          · simp only [Option.some.injEq, Prod.mk.injEq] at h
            rw [← h.1, len_tb]
            have := n.toNat_lt
            simp only [List.length_take]; omega
          · cases h
      · split at h
        · split at h
          · cases h
          · simp only [Option.some.injEq, Prod.mk.injEq] at h
            rw [← h.1, len_tb]; simp
        · cases h
theorem l5 (b : RX) (t m : Bool) (bs : Bs) (hb : bs.length ≤ maxLen) (n : UInt8) {A : Type} : LOK (A := A) KU Try.f5 5 (loop Try.f5 6) (fun T S k => at_ T S (H5q b t m (iv n) 0 (bs, [])).1 (H5q b t m (iv n) 0 (bs, [])).2 (iends (H5q b t m (iv n)) (rb5 b t m (iv n)) (.exit 0) n.toNat (iterD step5 n.toNat 0 (bs, [])) k)) := by
  refine iloop (fn := Try.f5) (f := 5) (l := KU) (I := [13, 26, 27, 22, 30]) (lp := fun _ _ => noLp) (H := H5q b t m (iv n)) (fun _ q => q.1.length ≤ maxLen ∧ q.2.length ≤ 100) (by kernel_rfl) ⟨hb, by simp⟩ (fun k q q' hk hi hs => ?_) (fun k q hk hi => ?_) (fun q hi => ?_)
  · unfold step5 at hs
    split at hs
    · rename_i x r hx
      split at hs
      · rename_i hl
        injection hs with hs
        subst hs
        have := (takeL_len hx).1
        exact ⟨by simp only; omega, by simp; omega⟩
      · cases hs
    · cases hs
  · have hn := n.toNat_lt
    have hlt : ilt (k : Int) (iv n) = true := ilt_of (by unfold iv; omega)
    have hinc : u64inc (k : Int) = ((k + 1 : Nat) : Int) := by
      unfold u64inc
      rw [IntWalk.u64_in _ ⟨by omega, by omega⟩]; omega
    obtain ⟨bs', l⟩ := q
    have hexp : ∀ y : Th, hcS (l ++ [y]) = hc (l.map thI ++ [thI y]) (l.length + 1) := hcS_app l
    cases l with
    | nil =>
      refine (s5z kT k10 k14 b (⟨t, m, bs'⟩ : Row).x (iv n) k).trans ?_
      rw [hlt, cond_true, t13z t m bs' hi.1, hinc]
      unfold step5
      simp only
      cases hx : takeL bs' with
      | none => rfl
      | some p => rfl
    | cons y l =>
      refine (s5 kT k10 k14 b (⟨t, m, bs'⟩ : Row).x (iv n) k (thI y :: l.map thI) (l.length + 1)).trans ?_
      have hi2 := hi.2
      simp only [List.length_cons] at hi2
      rw [hlt, cond_true, t13 _ (l.length + 1) (by omega) t m bs' hi.1, hinc]
      unfold step5
      simp only
      cases hx : takeL bs' with
      | none => rfl
      | some p =>
        simp only [List.length_cons]
        by_cases q : l.length + 1 < 100
        · rw [if_pos q, if_pos q]
          show _ = some (Sum.inl (H5 b .nilPtr (.int .i64 0) (⟨t, m, p.2⟩ : Row).x.v (iv n) ((k + 1 : Nat) : Int) (hcS (y :: l ++ [p.1]))))
          rw [hexp]
          rfl
        · rw [if_neg q, if_neg q]; rfl
  · have hlt : ilt (n.toNat : Int) (iv n) = false := ilt_not (by unfold iv; omega)
    obtain ⟨bs', l⟩ := q
    cases l with
    | nil =>
      refine (s5z kT k10 k14 b (⟨t, m, bs'⟩ : Row).x (iv n) (n.toNat : Int)).trans ?_
      rw [hlt]; rfl
    | cons y l =>
      refine (s5 kT k10 k14 b (⟨t, m, bs'⟩ : Row).x (iv n) (n.toNat : Int) (thI y :: l.map thI) (l.length + 1)).trans ?_
      rw [hlt]; rfl
theorem iter5 : ∀ (d k : Nat) (b : Bs) (l : List Th), (∀ l' r, many takeL d l b = some (l', r) → iterD step5 d k (b, l) = .inl (r, l')) ∧ (many takeL d l b = none → ∃ j, iterD step5 d k (b, l) = .inr j)
  | 0, k, b, l => ⟨fun l' r h => by simp only [many, Option.some.injEq, Prod.mk.injEq] at h; rw [← h.1, ← h.2]; rfl, fun h => by cases h⟩
  | d + 1, k, b, l => by
    simp only [many, iterD, step5]
    cases hx : takeL b with
    | none => exact ⟨fun l' r h => (by cases h), fun _ => ⟨_, rfl⟩⟩
    | some p =>
      simp only
      by_cases q : l.length < 100
      · simp only [if_pos q]
        exact iter5 d (k + 1) p.2 (l ++ [p.1])
      · simp only [if_neg q]
        exact ⟨fun l' r h => (by cases h), fun _ => ⟨_, rfl⟩⟩
theorem many_good : ∀ {d : Nat} {b : Bs} {l : List Th} {l' : List Th} {r : Bs}, many takeL d l b = some (l', r) → l.length ≤ 100 → (∀ t, t ∈ l → (tb t).length ≤ 5000) → l'.length ≤ 100 ∧ ∀ t, t ∈ l' → (tb t).length ≤ 5000
  | 0, b, l, l', r, h, h1, h2 => by
    simp only [many, Option.some.injEq, Prod.mk.injEq] at h
    rw [← h.1]; exact ⟨h1, h2⟩
  | d + 1, b, l, l', r, h, h1, h2 => by
    simp only [many] at h
    split at h
    · cases h
    · rename_i x r1 hx
      split at h
      · rename_i q
        refine many_good h (by simp; omega) fun t ht => ?_
        rcases List.mem_append.1 ht with ht | ht
        · exact h2 t ht
        · rw [List.mem_singleton.1 ht]; exact (takeL_len hx).2
      · cases h

theorem lent_th : ∀ l : List Th, lentAny (l.map thI) = false
  | [] => rfl
  | x :: l => by
    have : (thI x).lent = false := by cases x <;> rfl
    show ((thI x).lent || lentAny (l.map thI)) = false
    rw [this, lent_th l]; rfl
theorem hard_hcS (l : List Th) : hard false (hcS l) 50 (.tuple [.ptr 0 0, .int .i64 0]) = some (.tuple [(⟨false, false, l.isEmpty, l⟩ : Cr).v, .int .i64 0]) := by
  cases l with
  | nil => rfl
  | cons x l =>
    have h0 : hard false (hcS (x :: l)) 48 (.sl 1) = some (.row false false ((x :: l).map thI) (l.length + 1)) := by
      show (if (false || !lentAny ((x :: l).map thI)) = true then some (XV.row false false ((x :: l).map thI) (l.length + 1)) else none) = _
      rw [lent_th]; rfl
    have h1 : hard false (hcS (x :: l)) 49 (.ptr 0 0) = some (⟨false, false, false, x :: l⟩ : Cr).v := by
      show (match hardAll (hard false (hcS (x :: l)) 48) [.sl 1] with
        | some l => if XKind.own ≠ XKind.ro ∧ (false || !lentAny l) = true then some (XV.rptr false l 0) else none
        | none => none) = _
      simp only [hardAll, h0]
      rfl
    have h2 : hard false (hcS (x :: l)) 49 (.int .i64 0) = some (.int .i64 0) := rfl
    show (match hardAll (hard false (hcS (x :: l)) 49) [.ptr 0 0, .int .i64 0] with
      | some l => some (XV.tuple l)
      | none => none) = _
    simp only [hardAll, h1, h2]
    rfl
noncomputable def shape5 (y : Option (List Th)) : XV := match y with
  | none => .tuple [.nilPtr, .int .i64 2]
  | some l => .tuple [(⟨false, false, l.isEmpty, l⟩ : Cr).v, .int .i64 0]
theorem p5 : Pure Try.prog 5 (known 5 1 encR fitR (fun r => unpackP r.l) none shape5).F := by
  refine kp KU [11] false Try.func5 KU_pure (by kernel_rfl) (by kernel_rfl) (by kernel_rfl) rfl injR (fun _ => rfl) fun r hr => ?_
  have hile : ile (r.x.n : Int) 6 = decide (r.l.length ≤ 6) := by
    rw [ile_eq]
    show decide ((r.l.length : Int) ≤ 6) = _
    by_cases q : r.l.length ≤ 6
    · rw [decide_eq_true q, decide_eq_true (by omega)]
    · rw [decide_eq_false q, decide_eq_false (by omega)]
  by_cases h6 : r.l.length ≤ 6
  · refine ⟨noLp, noLoops, (n5 kT k10 k14 r.x).trans ?_⟩
    rw [hile, decide_eq_true h6]
    unfold unpackP
    rw [List.drop_eq_nil_of_le h6]
    rfl
  · have hd : ∃ n bs, r.l.drop 6 = n :: bs := by
      cases q : r.l.drop 6 with
      | nil => have := congrArg List.length q; simp at this; omega
      | cons n bs => exact ⟨n, bs, rfl⟩
    obtain ⟨n, bs, hd⟩ := hd
    have hbs : bs.length ≤ maxLen := by
      have := congrArg List.length hd
      unfold fitR at hr
      simp at this; omega
    have hu : upto 6 r.x.n = true := upto_of ⟨by decide, by show (6 : Int) ≤ (r.l.length : Nat); omega⟩
    have hcut : r.x.cut 6 r.x.n = (⟨r.t, r.m, n :: bs⟩ : Row).x := by
      refine (cut_x r 6 r.l.length (Nat.le_refl _)).trans ?_
      simp only [hd, beq_self_eq_true, Bool.and_true]
      rw [List.take_of_length_le]
      rw [← hd, List.length_drop]; exact Nat.le_refl _
    have hstart : ∀ rest : Option XV, start5 kT r.x (H5q r.x r.t r.m (iv n) 0 (bs, [])) rest = rest := fun rest => by
      unfold start5
      rw [hile, decide_eq_false h6, cond_false, hu, hcut, gd_true]
      have hf : fitR (⟨r.t, r.m, n :: bs⟩ : Row) := by
        have := congrArg List.length hd
        simp only [List.length_drop, List.length_cons] at this
        unfold fitR at hr ⊢
        simp only [List.length_cons]
        omega
      refine (qT_yes (⟨r.t, r.m, n :: bs⟩ : Row) 1 hf (by simp) _).trans ?_
      simp only [List.take_succ_cons, List.take_zero, num_one, List.drop_succ_cons, List.drop_zero]
      exact at_self _ _ _
    have hl := l5 r.x r.t r.m bs hbs n (A := XV)
    have hend : ∀ {e : XExit} {h : Tmps × XS}, (∀ k : XExit → Tmps → XS → Option XV, iends (H5q r.x r.t r.m (iv n)) (rb5 r.x r.t r.m (iv n)) (.exit 0) n.toNat (iterD step5 n.toNat 0 (bs, [])) k = k e h.1 h.2) →
        ∀ c', c' ∈ loopsIn (body Try.f5) → ∀ g, lp5 (H5q r.x r.t r.m (iv n) 0 (bs, [])) e h (headId c') = some g → LOK KU Try.f5 5 c' g := fun {e h} he => by
      refine one_loop (c0 := loop Try.f5 6) (id0 := 6) (by kernel_rfl) (by kernel_rfl) rfl ?_
      have : (fun (T : Tmps) (S : XS) (k : XExit → Tmps → XS → Option XV) => at_ T S (H5q r.x r.t r.m (iv n) 0 (bs, [])).1 (H5q r.x r.t r.m (iv n) 0 (bs, [])).2 (k e h.1 h.2)) = (fun T S k => at_ T S (H5q r.x r.t r.m (iv n) 0 (bs, [])).1 (H5q r.x r.t r.m (iv n) 0 (bs, [])).2 (iends (H5q r.x r.t r.m (iv n)) (rb5 r.x r.t r.m (iv n)) (.exit 0) n.toNat (iterD step5 n.toNat 0 (bs, [])) k)) := by
        funext T S k
        rw [he k]
      rw [this]
      exact hl
    have hun : unpackP r.l = match many takeL n.toNat [] bs with
        | none => none
        | some (l, _) => if pack l = some r.l then some l else none := by
      unfold unpackP
      simp only [hd]
      rfl
    obtain ⟨i1, i2⟩ := iter5 n.toNat 0 bs []
    cases hm : many takeL n.toNat [] bs with
    | none =>
      obtain ⟨⟨j, b', l'⟩, hj⟩ := i2 hm
      refine ⟨lp5 (H5q r.x r.t r.m (iv n) 0 (bs, [])) (rb5 r.x r.t r.m (iv n) (j, b', l')).1 (rb5 r.x r.t r.m (iv n) (j, b', l')).2, hend (fun k => by rw [hj]; rfl), ?_⟩
      rw [hun, hm]
      cases l' with
      | nil => exact (e5rz kT k10 k14 r.x _ (iv n) j _).trans (hstart _)
      | cons y l' => exact (e5r kT k10 k14 r.x _ (iv n) j _ _ _).trans (hstart _)
    | some p =>
      obtain ⟨l, rest⟩ := p
      have hi := i1 l rest hm
      obtain ⟨g1, g2⟩ := many_good hm (by simp) (by simp)
      refine ⟨lp5 (H5q r.x r.t r.m (iv n) 0 (bs, [])) (.exit 0) (H5q r.x r.t r.m (iv n) n.toNat (rest, l)), hend (fun k => by rw [hi]; rfl), ?_⟩
      rw [hun, hm]
      have hlast : end5 k10 k14 r.x (⟨true, true, l.isEmpty, l⟩ : Cr).v (hcS l) = some (shape5 (if pack l = some r.l then some l else none)) := by
        have hg : good10 ⟨true, true, l.isEmpty, l⟩ := ⟨g1, g2⟩
        unfold end5
        obtain ⟨x1, x2⟩ := k10_x _ hg
        rw [k10_ok _ hg, x1, x2, gd_true]
        have hq := q14 (A := XV) ⟨false, (ans10 ⟨true, true, l.isEmpty, l⟩).1, (ans10 ⟨true, true, l.isEmpty, l⟩).2.1⟩ r (fun b => bif !b then no5 else hard false (hcS l) 50 (.tuple [.ptr 0 0, .int .i64 0]))
        unfold BK.q at hq
        rw [hq, hard_hcS]
        simp only [ans10]
        cases hp : pack l with
        | none => rfl
        | some b =>
          simp only [Option.some.injEq]
          by_cases q : b = r.l
          · subst q
            simp only [beq_self_eq_true]
            rfl
          · have : (b == r.l) = false := beq_eq_false_iff_ne.2 q
            rw [if_neg q, this]; rfl
      cases l with
      | nil => exact (e5z kT k10 k14 r.x _ (iv n) n.toNat _).trans ((hstart _).trans hlast)
      | cons y l => exact (e5s kT k10 k14 r.x _ (iv n) n.toNat _ _ _).trans ((hstart _).trans hlast)
end Go.Proofs.Ythblghfdfhhppaa

/-
  The reference's Unpack as decision trees. No condition.
-/
namespace Go.Proofs.Ythblghfdfhhppaa
open Go.XM
set_option linter.unusedVariables false
set_option linter.unusedSimpArgs false

structure TakeK where
  ok : List XV → Bool
  k : List XV → Int
  n : List XV → Int
  s : List XV → Bs
  b : List XV → Bool
  z : List XV → Int
noncomputable def TakeK.g (a : TakeK) (xs : List XV) : List XV := thg (a.k xs) (a.n xs) (a.s xs) (a.b xs)
noncomputable def TakeK.e (a : TakeK) : Known := ⟨16, 1, a.ok, fun xs => .tuple [.agg (a.g xs), .int .i64 (a.z xs)]⟩
noncomputable def L6 (k9 k15 : IK) (k16 : TakeK) : List Known := [k9.k 9 1 .u32, k15.k 15 1 .u64, k16.e]
noncomputable def H6 (p e : XV) (a : RX) (n i : Int) (S : XS) : Tmps × XS := (mkT 9 [(2, p), (3, e), (4, a.v), (5, .ptr 0 0), (6, .int .i64 n), (7, .int .i64 i)], S)
noncomputable def round6 (k9 k15 : IK) (k16 : TakeK) (h : Tmps × XS) : Ans := roundC (L6 k9 k15 k16) [17] noLp Try.f6 6 (loop Try.f6 10) h
def WR (th : List XV) : List (Nat × Nat) := noteAll 1 (th.length + 1) []
noncomputable def no6 : Option XV := some (.tuple [.nilPtr, .int .i64 2])
theorem s6z (k9 k15 : IK) (k16 : TakeK) (a : RX) (n i : Int) : round6 k9 k15 k16 (H6 .nilPtr (.int .i64 0) a n i hc0) = bif ilt i n then
    gd (k16.ok [a.v]) (bif k16.z [a.v] == 0 then fin .ret (H6 .nilPtr (.int .i64 2) a n i hc0) else
      gd (upto (k16.z [a.v]) a.n) (next (H6 .nilPtr (.int .i64 0) (a.cut (k16.z [a.v]).toNat a.n) n (inc i) (rc (k16.g [a.v]) 1))))
    else fin (.exit 0) (H6 .nilPtr (.int .i64 0) a n i hc0) := by kernel_rfl
theorem s6 (k9 k15 : IK) (k16 : TakeK) (a : RX) (n i : Int) (th : List XV) (nt : Nat) : round6 k9 k15 k16 (H6 .nilPtr (.int .i64 0) a n i (rc th nt)) = bif ilt i n then
    gd (k16.ok [a.v]) (bif k16.z [a.v] == 0 then fin .ret (H6 .nilPtr (.int .i64 2) a n i (rc th nt)) else
      bif ile 100 nt then fin .ret (H6 .nilPtr (.int .i64 2) a n i (rc th nt)) else gd (fitsB (nt + 1) 40) (gd (fitsB (nt + 1) 40) (gd ((WR th).all fun p => (WR th).contains p && !([] : List (Nat × Nat)).contains p)
      (gd (upto (k16.z [a.v]) a.n) (next (H6 .nilPtr (.int .i64 0) (a.cut (k16.z [a.v]).toNat a.n) n (inc i) (rc (th ++ k16.g [a.v]) (nt + 1))))))))
    else fin (.exit 0) (H6 .nilPtr (.int .i64 0) a n i (rc th nt)) := by kernel_rfl
noncomputable def lp6 (h0 : Tmps × XS) (e : XExit) (h : Tmps × XS) : Loops XV := fun id => if Nat.beq id 10 then some fun T S k => at_ T S h0.1 h0.2 (k e h.1 h.2) else none
noncomputable def run6 (k9 k15 : IK) (k16 : TakeK) (a : RX) (lp : Loops XV) : Option XV := run (L6 k9 k15 k16) [] lp Try.f6 6 false [a.v]
noncomputable def start6 (k9 k15 : IK) (a : RX) (rest : RX → Int → Option XV) : Option XV :=
  bif ilt a.n 7 then no6 else bif ilt 4000 (IntKind.i64.wrap (a.n - 6)) then no6 else gd (upto 6 a.n) (gd (upto 4 a.n) (gd (k15.ok [(a.cut 0 4).v]) (gd (k9.ok [(a.cut 6 a.n).v])
    (bif k15.v [(a.cut 0 4).v] != IntKind.u64.wrap (k9.v [(a.cut 6 a.n).v]) then no6 else gd (upto 6 a.n) (gd (k15.ok [(a.cut 4 6).v]) (bif k15.v [(a.cut 4 6).v] != IntKind.u64.wrap (a.cut 6 a.n).n then no6 else
      rd1 (a.cut 6 a.n) 0 fun x => gd (upto 1 (a.cut 6 a.n).n) (rest ((a.cut 6 a.n).cut 1 (a.cut 6 a.n).n) (IntKind.i64.wrap x))))))))
noncomputable def at6 (h0 : Tmps × XS) (k : Option XV) (r : RX) (n : Int) : Option XV := at_ (H6 .nilPtr (.int .i64 0) r n 0 hc0).1 (H6 .nilPtr (.int .i64 0) r n 0 hc0).2 h0.1 h0.2 k
theorem n6 (k9 k15 : IK) (k16 : TakeK) (a : RX) : run6 k9 k15 k16 a noLp = start6 k9 k15 a fun _ _ => none := by kernel_rfl
theorem e6r (k9 k15 : IK) (k16 : TakeK) (a r : RX) (h0 : Tmps × XS) (n i : Int) (th : List XV) (nt : Nat) : run6 k9 k15 k16 a (lp6 h0 .ret (H6 .nilPtr (.int .i64 2) r n i (rc th nt))) = start6 k9 k15 a (at6 h0 no6) := by kernel_rfl
theorem e6rz (k9 k15 : IK) (k16 : TakeK) (a r : RX) (h0 : Tmps × XS) (n i : Int) : run6 k9 k15 k16 a (lp6 h0 .ret (H6 .nilPtr (.int .i64 2) r n i hc0)) = start6 k9 k15 a (at6 h0 no6) := by kernel_rfl
theorem e6s (k9 k15 : IK) (k16 : TakeK) (a r : RX) (h0 : Tmps × XS) (n i : Int) (th : List XV) (nt : Nat) : run6 k9 k15 k16 a (lp6 h0 (.exit 0) (H6 .nilPtr (.int .i64 0) r n i (rc th nt))) = start6 k9 k15 a (at6 h0 (bif ilt 0 r.n then no6 else hard false (rc th nt) 50 (.tuple [.ptr 0 0, .int .i64 0]))) := by kernel_rfl
theorem e6z (k9 k15 : IK) (k16 : TakeK) (a r : RX) (h0 : Tmps × XS) (n i : Int) : run6 k9 k15 k16 a (lp6 h0 (.exit 0) (H6 .nilPtr (.int .i64 0) r n i hc0)) = start6 k9 k15 a (at6 h0 (bif ilt 0 r.n then no6 else hard false hc0 50 (.tuple [.ptr 0 0, .int .i64 0]))) := by kernel_rfl
end Go.Proofs.Ythblghfdfhhppaa

/-
  The reference's Unpack as a law in plain Lean. No condition.
-/
namespace Go.Proofs.Ythblghfdfhhppaa
open Go.XM
set_option linter.unusedVariables false
set_option linter.unusedSimpArgs false

noncomputable def k9 : IK := ⟨okC encR fitR, valC encR fitR (fun x => crc x.l) 0⟩
theorem k9_ok (r : Row) (h : fitR r) : k9.ok [r.x.v] = true := okC_at r rfl h
theorem k9_v (r : Row) (h : fitR r) : k9.v [r.x.v] = crc r.l := valC_at (enc := encR) (good := fitR) (ans := fun x => crc x.l) injR r rfl h
noncomputable def k16 : TakeK := ⟨okC encR fitR, fun xs => (valC encR fitR ans16 ⟨0, 0, [], false, 0⟩ xs).k, fun xs => (valC encR fitR ans16 ⟨0, 0, [], false, 0⟩ xs).n, fun xs => (valC encR fitR ans16 ⟨0, 0, [], false, 0⟩ xs).s, fun xs => (valC encR fitR ans16 ⟨0, 0, [], false, 0⟩ xs).b, fun xs => (valC encR fitR ans16 ⟨0, 0, [], false, 0⟩ xs).z⟩
def thx (t : Th) : List XV := thg (thY t).k (thY t).n (thY t).s (thY t).b
theorem k16_all (r : Row) (h : fitR r) : k16.ok [r.x.v] = true ∧ k16.z [r.x.v] = (ans16 r).z ∧ k16.g [r.x.v] = thg (ans16 r).k (ans16 r).n (ans16 r).s (ans16 r).b := by
  obtain ⟨h1, h2⟩ := q_of (good_ := fitR) (ans := ans16) (y0 := ⟨0, 0, [], false, 0⟩) injR r h [r.x.v] rfl
  refine ⟨h1, ?_, ?_⟩
  · unfold k16; simp only [h2]
  · unfold TakeK.g k16; simp only [h2]
noncomputable def KR : List Known := L6 k9 k15 k16
theorem KR_pure : ∀ e, e ∈ KR → Pure Try.prog e.id e.F := fun e he => by
  simp only [KR, L6, List.mem_cons, List.not_mem_nil, or_false] at he
  rcases he with rfl | rfl | rfl
  · exact p9
  · exact p15
  · exact p16
def thR (l : List Th) : List XV := l.flatMap thx
def rcS : List Th → XS
  | [] => hc0
  | x :: r => rc (thR (x :: r)) (r.length + 1)
theorem rcS_app (l : List Th) (x : Th) : rcS (l ++ [x]) = rc (thR l ++ thx x) (l.length + 1) := by
  cases l with
  | nil => simp [rcS, thR]
  | cons y l => simp [rcS, thR]
noncomputable def H6q (t m : Bool) (n : Int) (i : Int) (q : Bs × List Th) : Tmps × XS := H6 .nilPtr (.int .i64 0) (⟨t, m, q.1⟩ : Row).x n i (rcS q.2)
noncomputable def rb6 (t m : Bool) (n : Int) (r : Nat × Bs × List Th) : XExit × Tmps × XS := (.ret, H6 .nilPtr (.int .i64 2) (⟨t, m, r.2.1⟩ : Row).x n r.1 (rcS r.2.2))
def step6 (k : Nat) (q : Bs × List Th) : (Bs × List Th) ⊕ (Nat × Bs × List Th) := match takeS q.1 with
  | some (x, r) => if q.2.length < 100 then .inl (r, q.2 ++ [x]) else .inr (k, q)
  | none => .inr (k, q)
theorem WR_ok (th : List XV) : ((WR th).all fun p => (WR th).contains p && !([] : List (Nat × Nat)).contains p) = true := by
  rw [List.all_eq_true]
  intro p hp
  simp [hp]
theorem thY_z (t : Th) : (thY t).z = ((tb t).length : Int) := by
  cases t
  · simp [thY, len_tb]
  · simp [thY, len_tb]; omega
  · simp [thY, len_tb]

theorem take_cut (t m : Bool) (bs : Bs) (x : Th) (r : Bs) (h : takeS bs = some (x, r)) : upto (thY x).z (⟨t, m, bs⟩ : Row).x.n = true ∧ (⟨t, m, bs⟩ : Row).x.cut (thY x).z.toNat (⟨t, m, bs⟩ : Row).x.n = (⟨t, m, r⟩ : Row).x ∧ ((thY x).z == 0) = false := by
  obtain ⟨_, _, hb⟩ := takeL_of_S h
  have hl : bs.length = (tb x).length + r.length := by rw [hb]; simp
  rw [thY_z]
  refine ⟨upto_of ⟨by omega, by show ((tb x).length : Int) ≤ (bs.length : Nat); omega⟩, ?_, ?_⟩
  · refine (cut_x ⟨t, m, bs⟩ (tb x).length bs.length (Nat.le_refl _)).trans ?_
    have e : bs.drop (tb x).length = r := by rw [hb]; simp
    have e2 : r.take (bs.length - (tb x).length) = r := List.take_of_length_le (by omega)
    simp only [e, e2, beq_self_eq_true, Bool.and_true]
  · have : 0 < (tb x).length := by rw [len_tb]; cases x <;> simp
    exact beq_eq_false_iff_ne.2 (by omega)

theorem l6 (t m : Bool) (bs : Bs) (hb : bs.length ≤ maxLen) (n : UInt8) {A : Type} : LOK (A := A) KR Try.f6 6 (loop Try.f6 10) (fun T S k => at_ T S (H6q t m (iv n) 0 (bs, [])).1 (H6q t m (iv n) 0 (bs, [])).2 (iends (H6q t m (iv n)) (rb6 t m (iv n)) (.exit 0) n.toNat (iterD step6 n.toNat 0 (bs, [])) k)) := by
  refine iloop (fn := Try.f6) (f := 6) (l := KR) (I := [17]) (lp := fun _ _ => noLp) (H := H6q t m (iv n)) (fun _ q => q.1.length ≤ maxLen ∧ q.2.length ≤ 100) (by kernel_rfl) ⟨hb, by simp⟩ (fun k q q' hk hi hs => ?_) (fun k q hk hi => ?_) (fun q hi => ?_)
  · unfold step6 at hs
    split at hs
    · rename_i x r hx
      split at hs
      · rename_i hl
        injection hs with hs
        subst hs
        have := (takeL_len (takeL_of_S hx).1).1
        exact ⟨by simp only; omega, by simp; omega⟩
      · cases hs
    · cases hs
  · have hn := n.toNat_lt
    have hlt : ilt (k : Int) (iv n) = true := ilt_of (by unfold iv; omega)
    have hinc : inc (k : Int) = ((k + 1 : Nat) : Int) := inc_n (small_max (by omega))
    obtain ⟨bs', l⟩ := q
    obtain ⟨a1, a2, a3⟩ := k16_all ⟨t, m, bs'⟩ hi.1
    have hexp : ∀ y : Th, rcS (l ++ [y]) = rc (thR l ++ thx y) (l.length + 1) := rcS_app l
    cases l with
    | nil =>
      refine (s6z k9 k15 k16 (⟨t, m, bs'⟩ : Row).x (iv n) k).trans ?_
      rw [hlt, cond_true, a1, a2, a3, hinc, gd_true]
      unfold step6 ans16
      simp only
      cases hx : takeS bs' with
      | none => rfl
      | some p =>
        obtain ⟨u1, u2, u3⟩ := take_cut t m bs' p.1 p.2 hx
        simp only [u3, cond_false, u1, gd_true, u2]
        rfl
    | cons y l =>
      refine (s6 k9 k15 k16 (⟨t, m, bs'⟩ : Row).x (iv n) k (thR (y :: l)) (l.length + 1)).trans ?_
      have hi2 := hi.2
      simp only [List.length_cons] at hi2
      have hfit : fitsB (l.length + 1 + 1) 40 = true := by unfold fitsB; exact (bleI _ _).2 (by omega)
      rw [hlt, cond_true, a1, a2, a3, hinc, gd_true, hfit, WR_ok, gd_true, gd_true, gd_true]
      unfold step6 ans16
      simp only
      cases hx : takeS bs' with
      | none => rfl
      | some p =>
        obtain ⟨u1, u2, u3⟩ := take_cut t m bs' p.1 p.2 hx
        simp only [u3, cond_false, u1, gd_true, u2, List.length_cons]
        by_cases q : l.length + 1 < 100
        · rw [if_pos q, ile_not (by omega), cond_false]
          show _ = some (Sum.inl (H6 .nilPtr (.int .i64 0) (⟨t, m, p.2⟩ : Row).x (iv n) ((k + 1 : Nat) : Int) (rcS (y :: l ++ [p.1]))))
          rw [hexp]
          rfl
        · rw [if_neg q, ile_of (by omega), cond_true]; rfl
  · have hlt : ilt (n.toNat : Int) (iv n) = false := ilt_not (by unfold iv; omega)
    obtain ⟨bs', l⟩ := q
    cases l with
    | nil =>
      refine (s6z k9 k15 k16 (⟨t, m, bs'⟩ : Row).x (iv n) (n.toNat : Int)).trans ?_
      rw [hlt]; rfl
    | cons y l =>
      refine (s6 k9 k15 k16 (⟨t, m, bs'⟩ : Row).x (iv n) (n.toNat : Int) (thR (y :: l)) (l.length + 1)).trans ?_
      rw [hlt]; rfl
theorem iter6 : ∀ (d k : Nat) (b : Bs) (l : List Th), (∀ l' r, many takeS d l b = some (l', r) → iterD step6 d k (b, l) = .inl (r, l')) ∧ (many takeS d l b = none → ∃ j, iterD step6 d k (b, l) = .inr j)
  | 0, k, b, l => ⟨fun l' r h => by simp only [many, Option.some.injEq, Prod.mk.injEq] at h; rw [← h.1, ← h.2]; rfl, fun h => by cases h⟩
  | d + 1, k, b, l => by
    simp only [many, iterD, step6]
    cases hx : takeS b with
    | none => exact ⟨fun l' r h => (by cases h), fun _ => ⟨_, rfl⟩⟩
    | some p =>
      simp only
      by_cases q : l.length < 100
      · simp only [if_pos q]
        exact iter6 d (k + 1) p.2 (l ++ [p.1])
      · simp only [if_neg q]
        exact ⟨fun l' r h => (by cases h), fun _ => ⟨_, rfl⟩⟩

theorem lent_thR : ∀ l : List Th, lentAny (thR l) = false
  | [] => rfl
  | x :: l => by
    have : ∀ r : List XV, lentAny r = false → lentAny (thx x ++ r) = false := fun r hr => by
      show (false || (false || (false || (false || lentAny r)))) = false
      rw [hr]; rfl
    exact this _ (lent_thR l)
def xcr (l : List Th) : XV := .rptr false [.row false l.isEmpty (thR l) l.length] 0
theorem hard_rcS (l : List Th) : hard false (rcS l) 50 (.tuple [.ptr 0 0, .int .i64 0]) = some (.tuple [xcr l, .int .i64 0]) := by
  cases l with
  | nil => rfl
  | cons x l =>
    have h0 : hard false (rcS (x :: l)) 48 (.sl 1) = some (.row false false (thR (x :: l)) (l.length + 1)) := by
      show (if (false || !lentAny (thR (x :: l))) = true then some (XV.row false false (thR (x :: l)) (l.length + 1)) else none) = _
      rw [lent_thR]; rfl
    have h1 : hard false (rcS (x :: l)) 49 (.ptr 0 0) = some (xcr (x :: l)) := by
      show (match hardAll (hard false (rcS (x :: l)) 48) [.sl 1] with
        | some l => if XKind.own ≠ XKind.ro ∧ (false || !lentAny l) = true then some (XV.rptr false l 0) else none
        | none => none) = _
      simp only [hardAll, h0]
      rfl
    have h2 : hard false (rcS (x :: l)) 49 (.int .i64 0) = some (.int .i64 0) := rfl
    show (match hardAll (hard false (rcS (x :: l)) 49) [.ptr 0 0, .int .i64 0] with
      | some l => some (XV.tuple l)
      | none => none) = _
    simp only [hardAll, h1, h2]
noncomputable def shape6 (y : Option (List Th)) : XV := match y with
  | none => .tuple [.nilPtr, .int .i64 2]
  | some l => .tuple [xcr l, .int .i64 0]

theorem p6 : Pure Try.prog 6 (known 6 1 encR fitR (fun r => unpackR r.l) none shape6).F := by
  refine kp KR [] false Try.func6 KR_pure (by kernel_rfl) (by kernel_rfl) (by kernel_rfl) rfl injR (fun _ => rfl) fun r hr => ?_
  have hm64 : maxLen = 9223372036854775807 := by decide
  have hrl : r.l.length ≤ maxLen := hr
  have hxn : (r.x.n : Int) = (r.l.length : Nat) := rfl
  by_cases h7 : r.l.length < 7
  · refine ⟨noLp, noLoops, (n6 k9 k15 k16 r.x).trans ?_⟩
    unfold start6
    rw [hxn, ilt_of (by omega)]
    unfold unpackR
    rw [if_pos (.inl h7)]
    rfl
  have hw : IntKind.i64.wrap (((r.l.length : Nat) : Int) - 6) = ((r.l.length - 6 : Nat) : Int) := by
    rw [IntWalk.i64_in _ ⟨by omega, by omega⟩]; omega
  by_cases h4 : 4000 < r.l.length - 6
  · refine ⟨noLp, noLoops, (n6 k9 k15 k16 r.x).trans ?_⟩
    unfold start6
    rw [hxn, ilt_not (by omega), cond_false, hw, ilt_of (by omega)]
    unfold unpackR
    rw [if_pos (.inr h4)]
    rfl
  have hd : ∃ n bs, r.l.drop 6 = n :: bs := by
    cases q : r.l.drop 6 with
    | nil => have := congrArg List.length q; simp at this; omega
    | cons n bs => exact ⟨n, bs, rfl⟩
  obtain ⟨n, bs, hd⟩ := hd
  have hdl : bs.length + 1 = r.l.length - 6 := by
    have := congrArg List.length hd
    rw [List.length_drop, List.length_cons] at this
    exact this.symm
  have c1 : r.x.cut 0 4 = (⟨r.t, r.m && 4 == r.l.length, r.l.take 4⟩ : Row).x := cut_x r 0 4 (by omega)
  have c2 : r.x.cut 6 r.x.n = (⟨r.t, r.m, n :: bs⟩ : Row).x := by
    refine (cut_x r 6 r.l.length (Nat.le_refl _)).trans ?_
    simp only [hd, beq_self_eq_true, Bool.and_true]
    rw [List.take_of_length_le]
    rw [← hd, List.length_drop]; exact Nat.le_refl _
  have c3 : r.x.cut 4 6 = (⟨r.t, r.m && 6 == r.l.length, (r.l.drop 4).take 2⟩ : Row).x := cut_x r 4 6 (by omega)
  have f1 : fitR (⟨r.t, r.m && 4 == r.l.length, r.l.take 4⟩ : Row) := by unfold fitR; simp only [List.length_take]; omega
  have f2 : fitR (⟨r.t, r.m, n :: bs⟩ : Row) := by unfold fitR; simp only [List.length_cons]; omega
  have f3 : fitR (⟨r.t, r.m && 6 == r.l.length, (r.l.drop 4).take 2⟩ : Row) := by unfold fitR; simp only [List.length_take]; omega
  have f4 : bs.length ≤ maxLen := by omega
  have hcr := crc_range (n :: bs)
  have hstart : ∀ rest : RX → Int → Option XV, start6 k9 k15 r.x rest = if num (r.l.take 4) ≠ crc (n :: bs) ∨ num ((r.l.drop 4).take 2) ≠ (n :: bs).length then no6 else rest (⟨r.t, r.m, bs⟩ : Row).x (iv n) := fun rest => by
    unfold start6
    have u1 : upto 6 r.x.n = true := upto_of ⟨by decide, by rw [hxn]; omega⟩
    have u2 : upto 4 r.x.n = true := upto_of ⟨by decide, by rw [hxn]; omega⟩
    rw [hxn, ilt_not (by omega), cond_false, hw, ilt_not (by omega), cond_false, u1, u2, c1, c2, c3, k15_ok _ f1, k9_ok _ f2, k15_ok _ f3, k15_v _ f1, k9_v _ f2, k15_v _ f3]
    simp only [gd_true]
    have hl2 : IntKind.u64.wrap ((⟨r.t, r.m, n :: bs⟩ : Row).x.n : Int) = ((n :: bs).length : Nat) := IntWalk.u64_in _ ⟨by show (0 : Int) ≤ ((n :: bs).length : Nat); omega, by show (((n :: bs).length : Nat) : Int) ≤ _; simp only [List.length_cons]; omega⟩
    rw [IntWalk.u64_in (crc (n :: bs)) ⟨by omega, by omega⟩, hl2]
    by_cases q1 : num (r.l.take 4) = crc (n :: bs)
    · have e1 : (num (r.l.take 4) != crc (n :: bs)) = false := bne_eq_false_iff_eq.2 q1
      rw [e1, cond_false]
      by_cases q2 : num ((r.l.drop 4).take 2) = (n :: bs).length
      · have e2 : (num ((r.l.drop 4).take 2) != (((n :: bs).length : Nat) : Int)) = false := bne_eq_false_iff_eq.2 q2
        rw [e2, cond_false, if_neg (fun h => h.elim (fun h => h q1) (fun h => h q2)), rd1_x ⟨r.t, r.m, n :: bs⟩ 0 (by simp)]
        have u3 : upto 1 (⟨r.t, r.m, n :: bs⟩ : Row).x.n = true := upto_of ⟨by decide, by show (1 : Int) ≤ ((n :: bs).length : Nat); simp only [List.length_cons]; omega⟩
        have c4 : (⟨r.t, r.m, n :: bs⟩ : Row).x.cut 1 (⟨r.t, r.m, n :: bs⟩ : Row).x.n = (⟨r.t, r.m, bs⟩ : Row).x := by
          refine (cut_x ⟨r.t, r.m, n :: bs⟩ 1 (n :: bs).length (Nat.le_refl _)).trans ?_
          simp only [beq_self_eq_true, Bool.and_true, List.drop_succ_cons, List.drop_zero, List.length_cons, Nat.add_sub_cancel, List.take_length]
        rw [u3, c4, gd_true]
        show rest _ (i64of (iv n)) = _
        rw [i64_iv]
      · have e2 : (num ((r.l.drop 4).take 2) != (((n :: bs).length : Nat) : Int)) = true := bne_iff_ne.2 q2
        rw [e2, cond_true, if_pos (.inr q2)]
    · have e1 : (num (r.l.take 4) != crc (n :: bs)) = true := bne_iff_ne.2 q1
      rw [e1, cond_true, if_pos (.inl q1)]
  have hun : unpackR r.l = if num (r.l.take 4) ≠ crc (n :: bs) ∨ num ((r.l.drop 4).take 2) ≠ (n :: bs).length then none else match many takeS n.toNat [] bs with
      | none => none
      | some (l, rest) => if rest = [] then some l else none := by
    unfold unpackR
    rw [if_neg (by omega)]
    simp only [hd]
    rfl
  rw [hun]
  by_cases hc : num (r.l.take 4) ≠ crc (n :: bs) ∨ num ((r.l.drop 4).take 2) ≠ (n :: bs).length
  · refine ⟨noLp, noLoops, (n6 k9 k15 k16 r.x).trans ?_⟩
    rw [hstart, if_pos hc, if_pos hc]; rfl
  rw [if_neg hc]
  have hl := l6 r.t r.m bs f4 n (A := XV)
  have hend : ∀ {e : XExit} {h : Tmps × XS}, (∀ k : XExit → Tmps → XS → Option XV, iends (H6q r.t r.m (iv n)) (rb6 r.t r.m (iv n)) (.exit 0) n.toNat (iterD step6 n.toNat 0 (bs, [])) k = k e h.1 h.2) →
      ∀ c', c' ∈ loopsIn (body Try.f6) → ∀ g, lp6 (H6q r.t r.m (iv n) 0 (bs, [])) e h (headId c') = some g → LOK KR Try.f6 6 c' g := fun {e h} he => by
    refine one_loop (c0 := loop Try.f6 10) (id0 := 10) (by kernel_rfl) (by kernel_rfl) rfl ?_
    have : (fun (T : Tmps) (S : XS) (k : XExit → Tmps → XS → Option XV) => at_ T S (H6q r.t r.m (iv n) 0 (bs, [])).1 (H6q r.t r.m (iv n) 0 (bs, [])).2 (k e h.1 h.2)) = (fun T S k => at_ T S (H6q r.t r.m (iv n) 0 (bs, [])).1 (H6q r.t r.m (iv n) 0 (bs, [])).2 (iends (H6q r.t r.m (iv n)) (rb6 r.t r.m (iv n)) (.exit 0) n.toNat (iterD step6 n.toNat 0 (bs, [])) k)) := by
      funext T S k
      rw [he k]
    rw [this]
    exact hl
  have hat : ∀ k : Option XV, start6 k9 k15 r.x (at6 (H6q r.t r.m (iv n) 0 (bs, [])) k) = k := fun k => by
    rw [hstart, if_neg hc]
    exact at_self _ _ _
  obtain ⟨i1, i2⟩ := iter6 n.toNat 0 bs []
  cases hm : many takeS n.toNat [] bs with
  | none =>
    obtain ⟨⟨j, b', l'⟩, hj⟩ := i2 hm
    refine ⟨lp6 (H6q r.t r.m (iv n) 0 (bs, [])) (rb6 r.t r.m (iv n) (j, b', l')).1 (rb6 r.t r.m (iv n) (j, b', l')).2, hend (fun k => by rw [hj]; rfl), ?_⟩
    cases l' with
    | nil => exact (e6rz k9 k15 k16 r.x _ _ (iv n) j).trans (hat _)
    | cons y l' => exact (e6r k9 k15 k16 r.x _ _ (iv n) j _ _).trans (hat _)
  | some p =>
    obtain ⟨l, rest⟩ := p
    have hi := i1 l rest hm
    refine ⟨lp6 (H6q r.t r.m (iv n) 0 (bs, [])) (.exit 0) (H6q r.t r.m (iv n) n.toNat (rest, l)), hend (fun k => by rw [hi]; rfl), ?_⟩
    have hlast : (bif ilt 0 ((⟨r.t, r.m, rest⟩ : Row).x.n : Nat) then no6 else hard false (rcS l) 50 (.tuple [.ptr 0 0, .int .i64 0])) = some (shape6 (if rest = [] then some l else none)) := by
      rw [hard_rcS]
      cases rest with
      | nil => rfl
      | cons x rest =>
        show (bif ilt 0 (((x :: rest).length : Nat) : Int) then _ else _) = _
        rw [ilt_of (by simp only [List.length_cons]; omega)]
        rfl
    cases l with
    | nil => exact (e6z k9 k15 k16 r.x _ _ (iv n) n.toNat).trans ((hat _).trans hlast)
    | cons y l => exact (e6s k9 k15 k16 r.x _ _ (iv n) n.toNat _ _).trans ((hat _).trans hlast)
end Go.Proofs.Ythblghfdfhhppaa

/-
  alike, and the laws as decision trees. No condition.
-/
namespace Go.Proofs.Ythblghfdfhhppaa
open Go.XM
set_option linter.unusedVariables false
set_option linter.unusedSimpArgs false

/-! ### alike -/
def xr (t : Bool) (a : RX) : XV := .rptr t [a.v] 0
noncomputable def H7 (t t' : Bool) (a x : RX) (i : Int) : Tmps × XS := (mkT 12 [(0, cr t a), (1, xr t' x), (4, .bool false), (5, .int .i64 i)], XS.none)
noncomputable def L7 (k1 : PK Int) (k2 : PK (List UInt8)) (k3 : PK Bool) : List Known := [k1.k 19 (.int .i64), k2.k 20 .str, k3.k 21 .bool]
noncomputable def rd4 {A : Type} (cs : List XV) (o : Nat) (k : Int → Int → Bs → Bool → Option A) : Option A := rdI .i64 cs o fun a => rdI .i64 cs (o + 1) fun b => rdS cs (o + 2) fun c => rdB cs (o + 3) fun d => k a b c d
theorem s7 (k1 : PK Int) (k2 : PK (List UInt8)) (k3 : PK Bool) (t t' : Bool) (a x : RX) (i : Int) : roundC (L7 k1 k2 k3) [] noLp Try.f7 7 (loop Try.f7 4) (H7 t t' a x i) = bif ilt i x.n then
    (k1.q [cr t a, .int .i64 i] fun n p => k2.q [cr t a, .int .i64 i] fun s q => k3.q [cr t a, .int .i64 i] fun b d => gd (within i x.n) (rd4 x.c (i.toNat * 4) fun yk yn ys yb =>
      bif !(p == (yk == 1)) then fin .ret (H7 t t' a x i) else bif !(q == (yk == 2)) then fin .ret (H7 t t' a x i) else bif !(d == (yk == 3)) then fin .ret (H7 t t' a x i) else
      bif n != yn then fin .ret (H7 t t' a x i) else bif !(s == ys) then fin .ret (H7 t t' a x i) else bif !(b == yb) then fin .ret (H7 t t' a x i) else next (H7 t t' a x (inc i))))
    else fin (.exit 0) (H7 t t' a x i) := by kernel_rfl
theorem e7 (k1 : PK Int) (k2 : PK (List UInt8)) (k3 : PK Bool) (t t' : Bool) (a x : RX) : run (L7 k1 k2 k3) [18, 28] (fun id => if Nat.beq id 4 then some fun T S k => at_ T S (H7 t t' a x 0).1 (H7 t t' a x 0).2 (k (.exit 0) (H7 t t' a x x.n).1 (H7 t t' a x x.n).2) else none) Try.f7 7 false [cr t a, xr t' x] =
    bif (a.n : Int) != x.n then some (.bool false) else at_ (H7 t t' a x 0).1 (H7 t t' a x 0).2 (H7 t t' a x 0).1 (H7 t t' a x 0).2 (some (.bool true)) := by kernel_rfl

/-! ### the laws -/
noncomputable def VK (id ar : Nat) (ok : List XV → Bool) (v : XV) : Known := ⟨id, ar, ok, fun _ => v⟩
noncomputable def fresh (bs : List XV) (n : Nat) (k : XV → Option XV) : Option XV := gd (Nat.beq bs.length (n * 1) && bs.all XV.live) (gd (Nat.beq bs.length (n * 1) && true) (bif Nat.beq n 0 then k (.row true true [] 0) else gd (fitsB (0 + n) 1) (k (.row true false bs (0 + n)))))
def tt : Option XV := some (.bool true)
def ff : Option XV := some (.bool false)
theorem e3n (o5 o6 o8 : List XV → Bool) (bs : List XV) (n : Nat) : run [VK 5 1 o5 (.tuple [.nilPtr, .int .i64 2]), VK 6 1 o6 (.tuple [.nilPtr, .int .i64 2]), VK 8 0 o8 (.bool true)] [] noLp Try.f3 3 false [.row false false bs n] =
    bif ilt 5000 n then tt else fresh bs n fun r => gd (o5 [r]) (gd (o6 [.row false false bs n]) (gd (o8 []) tt)) := by kernel_rfl
theorem e3s (o5 o6 o7 o8 : List XV → Bool) (c x : List XV) (bs : List XV) (n : Nat) : run [VK 5 1 o5 (.tuple [.rptr false c 0, .int .i64 0]), VK 6 1 o6 (.tuple [.rptr false x 0, .int .i64 0]), VK 7 2 o7 (.bool true), VK 8 0 o8 (.bool true)] [] noLp Try.f3 3 false [.row false false bs n] =
    bif ilt 5000 n then tt else fresh bs n fun r => gd (o5 [r]) (bif XV.lent (.tuple [.rptr false c 0, .int .i64 0]) then none else (gd (o6 [.row false false bs n]) (gd (o7 [.rptr false c 0, .rptr false x 0]) (gd (o8 []) tt)))) := by kernel_rfl

noncomputable def hd6 (s n : Int) : List XV := [byte s 24, byte s 16, byte s 8, u8of s, byte n 8, u8of n]
/-- the telegram: what is handed on, and what is compared -/
noncomputable def framed (bs : List XV) (n : Nat) (s : Int) (k : XV → ((Bs → Option XV) → Option XV) → Option XV) : Option XV := gd (Nat.beq bs.length (n * 1) && bs.all XV.live) (gd (Nat.beq bs.length (n * 1) && true) (bif Nat.beq n 0 then k (.row true true (hd6 s n) 6) (fun f => match allBytes (hd6 s n) with | some l => f l | none => none)
  else gd (fitsB (6 + n) 1) (k (.row true false (hd6 s n ++ bs) (6 + n)) (fun f => match allBytes (hd6 s n ++ bs) with | some l => f l | none => none))))
theorem e4n (k9 : IK) (o5 o6 o8 : List XV → Bool) (bs : List XV) (n : Nat) : run [k9.k 9 1 .u32, VK 5 1 o5 (.tuple [.nilPtr, .int .i64 2]), VK 6 1 o6 (.tuple [.nilPtr, .int .i64 2]), VK 8 0 o8 (.bool true)] [] noLp Try.f4 4 false [.row false false bs n] =
    bif ilt 3000 n then tt else k9.q [.row false false bs n] fun s => framed bs n s fun r _ => gd (o5 [r]) (gd (o6 [r]) (gd (o8 []) tt)) := by kernel_rfl
theorem e4s (k9 : IK) (o5 o6 o8 o10 : List XV → Bool) (c x : List XV) (dm : Bool) (d : List XV) (dn : Nat) (bs : List XV) (n : Nat) : run [k9.k 9 1 .u32, VK 5 1 o5 (.tuple [.rptr false c 0, .int .i64 0]), VK 6 1 o6 (.tuple [.rptr false x 0, .int .i64 0]), VK 8 0 o8 (.bool true), VK 10 1 o10 (.tuple [.row false dm d dn, .int .i64 0])] [] noLp Try.f4 4 false [.row false false bs n] =
    bif ilt 3000 n then tt else k9.q [.row false false bs n] fun s => framed bs n s fun r cmp => gd (o5 [r]) (bif XV.lent (.tuple [.rptr false c 0, .int .i64 0]) then none else gd (o6 [r]) (bif XV.lent (.tuple [.rptr false x 0, .int .i64 0]) then none else
      gd (o10 [.rptr false c 0]) (textOf ⟨false, dm, d, dn⟩ fun l1 => cmp fun l2 => bif l1 == l2 then gd (o8 []) tt else ff))) := by kernel_rfl
end Go.Proofs.Ythblghfdfhhppaa

/-
  WireTakes and WireSummed: the laws of functions that are known. No condition.
-/
namespace Go.Proofs.Ythblghfdfhhppaa
open Go.XM
set_option linter.unusedVariables false
set_option linter.unusedSimpArgs false

/-! ### alike -/
def enc7 (l : List Th) : List XV := [(⟨false, false, l.isEmpty, l⟩ : Cr).v, xcr l]
theorem inj7 (x y : List Th) (h : enc7 x = enc7 y) : x = y := by
  simp only [enc7, List.cons.injEq] at h
  have := cr_inj h.1
  simp only [Cr.mk.injEq] at this
  exact this.2.2.2
noncomputable def K7 : List Known := L7 k19 k20 k21
theorem K7_pure : ∀ e, e ∈ K7 → Pure Try.prog e.id e.F := fun e he => by
  simp only [K7, L7, List.mem_cons, List.not_mem_nil, or_false] at he
  rcases he with rfl | rfl | rfl
  · exact p19
  · exact p20
  · exact p21
theorem thR_len : ∀ l : List Th, (thR l).length = 4 * l.length
  | [] => rfl
  | x :: l => by
    have := thR_len l
    simp only [thR, List.flatMap_cons, List.length_append, List.length_cons] at this ⊢
    have h4 : (thx x).length = 4 := rfl
    omega
theorem thR_at : ∀ (l : List Th) (k : Nat) (h : k < l.length) (j : Nat), j < 4 → (thR l)[k * 4 + j]? = (thx l[k])[j]?
  | [], k, h, j, hj => by cases h
  | x :: l, 0, h, j, hj => by
    have h4 : (thx x).length = 4 := rfl
    show ((thx x) ++ thR l)[0 * 4 + j]? = _
    rw [Nat.zero_mul, Nat.zero_add, List.getElem?_append_left (by omega)]
    rfl
  | x :: l, k + 1, h, j, hj => by
    have h4 : (thx x).length = 4 := rfl
    show ((thx x) ++ thR l)[(k + 1) * 4 + j]? = _
    rw [List.getElem?_append_right (by omega), h4, show (k + 1) * 4 + j - 4 = k * 4 + j by omega]
    exact thR_at l k (by simpa using h) j hj
theorem rd4_x {A : Type} (l : List Th) (k : Nat) (h : k < l.length) (f : Int → Int → Bs → Bool → Option A) : rd4 (thR l) ((k : Int).toNat * 4) f = f (thY l[k]).k (thY l[k]).n (thY l[k]).s (thY l[k]).b := by
  have h0 := thR_at l k h 0 (by decide)
  have h1 := thR_at l k h 1 (by decide)
  have h2 := thR_at l k h 2 (by decide)
  have h3 := thR_at l k h 3 (by decide)
  unfold rd4 rdI rdS rdB
  simp only [Int.toNat_natCast]
  rw [Nat.add_zero] at h0
  simp only [h0, h1, h2, h3]
  rfl
theorem l7 (l : List Th) (hl : l.length ≤ 100) {A : Type} : LOK (A := A) K7 Try.f7 7 (loop Try.f7 4) (fun T S k => at_ T S (H7 false false (⟨false, false, l.isEmpty, l⟩ : Cr).x ⟨false, l.isEmpty, thR l, l.length⟩ 0).1 (H7 false false (⟨false, false, l.isEmpty, l⟩ : Cr).x ⟨false, l.isEmpty, thR l, l.length⟩ 0).2
    (k (.exit 0) (H7 false false (⟨false, false, l.isEmpty, l⟩ : Cr).x ⟨false, l.isEmpty, thR l, l.length⟩ l.length).1 (H7 false false (⟨false, false, l.isEmpty, l⟩ : Cr).x ⟨false, l.isEmpty, thR l, l.length⟩ l.length).2)) := by
  refine cloop (fn := Try.f7) (f := 7) (l := K7) (I := []) (n := l.length) (lp := fun _ _ => noLp) (H := fun i (_ : Unit) => H7 false false (⟨false, false, l.isEmpty, l⟩ : Cr).x ⟨false, l.isEmpty, thR l, l.length⟩ i) (s0 := ()) (step := fun _ _ => ()) (fun _ _ => True) (by kernel_rfl) trivial (fun _ _ _ _ => trivial) (fun k _ hk _ => ?_) (fun _ _ => ?_)
  · refine (s7 k19 k20 k21 false false (⟨false, false, l.isEmpty, l⟩ : Cr).x ⟨false, l.isEmpty, thR l, l.length⟩ k).trans ?_
    show (bif ilt k l.length then _ else _) = _
    rw [ilt_of (by omega), cond_true]
    refine (q19 ⟨false, false, l.isEmpty, l⟩ k _).trans ?_
    refine (q20 ⟨false, false, l.isEmpty, l⟩ k _).trans ?_
    refine (q21 ⟨false, false, l.isEmpty, l⟩ k _).trans ?_
    show gd (within k l.length) (rd4 (thR l) _ _) = _
    rw [within_nat hk, gd_true, rd4_x l k hk, inc_n (small_max (by omega))]
    simp only [ans19, ans20, ans21, List.getElem?_eq_getElem hk]
    cases l[k] with
    | num n => simp only [thY, bne_self_eq_false, cond_false]; rfl
    | txt s => simp only [thY, beq_self_eq_true]; rfl
    | tru b => simp only [thY, beq_self_eq_true]; rfl
  · refine (s7 k19 k20 k21 false false (⟨false, false, l.isEmpty, l⟩ : Cr).x ⟨false, l.isEmpty, thR l, l.length⟩ l.length).trans ?_
    show (bif ilt l.length l.length then _ else _) = _
    rw [ilt_not (by omega)]
    rfl
theorem p7 : Pure Try.prog 7 (known 7 2 enc7 (fun l => l.length ≤ 100) (fun _ => true) true .bool).F := by
  refine kp K7 [18, 28] false Try.func7 K7_pure (by kernel_rfl) (by kernel_rfl) (by kernel_rfl) rfl inj7 (fun _ => rfl) fun l hl => ?_
  refine ⟨_, one_loop (c0 := loop Try.f7 4) (id0 := 4) (by kernel_rfl) (by kernel_rfl) rfl (l7 l hl), (e7 k19 k20 k21 false false (⟨false, false, l.isEmpty, l⟩ : Cr).x ⟨false, l.isEmpty, thR l, l.length⟩).trans ?_⟩
  show (bif ((l.length : Nat) : Int) != ((l.length : Nat) : Int) then _ else _) = _
  rw [bne_self_eq_false, cond_false, at_self]
theorem knows : yes (xcall Try.prog noPrim 60 8 [] 0 XS.none) = true := by kernel_rfl
theorem p8 : Pure Try.prog 8 (known 8 0 (fun _ : Unit => []) (fun _ => True) (fun _ => true) true .bool).F := true_pure Try.checked.mixed good knows (Y := Unit)

/-! ### known at one point -/
theorem vk_pure {X Y : Type} {f ar : Nat} {enc : X → List XV} {good_ : X → Prop} {ans : X → Y} {y0 : Y} {shape : Y → XV} (hp : Pure Try.prog f (known f ar enc good_ ans y0 shape).F) (hinj : ∀ x y, enc x = enc y → x = y) (good2 : X → Prop) (hsub : ∀ x, good2 x → good_ x) (v : XV) (hv : ∀ x, good2 x → shape (ans x) = v) :
    Pure Try.prog f (VK f ar (okC enc good2) v).F := fun args u h => by
  have hok : okC enc good2 args = true ∧ v = u := by
    unfold Known.F VK at h
    simp only at h
    cases hq : okC enc good2 args with
    | true => rw [hq] at h; simp only [cond_true, Option.some.injEq] at h; exact ⟨rfl, h⟩
    | false => rw [hq] at h; cases h
  obtain ⟨h1, rfl⟩ := hok
  have hex : ∃ x, enc x = args ∧ good2 x := by
    unfold okC at h1
    exact @of_decide_eq_true _ (Classical.propDecidable _) h1
  obtain ⟨x, rfl, hx⟩ := hex
  refine hp (enc x) v ?_
  unfold Known.F known
  simp only [okC_of (enc := enc) (good := good_) (hsub x hx), valC_of hinj (good := good_) (ans := ans) (y0 := y0) (hsub x hx), cond_true, hv x hx]
theorem pure_split {X Y : Type} {f ar : Nat} {enc : X → List XV} {good_ : X → Prop} {ans : X → Y} {y0 : Y} {shape : Y → XV} (hinj : ∀ x y, enc x = enc y → x = y) (h : ∀ x, good_ x → Pure Try.prog f (known f ar enc (fun y => y = x) ans y0 shape).F) : Pure Try.prog f (known f ar enc good_ ans y0 shape).F := fun args v hv => by
  obtain ⟨x, rfl, hx, rfl⟩ := known_inv hinj hv
  refine h x hx (enc x) _ ?_
  unfold Known.F known
  simp only [okC_of (enc := enc) (good := fun y => y = x) (x := x) rfl, valC_of hinj (good := fun y => y = x) (ans := ans) (y0 := y0) (x := x) rfl, cond_true]
end Go.Proofs.Ythblghfdfhhppaa

/-
  WireTakes and WireSummed, each as a law of the plain machine. No condition.
-/
namespace Go.Proofs.Ythblghfdfhhppaa
open Go.XM
set_option linter.unusedVariables false
set_option linter.unusedSimpArgs false

def encB (b : Bs) : List XV := [(⟨false, false, b⟩ : Row).x.v]
theorem injB (x y : Bs) (h : encB x = encB y) : x = y := by
  simp only [encB, List.cons.injEq, and_true] at h
  have := row_inj h
  simp only [Row.mk.injEq, true_and] at this
  exact this
def fitB_ (b : Bs) : Prop := b.length ≤ maxLen
def isB (b : Bs) (r : Row) : Prop := fitR r ∧ r.l = b
theorem v5 (b : Bs) : Pure Try.prog 5 (VK 5 1 (okC encR (isB b)) (shape5 (unpackP b))).F := vk_pure p5 injR (isB b) (fun _ h => h.1) _ (fun x h => by rw [h.2])
theorem v6 (b : Bs) : Pure Try.prog 6 (VK 6 1 (okC encR (isB b)) (shape6 (unpackP b))).F := vk_pure p6 injR (isB b) (fun _ h => h.1) _ (fun x h => by rw [h.2, ← unpack_eq])
theorem v7 (l : List Th) (hl : l.length ≤ 100) : Pure Try.prog 7 (VK 7 2 (okC enc7 (fun x => x = l)) (.bool true)).F := vk_pure p7 inj7 (fun x => x = l) (fun x h => by rw [h]; exact hl) _ (fun _ _ => rfl)
theorem v8 : Pure Try.prog 8 (VK 8 0 (okC (fun _ : Unit => []) (fun _ => True)) (.bool true)).F := vk_pure p8 (fun _ _ _ => rfl) (fun _ => True) (fun _ h => h) _ (fun _ _ => rfl)
theorem o8_ok : okC (fun _ : Unit => []) (fun _ => True) [] = true := okC_at (enc := fun _ : Unit => []) (good := fun _ => True) () rfl trivial
theorem unpackP_good {b : Bs} {l : List Th} (h : unpackP b = some l) : l.length ≤ 100 ∧ ∀ t, t ∈ l → (tb t).length ≤ 5000 := by
  unfold unpackP at h
  split at h
  · cases h
  · split at h
    · cases h
    · rename_i l' r hm
      split at h
      · injection h with h
        subst h
        exact many_good hm (by simp) (by simp)
      · cases h
theorem fresh_x (b : Bs) (hb : b.length ≤ 5000) (k : XV → Option XV) (y : Option XV) (hk : ∀ r : Row, r.l = b → k r.x.v = y) : fresh (cells b) b.length k = y := by
  unfold fresh
  rw [cells_len, live_cells, Nat.mul_one, Nat.beq_refl, fits1 _ (by omega)]
  simp only [Bool.and_self, gd_true, Nat.zero_add]
  cases b with
  | nil => exact hk ⟨true, true, []⟩ rfl
  | cons x b => exact hk ⟨true, false, x :: b⟩ rfl

theorem law3 : Pure Try.prog 3 (known 3 1 encB fitB_ (fun _ => true) true .bool).F := by
  refine pure_split injB fun b hb => ?_
  by_cases hlong : 5000 < b.length
  · refine kp [VK 5 1 (fun _ => false) (.tuple [.nilPtr, .int .i64 2]), VK 6 1 (fun _ => false) (.tuple [.nilPtr, .int .i64 2]), VK 8 0 (fun _ => false) (.bool true)] [] false Try.func3 (fun e he => ?_) (by kernel_rfl) (by kernel_rfl) (by kernel_rfl) rfl injB (fun _ => rfl) fun x hx => ?_
    · simp only [List.mem_cons, List.not_mem_nil, or_false] at he
      rcases he with rfl | rfl | rfl <;> (intro args v hv; cases hv)
    · subst hx
      refine ⟨noLp, noLoops, (e3n _ _ _ (cells x) x.length).trans ?_⟩
      rw [ilt_of (by omega)]; rfl
  have hs : b.length ≤ 5000 := by omega
  have hok : ∀ r : Row, r.l = b → okC encR (isB b) [r.x.v] = true := fun r hr => okC_at (enc := encR) r rfl ⟨by unfold fitR; rw [hr]; exact Nat.le_of_lt (small_max (by omega)), hr⟩
  cases hu : unpackP b with
  | none =>
    have h5 := v5 b
    have h6 := v6 b
    rw [hu] at h5 h6
    refine kp [VK 5 1 (okC encR (isB b)) (.tuple [.nilPtr, .int .i64 2]), VK 6 1 (okC encR (isB b)) (.tuple [.nilPtr, .int .i64 2]), VK 8 0 (okC (fun _ : Unit => []) (fun _ => True)) (.bool true)] [] false Try.func3 (fun e he => ?_) (by kernel_rfl) (by kernel_rfl) (by kernel_rfl) rfl injB (fun _ => rfl) fun x hx => ?_
    · simp only [List.mem_cons, List.not_mem_nil, or_false] at he
      rcases he with rfl | rfl | rfl
      · exact h5
      · exact h6
      · exact v8
    · subst hx
      refine ⟨noLp, noLoops, (e3n _ _ _ (cells x) x.length).trans ?_⟩
      rw [ilt_not (by omega), cond_false]
      refine fresh_x x hs _ _ fun r hr => ?_
      have e2 : okC encR (isB x) [XV.row false false (cells x) x.length] = true := hok ⟨false, false, x⟩ rfl
      rw [hok r hr, e2, o8_ok]; rfl
  | some l =>
    have h5 := v5 b
    have h6 := v6 b
    rw [hu] at h5 h6
    have hg := (unpackP_good hu).1
    refine kp [VK 5 1 (okC encR (isB b)) (.tuple [.rptr false [.row false l.isEmpty (l.map thI) l.length] 0, .int .i64 0]), VK 6 1 (okC encR (isB b)) (.tuple [.rptr false [.row false l.isEmpty (thR l) l.length] 0, .int .i64 0]), VK 7 2 (okC enc7 (fun x => x = l)) (.bool true), VK 8 0 (okC (fun _ : Unit => []) (fun _ => True)) (.bool true)] [] false Try.func3 (fun e he => ?_) (by kernel_rfl) (by kernel_rfl) (by kernel_rfl) rfl injB (fun _ => rfl) fun x hx => ?_
    · simp only [List.mem_cons, List.not_mem_nil, or_false] at he
      rcases he with rfl | rfl | rfl | rfl
      · exact h5
      · exact h6
      · exact v7 l hg
      · exact v8
    · subst hx
      refine ⟨noLp, noLoops, (e3s _ _ _ _ _ _ (cells x) x.length).trans ?_⟩
      rw [ilt_not (by omega), cond_false]
      refine fresh_x x hs _ _ fun r hr => ?_
      have e2 : okC encR (isB x) [XV.row false false (cells x) x.length] = true := hok ⟨false, false, x⟩ rfl
      have e7 : okC enc7 (fun x => x = l) [XV.rptr false [.row false l.isEmpty (l.map thI) l.length] 0, XV.rptr false [.row false l.isEmpty (thR l) l.length] 0] = true := okC_at (enc := enc7) l rfl rfl
      rw [hok r hr, e2, o8_ok, e7]; rfl

/-! ### WireSummed -/
theorem hd6_eq (b : Bs) : hd6 (crc b) b.length = cells (bigB (crc b).toNat 4 ++ bigB b.length 2) := by
  obtain ⟨s, hs⟩ := Int.eq_ofNat_of_zero_le (crc_range b).1
  rw [hs]
  have b3 := byte_iv s 3
  have b2 := byte_iv s 2
  have b1 := byte_iv s 1
  have c1 := byte_iv b.length 1
  simp only [Nat.reduceMul] at b3 b2 b1 c1
  unfold hd6
  rw [b3, b2, b1, c1, u8of_len, u8of_len]
  simp [bigB, cells, ub]
theorem framed_x (b : Bs) (hb : b.length ≤ 5000) (k : XV → ((Bs → Option XV) → Option XV) → Option XV) (y : Option XV) (hk : ∀ (r : Row) (c : (Bs → Option XV) → Option XV), r.l = packed b → (∀ f, c f = f (packed b)) → k r.x.v c = y) : framed (cells b) b.length (crc b) k = y := by
  unfold framed
  rw [cells_len, live_cells, Nat.mul_one, Nat.beq_refl, fits1 _ (by omega), hd6_eq, ← cells_app]
  simp only [Bool.and_self, gd_true, allBytes_cells]
  cases b with
  | nil =>
    have e : packed [] = bigB (crc []).toNat 4 ++ bigB ([] : Bs).length 2 := by unfold packed; rw [List.append_nil]
    have := hk ⟨true, true, packed []⟩ (fun f => f (packed [])) rfl (fun _ => rfl)
    rw [e] at this
    exact this
  | cons x b =>
    have := hk ⟨true, false, packed (x :: b)⟩ (fun f => f (packed (x :: b))) rfl (fun _ => rfl)
    have e : (6 + (x :: b).length) = (packed (x :: b)).length := by
      unfold packed
      simp only [List.length_append, bigB_len]
    have h0 : Nat.beq (x :: b).length 0 = false := rfl
    rw [h0, cond_false, e]
    exact this

theorem law4 : Pure Try.prog 4 (known 4 1 encB fitB_ (fun _ => true) true .bool).F := by
  refine pure_split injB fun b hb => ?_
  have h9 : ∀ e, e ∈ [k9.k 9 1 .u32] → Pure Try.prog e.id e.F := fun e he => by
    rw [List.mem_singleton.1 he]; exact p9
  by_cases hlong : 3000 < b.length
  · refine kp [k9.k 9 1 .u32, VK 5 1 (fun _ => false) (.tuple [.nilPtr, .int .i64 2]), VK 6 1 (fun _ => false) (.tuple [.nilPtr, .int .i64 2]), VK 8 0 (fun _ => false) (.bool true)] [] false Try.func4 (fun e he => ?_) (by kernel_rfl) (by kernel_rfl) (by kernel_rfl) rfl injB (fun _ => rfl) fun x hx => ?_
    · simp only [List.mem_cons, List.not_mem_nil, or_false] at he
      rcases he with rfl | rfl | rfl | rfl
      · exact p9
      all_goals (intro args v hv; cases hv)
    · subst hx
      refine ⟨noLp, noLoops, (e4n _ _ _ _ (cells x) x.length).trans ?_⟩
      rw [ilt_of (by omega)]; rfl
  have hs : b.length ≤ 5000 := by omega
  have hpl : (packed b).length = 6 + b.length := by unfold packed; simp only [List.length_append, bigB_len]
  have hok : ∀ r : Row, r.l = packed b → okC encR (isB (packed b)) [r.x.v] = true := fun r hr => okC_at (enc := encR) r rfl ⟨by unfold fitR; rw [hr, hpl]; exact Nat.le_of_lt (small_max (by omega)), hr⟩
  have q9 : ∀ k : Int → Option XV, k9.q [XV.row false false (cells b) b.length] k = k (crc b) := fun k => by
    have hf : fitR (⟨false, false, b⟩ : Row) := hb
    have e1 : k9.ok [XV.row false false (cells b) b.length] = true := k9_ok ⟨false, false, b⟩ hf
    have e2 : k9.v [XV.row false false (cells b) b.length] = crc b := k9_v ⟨false, false, b⟩ hf
    unfold IK.q
    rw [e1, e2]; rfl
  cases hu : unpackP (packed b) with
  | none =>
    have h5 := v5 (packed b)
    have h6 := v6 (packed b)
    rw [hu] at h5 h6
    refine kp [k9.k 9 1 .u32, VK 5 1 (okC encR (isB (packed b))) (.tuple [.nilPtr, .int .i64 2]), VK 6 1 (okC encR (isB (packed b))) (.tuple [.nilPtr, .int .i64 2]), VK 8 0 (okC (fun _ : Unit => []) (fun _ => True)) (.bool true)] [] false Try.func4 (fun e he => ?_) (by kernel_rfl) (by kernel_rfl) (by kernel_rfl) rfl injB (fun _ => rfl) fun x hx => ?_
    · simp only [List.mem_cons, List.not_mem_nil, or_false] at he
      rcases he with rfl | rfl | rfl | rfl
      · exact p9
      · exact h5
      · exact h6
      · exact v8
    · subst hx
      refine ⟨noLp, noLoops, (e4n _ _ _ _ (cells x) x.length).trans ?_⟩
      rw [ilt_not (by omega), cond_false, q9]
      refine framed_x x hs _ _ fun r c hr hc => ?_
      rw [hok r hr, o8_ok]; rfl
  | some l =>
    have h5 := v5 (packed b)
    have h6 := v6 (packed b)
    rw [hu] at h5 h6
    have hg := unpackP_good hu
    have hp := unpackP_pack hu
    have h10 : Pure Try.prog 10 (VK 10 1 (okC (fun c : Cr => [c.v]) (fun c => c = ⟨false, false, l.isEmpty, l⟩)) (.tuple [.row false false (cells (packed b)) (packed b).length, .int .i64 0])).F := vk_pure p10 encC_inj (fun c => c = ⟨false, false, l.isEmpty, l⟩) (fun c h => by subst h; exact hg) _ (fun c h => by
      subst h
      simp only [ans10, hp]
      rfl)
    refine kp [k9.k 9 1 .u32, VK 5 1 (okC encR (isB (packed b))) (.tuple [.rptr false [.row false l.isEmpty (l.map thI) l.length] 0, .int .i64 0]), VK 6 1 (okC encR (isB (packed b))) (.tuple [.rptr false [.row false l.isEmpty (thR l) l.length] 0, .int .i64 0]), VK 8 0 (okC (fun _ : Unit => []) (fun _ => True)) (.bool true), VK 10 1 (okC (fun c : Cr => [c.v]) (fun c => c = ⟨false, false, l.isEmpty, l⟩)) (.tuple [.row false false (cells (packed b)) (packed b).length, .int .i64 0])] [] false Try.func4 (fun e he => ?_) (by kernel_rfl) (by kernel_rfl) (by kernel_rfl) rfl injB (fun _ => rfl) fun x hx => ?_
    · simp only [List.mem_cons, List.not_mem_nil, or_false] at he
      rcases he with rfl | rfl | rfl | rfl | rfl
      · exact p9
      · exact h5
      · exact h6
      · exact v8
      · exact h10
    · subst hx
      refine ⟨noLp, noLoops, (e4s _ _ _ _ _ _ _ _ _ _ (cells x) x.length).trans ?_⟩
      rw [ilt_not (by omega), cond_false, q9]
      refine framed_x x hs _ _ fun r c hr hc => ?_
      have e10 : okC (fun c : Cr => [c.v]) (fun c => c = ⟨false, false, l.isEmpty, l⟩) [XV.rptr false [.row false l.isEmpty (l.map thI) l.length] 0] = true := okC_at (enc := fun c : Cr => [c.v]) ⟨false, false, l.isEmpty, l⟩ rfl rfl
      have et := textOf_x (A := XV) ⟨false, false, packed x⟩ (fun l1 => c fun l2 => bif l1 == l2 then gd (okC (fun _ : Unit => []) (fun _ => True) []) tt else ff)
      rw [hok r hr, e10]
      show textOf (⟨false, false, packed x⟩ : Row).x _ = _
      rw [et, hc, o8_ok]
      simp only [beq_self_eq_true]
      rfl
end Go.Proofs.Ythblghfdfhhppaa
