/- Words and their bits, without a program. -/
import Derived.Test.YtlidjjjpjndneaaVb
import Derived.KernelRfl
set_option linter.unusedSimpArgs false
set_option linter.unusedVariables false
namespace Go.Proofs.Ytlidjjjpjndneaa.Lg
open Go
/-- Words, as they are drawn. -/
inductive W3 where
  | const (n : Int)
  | var (n : Int)
  | op (k : Int) (a b : W3)
def okW : W3 → Nat → Prop
  | .const n, d => 1 ≤ d ∧ 0 ≤ n ∧ n ≤ 7
  | .var n, d => 1 ≤ d ∧ 0 ≤ n ∧ n ≤ 3
  | .op k a b, d => 2 ≤ d ∧ 3 ≤ k ∧ k ≤ 5 ∧ okW a (d - 1) ∧ okW b (d - 1)
def sizeW : W3 → Nat
  | .const _ => 1
  | .var _ => 1
  | .op _ a b => 1 + sizeW a + sizeW b
/-- A bit of a number. -/
def bitI (x : Int) (i : Nat) : Int := bitsV .and .i64 (x.fdiv (2 ^ min i 64)) 1
def B3 (x : Int) (i : Nat) : Bool := decide (bitI x i = 1)
def carryE (us ws : List Ex) : Nat → Ex
  | 0 => constE 0
  | i + 1 => nodeE 5 [nodeE 4 [us.getD i default, ws.getD i default], nodeE 4 [carryE us ws i, nodeE 6 [us.getD i default, ws.getD i default]]]
def opBit (k : Int) (us ws : List Ex) (i : Nat) : Ex :=
  if k = 3 then nodeE 6 [nodeE 6 [us.getD i default, ws.getD i default], carryE us ws i] else if k = 4 then nodeE 4 [us.getD i default, ws.getD i default] else nodeE 7 [lessE us ws 3, us.getD i default, ws.getD i default]
def bitsW : W3 → List Ex
  | .const n => (List.range 3).map fun i => constE (bitI n i)
  | .var n => (List.range 3).map fun i => varE (n * 3 + (i : Nat))
  | .op k a b => (List.range 3).map (opBit k (bitsW a) (bitsW b))
theorem bitsW_len (w : W3) : (bitsW w).length = 3 := by cases w <;> simp [bitsW]
def valW (env : List Int) : W3 → Int
  | .const n => n
  | .var n => env.getD n.toNat 0
  | .op k a b => if k = 3 then (valW env a + valW env b) % 8 else if k = 4 then bitsV .and .i64 (valW env a) (valW env b) else min (valW env a) (valW env b)
/-! How large the expressions are -/
/-- What is asked of an expression of a word. -/
structure Fine (S D : Nat) (e : Ex) : Prop where
  right : rightE e = true
  most : mostE e ≤ 11
  size : sizeE e ≤ S
  depth : depthE e ≤ D
theorem Fine.mono {S D S' D' : Nat} {e : Ex} (h : Fine S D e) (hs : S ≤ S') (hd : D ≤ D') : Fine S' D' e := ⟨h.right, h.most, Nat.le_trans h.size hs, Nat.le_trans h.depth hd⟩
theorem Fine.const {n : Int} (h0 : 0 ≤ n) (h1 : n ≤ 1) : Fine 1 1 (constE n) := by
  refine ⟨?_, ?_, ?_, ?_⟩
  · simp [constE, rightE, numOK, arity, rightL]; omega
  · simp [constE, mostE, mostL]
  · simp [constE, sizeE, sizeL]
  · simp [constE, depthE, depthL]
theorem Fine.var {n : Int} (h0 : 0 ≤ n) (h1 : n ≤ 11) : Fine 1 1 (varE n) := by
  refine ⟨?_, ?_, ?_, ?_⟩
  · simp [varE, rightE, numOK, arity, rightL]; omega
  · simp [varE, mostE, mostL]; omega
  · simp [varE, sizeE, sizeL]
  · simp [varE, depthE, depthL]
theorem Fine.node1 {S D : Nat} {a : Ex} (h : Fine S D a) : Fine (1 + S) (1 + D) (nodeE 3 [a]) := by
  obtain ⟨h1, h2, h3, h4⟩ := h
  refine ⟨?_, ?_, ?_, ?_⟩
  · simp [nodeE, rightE, numOK, arity, rightL, h1]
  · simp only [nodeE, mostE, mostL, Int.reduceEq, ↓reduceIte]; omega
  · simp only [nodeE, sizeE, sizeL]; omega
  · simp only [nodeE, depthE, depthL]; omega
theorem Fine.node2 {k : Int} {S D S' D' : Nat} {a b : Ex} (hk : k = 4 ∨ k = 5 ∨ k = 6) (h : Fine S D a) (h' : Fine S' D' b) : Fine (1 + S + S') (1 + max D D') (nodeE k [a, b]) := by
  obtain ⟨h1, h2, h3, h4⟩ := h
  obtain ⟨g1, g2, g3, g4⟩ := h'
  refine ⟨?_, ?_, ?_, ?_⟩
  · rcases hk with rfl | rfl | rfl <;> simp [nodeE, rightE, numOK, arity, rightL, h1, g1]
  · simp only [nodeE, mostE, mostL]; rw [if_neg (by omega)]; omega
  · simp only [nodeE, sizeE, sizeL]; omega
  · simp only [nodeE, depthE, depthL]; omega
theorem Fine.node3 {S D S' D' S2 D2 : Nat} {a b c : Ex} (h : Fine S D a) (h' : Fine S' D' b) (h2 : Fine S2 D2 c) : Fine (1 + S + S' + S2) (1 + max D (max D' D2)) (nodeE 7 [a, b, c]) := by
  obtain ⟨h1, h2', h3, h4⟩ := h
  obtain ⟨g1, g2, g3, g4⟩ := h'
  obtain ⟨k1, k2, k3, k4⟩ := h2
  refine ⟨?_, ?_, ?_, ?_⟩
  · simp [nodeE, rightE, numOK, arity, rightL, h1, g1, k1]
  · simp only [nodeE, mostE, mostL, Int.reduceEq, ↓reduceIte]; omega
  · simp only [nodeE, sizeE, sizeL]; omega
  · simp only [nodeE, depthE, depthL]; omega
section
variable {us ws : List Ex} {S D : Nat}
theorem less_fine (hu : ∀ e ∈ us, Fine S D e) (hw : ∀ e ∈ ws, Fine S D e) (hlu : us.length = 3) (hlw : ws.length = 3) : ∀ i, i ≤ 3 → Fine (1 + i * (6 + 4 * S)) (D + 2 + 2 * i) (lessE us ws i) := by
  intro i
  induction i with
  | zero => intro _; exact (Fine.const (by omega) (by omega)).mono (by omega) (by omega)
  | succ i ih =>
    intro hi
    have hx := hu _ (getD_mem default (by omega : i < us.length))
    have hy := hw _ (getD_mem default (by omega : i < ws.length))
    have hl := ih (by omega)
    have h1 := Fine.node2 (k := 5) (by simp) (Fine.node2 (k := 4) (by simp) hx.node1 hy) (Fine.node2 (k := 4) (by simp) (Fine.node2 (k := 6) (by simp) hx hy).node1 hl)
    refine h1.mono ?_ ?_
    · rw [Nat.add_mul]; omega
    · omega
theorem carry_fine (hu : ∀ e ∈ us, Fine S D e) (hw : ∀ e ∈ ws, Fine S D e) (hlu : us.length = 3) (hlw : ws.length = 3) : ∀ i, i ≤ 3 → Fine (1 + i * (4 + 4 * S)) (D + 2 + 2 * i) (carryE us ws i) := by
  intro i
  induction i with
  | zero => intro _; exact (Fine.const (by omega) (by omega)).mono (by omega) (by omega)
  | succ i ih =>
    intro hi
    have hx := hu _ (getD_mem default (by omega : i < us.length))
    have hy := hw _ (getD_mem default (by omega : i < ws.length))
    have hl := ih (by omega)
    have h1 := Fine.node2 (k := 5) (by simp) (Fine.node2 (k := 4) (by simp) hx hy) (Fine.node2 (k := 4) (by simp) hl (Fine.node2 (k := 6) (by simp) hx hy))
    refine h1.mono ?_ ?_
    · rw [Nat.add_mul]; omega
    · omega
theorem opBit_fine {k : Int} (hu : ∀ e ∈ us, Fine S D e) (hw : ∀ e ∈ ws, Fine S D e) (hlu : us.length = 3) (hlw : ws.length = 3) {i : Nat} (hi : i < 3) : Fine (20 + 14 * S) (D + 10) (opBit k us ws i) := by
  have hx := hu _ (getD_mem default (by omega : i < us.length))
  have hy := hw _ (getD_mem default (by omega : i < ws.length))
  unfold opBit
  split
  · have := carry_fine hu hw hlu hlw i (by omega)
    have h2 := Fine.node2 (k := 6) (by simp) (Fine.node2 (k := 6) (by simp) hx hy) this
    have h3 : i * (4 + 4 * S) ≤ 2 * (4 + 4 * S) := Nat.mul_le_mul_right _ (by omega)
    exact h2.mono (by omega) (by omega)
  split
  · exact (Fine.node2 (k := 4) (by simp) hx hy).mono (by omega) (by omega)
  · have := less_fine hu hw hlu hlw 3 (by omega)
    exact (Fine.node3 this hx hy).mono (by omega) (by omega)
end
def sbW : Nat → Nat
  | 0 => 1
  | 1 => 1
  | d + 2 => 20 + 14 * sbW (d + 1)
theorem bitI_small : ((List.range 8).all fun x => (List.range 3).all fun i => decide (0 ≤ bitI (x : Int) i) && decide (bitI (x : Int) i ≤ 1)) = true := by kernel_rfl
theorem bitI_in {x : Int} {i : Nat} (h0 : 0 ≤ x) (h1 : x ≤ 7) (hi : i < 3) : 0 ≤ bitI x i ∧ bitI x i ≤ 1 := by
  have h := List.all_eq_true.1 bitI_small x.toNat (List.mem_range.2 (by omega))
  have h2 := List.all_eq_true.1 h i (List.mem_range.2 hi)
  rw [show ((x.toNat : Nat) : Int) = x by omega] at h2
  simpa using h2
theorem bits_fine : ∀ (w : W3) (d : Nat), okW w d → ∀ e ∈ bitsW w, Fine (sbW d) (10 * d) e := by
  intro w
  induction w with
  | const n =>
    intro d h e he
    obtain ⟨h1, h2, h3⟩ := h
    simp only [bitsW, List.mem_map, List.mem_range] at he
    obtain ⟨i, hi, rfl⟩ := he
    have := bitI_in h2 h3 hi
    refine (Fine.const this.1 this.2).mono ?_ (by omega)
    match d, h1 with
    | 1, _ => exact Nat.le_refl _
    | d + 2, _ => simp only [sbW]; omega
  | var n =>
    intro d h e he
    obtain ⟨h1, h2, h3⟩ := h
    simp only [bitsW, List.mem_map, List.mem_range] at he
    obtain ⟨i, hi, rfl⟩ := he
    refine (Fine.var (by omega) (by omega)).mono ?_ (by omega)
    match d, h1 with
    | 1, _ => exact Nat.le_refl _
    | d + 2, _ => simp only [sbW]; omega
  | op k a b iha ihb =>
    intro d h e he
    obtain ⟨h1, h2, h3, h4, h5⟩ := h
    simp only [bitsW, List.mem_map, List.mem_range] at he
    obtain ⟨i, hi, rfl⟩ := he
    match d, h1 with
    | d + 2, _ =>
      have := opBit_fine (k := k) (iha _ h4) (ihb _ h5) (bitsW_len a) (bitsW_len b) hi
      rw [show d + 2 - 1 = d + 1 by omega] at this
      simp only [sbW]
      exact this.mono (by omega) (by omega)
/-! What they tell -/
def lessB (x y : Int) : Nat → Bool
  | 0 => false
  | i + 1 => (!B3 x i && B3 y i) || (!(B3 x i != B3 y i) && lessB x y i)
def carryB (x y : Int) : Nat → Bool
  | 0 => false
  | i + 1 => (B3 x i && B3 y i) || (carryB x y i && (B3 x i != B3 y i))
def opB (k : Int) (x y : Int) (i : Nat) : Bool := if k = 3 then ((B3 x i != B3 y i) != carryB x y i) else if k = 4 then B3 x i && B3 y i else if lessB x y 3 then B3 x i else B3 y i
def opV (k x y : Int) : Int := if k = 3 then (x + y) % 8 else if k = 4 then bitsV .and .i64 x y else min x y
theorem op_small : ([3, 4, 5].all fun k => (List.range 8).all fun x => (List.range 8).all fun y => (List.range 3).all fun i => (opB (k : Int) (x : Int) (y : Int) i == B3 (opV k x y) i) && decide (0 ≤ opV k x y) && decide (opV k x y ≤ 7)) = true := by kernel_rfl
theorem op_in {k x y : Int} {i : Nat} (hk : 3 ≤ k ∧ k ≤ 5) (hx : 0 ≤ x ∧ x ≤ 7) (hy : 0 ≤ y ∧ y ≤ 7) (hi : i < 3) : opB k x y i = B3 (opV k x y) i ∧ 0 ≤ opV k x y ∧ opV k x y ≤ 7 := by
  have h := List.all_eq_true.1 op_small k (by have : k = 3 ∨ k = 4 ∨ k = 5 := by omega
                                              rcases this with rfl | rfl | rfl <;> simp)
  have h2 := List.all_eq_true.1 h x.toNat (List.mem_range.2 (by omega))
  have h3 := List.all_eq_true.1 h2 y.toNat (List.mem_range.2 (by omega))
  have h4 := List.all_eq_true.1 h3 i (List.mem_range.2 hi)
  rw [show ((x.toNat : Nat) : Int) = x by omega, show ((y.toNat : Nat) : Int) = y by omega] at h4
  simpa [and_assoc] using h4
theorem valW_op (env : List Int) (k : Int) (a b : W3) : valW env (.op k a b) = opV k (valW env a) (valW env b) := rfl
theorem evE_node (bs : List Bool) (k : Int) (ks : List Ex) (hk : 3 ≤ k) : evE bs (nodeE k ks) = (if k = 3 then !((evL bs ks).getD 0 false) else if k = 4 then (evL bs ks).getD 0 false && (evL bs ks).getD 1 false else if k = 5 then (evL bs ks).getD 0 false || (evL bs ks).getD 1 false else if k = 6 then (evL bs ks).getD 0 false != (evL bs ks).getD 1 false else if (evL bs ks).getD 0 false then (evL bs ks).getD 1 false else (evL bs ks).getD 2 false) := by
  simp only [nodeE, evE]
  rw [if_neg (by omega), if_neg (by omega)]
theorem evE_const (bs : List Bool) (n : Int) : evE bs (constE n) = decide (n = 1) := by simp [constE, evE]
theorem evE_var (bs : List Bool) (n : Int) : evE bs (varE n) = bs.getD n.toNat false := by simp [varE, evE]
section
variable {us ws : List Ex} {bs : List Bool} {x y : Int}
theorem less_ev (hu : ∀ i, i < 3 → evE bs (us.getD i default) = B3 x i) (hw : ∀ i, i < 3 → evE bs (ws.getD i default) = B3 y i) : ∀ i, i ≤ 3 → evE bs (lessE us ws i) = lessB x y i := by
  intro i
  induction i with
  | zero => intro _; simp [lessE, evE_const, lessB]
  | succ i ih =>
    intro hi
    simp only [lessE, evE_node _ 5 _ (by decide), evE_node _ 4 _ (by decide), evE_node _ 3 _ (by decide), evE_node _ 6 _ (by decide), evL, List.getD_cons_zero, List.getD_cons_succ, Int.reduceEq, ↓reduceIte, hu i (by omega), hw i (by omega), ih (by omega), lessB]
theorem carry_ev (hu : ∀ i, i < 3 → evE bs (us.getD i default) = B3 x i) (hw : ∀ i, i < 3 → evE bs (ws.getD i default) = B3 y i) : ∀ i, i ≤ 3 → evE bs (carryE us ws i) = carryB x y i := by
  intro i
  induction i with
  | zero => intro _; simp [carryE, evE_const, carryB]
  | succ i ih =>
    intro hi
    simp only [carryE, evE_node _ 5 _ (by decide), evE_node _ 4 _ (by decide), evE_node _ 3 _ (by decide), evE_node _ 6 _ (by decide), evL, List.getD_cons_zero, List.getD_cons_succ, Int.reduceEq, ↓reduceIte, hu i (by omega), hw i (by omega), ih (by omega), carryB]
theorem opBit_ev (hu : ∀ i, i < 3 → evE bs (us.getD i default) = B3 x i) (hw : ∀ i, i < 3 → evE bs (ws.getD i default) = B3 y i) (k : Int) {i : Nat} (hi : i < 3) : evE bs (opBit k us ws i) = opB k x y i := by
  unfold opBit opB
  split
  · simp only [evE_node _ 6 _ (by decide), evL, List.getD_cons_zero, List.getD_cons_succ, Int.reduceEq, ↓reduceIte, hu i hi, hw i hi, carry_ev hu hw i (by omega)]
  split
  · simp only [evE_node _ 4 _ (by decide), evL, List.getD_cons_zero, List.getD_cons_succ, Int.reduceEq, ↓reduceIte, hu i hi, hw i hi]
  · simp only [evE_node _ 7 _ (by decide), evL, List.getD_cons_zero, List.getD_cons_succ, Int.reduceEq, ↓reduceIte, hu i hi, hw i hi, less_ev hu hw 3 (by omega)]
end
/-- The bits of a word tell its value. -/
theorem bits_ev {env : List Int} {bs : List Bool} (he : ∀ n, n < 4 → 0 ≤ env.getD n 0 ∧ env.getD n 0 ≤ 7) (hb : ∀ n, n < 4 → ∀ i, i < 3 → bs.getD (n * 3 + i) false = B3 (env.getD n 0) i) :
    ∀ (w : W3) (d : Nat), okW w d → (0 ≤ valW env w ∧ valW env w ≤ 7) ∧ ∀ i, i < 3 → evE bs ((bitsW w).getD i default) = B3 (valW env w) i := by
  intro w
  induction w with
  | const n =>
    intro d h
    obtain ⟨h1, h2, h3⟩ := h
    refine ⟨⟨h2, h3⟩, fun i hi => ?_⟩
    have : (bitsW (.const n)).getD i default = constE (bitI n i) := by simp [bitsW, List.getD, hi]
    rw [this, evE_const]; rfl
  | var n =>
    intro d h
    obtain ⟨h1, h2, h3⟩ := h
    refine ⟨he _ (by omega), fun i hi => ?_⟩
    have : (bitsW (.var n)).getD i default = varE (n * 3 + (i : Nat)) := by simp [bitsW, List.getD, hi]
    rw [this, evE_var, show (n * 3 + (i : Nat)).toNat = n.toNat * 3 + i by omega]
    exact hb _ (by omega) i hi
  | op k a b iha ihb =>
    intro d h
    obtain ⟨h1, h2, h3, h4, h5⟩ := h
    obtain ⟨va, ea⟩ := iha _ h4
    obtain ⟨vb, eb⟩ := ihb _ h5
    refine ⟨by rw [valW_op]; exact (op_in (i := 0) ⟨h2, h3⟩ va vb (by omega)).2, fun i hi => ?_⟩
    have : (bitsW (.op k a b)).getD i default = opBit k (bitsW a) (bitsW b) i := by simp [bitsW, List.getD, hi]
    rw [this, opBit_ev ea eb k hi, valW_op]
    exact (op_in ⟨h2, h3⟩ va vb hi).1
/-- Bits and their number. -/
theorem num_small : ((List.range 8).all fun x => decide ((((0 * 2 + (if B3 (x : Int) 2 then 1 else 0)) * 2 + (if B3 (x : Int) 1 then 1 else 0)) * 2 + (if B3 (x : Int) 0 then 1 else 0) : Int) = x)
    && (B3 (x : Int) 0 == decide ((x : Int).tmod 2 = 1)) && (B3 (x : Int) 1 == decide (((x : Int).tdiv 2).tmod 2 = 1)) && (B3 (x : Int) 2 == decide ((x : Int).tdiv 4 = 1))) = true := by kernel_rfl
theorem num_in {x : Int} (h0 : 0 ≤ x) (h1 : x ≤ 7) : (((0 * 2 + (if B3 x 2 then 1 else 0)) * 2 + (if B3 x 1 then 1 else 0)) * 2 + (if B3 x 0 then 1 else 0) : Int) = x ∧ B3 x 0 = decide (x.tmod 2 = 1) ∧ B3 x 1 = decide ((x.tdiv 2).tmod 2 = 1) ∧ B3 x 2 = decide (x.tdiv 4 = 1) := by
  have h := List.all_eq_true.1 num_small x.toNat (List.mem_range.2 (by omega))
  rw [show ((x.toNat : Nat) : Int) = x by omega] at h
  simp only [Bool.and_eq_true, decide_eq_true_eq, beq_iff_eq] at h
  exact ⟨h.1.1.1, h.1.1.2, h.1.2, h.2⟩
theorem and7_small : ((List.range 15).all fun x => bitsV .and .i64 (x : Int) 7 == (x : Int) % 8) = true := by kernel_rfl
theorem and7 {x : Int} (h0 : 0 ≤ x) (h1 : x ≤ 14) : bitsV .and .i64 x 7 = x % 8 := by
  have h := List.all_eq_true.1 and7_small x.toNat (List.mem_range.2 (by omega))
  rw [show ((x.toNat : Nat) : Int) = x by omega] at h
  simpa using h
end Go.Proofs.Ytlidjjjpjndneaa.Lg
