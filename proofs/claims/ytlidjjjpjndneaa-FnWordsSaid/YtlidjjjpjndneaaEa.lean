/- Expressions, and what is told of them. -/
import Derived.Test.YtlidjjjpjndneaaDb
set_option linter.unusedSimpArgs false
set_option linter.unusedVariables false
namespace Go.Proofs.Ytlidjjjpjndneaa.Lg
open Go
inductive Ex where
  | mk (k n : Int) (ks : List Ex)
instance : Inhabited Ex := ⟨.mk 0 0 []⟩
mutual
def exV : Ex → V
  | .mk k n ks => .agg [.int .i64 k, .int .i64 n, .isl false 3 (exsW ks)]
def exsW : List Ex → List V
  | [] => []
  | e :: r => exV e :: exsW r
end
def exsV (es : List Ex) : List V := es.map exV
theorem exsW_eq (es : List Ex) : exsW es = exsV es := by
  induction es with
  | nil => rfl
  | cons e r ih => simp only [exsW, exsV, List.map_cons]; rw [ih]; rfl
/-- The parts of an expression. -/
def exC : Ex → List V
  | .mk k n ks => [.int .i64 k, .int .i64 n, .isl false 3 (exsV ks)]
theorem exV_mk (k n : Int) (ks : List Ex) : exV (.mk k n ks) = .agg [.int .i64 k, .int .i64 n, .isl false 3 (exsV ks)] := by rw [exV, exsW_eq]
theorem exV_agg (e : Ex) : exV e = .agg (exC e) := by obtain ⟨k, n, ks⟩ := e; rw [exV_mk]; rfl
theorem agg_exC (e : Ex) : V.agg (exC e) = exV e := (exV_agg e).symm
theorem cells_exV (e : Ex) : (exV e).cells = exC e := by rw [exV_agg]; rfl
theorem exC_len (e : Ex) : (exC e).length = 3 := by obtain ⟨k, n, ks⟩ := e; rfl
theorem exC_take (e : Ex) : (exC e).take 3 = exC e := by obtain ⟨k, n, ks⟩ := e; rfl
theorem exC_mk (k n : Int) (ks : List Ex) : exC (.mk k n ks) = [.int .i64 k, .int .i64 n, .isl false 3 (exsV ks)] := rfl
theorem exC_one (e : Ex) : ∀ c ∈ exC e, c.one = true := by obtain ⟨k, n, ks⟩ := e; simp [exC, V.one]
theorem exsV_len (es : List Ex) : (exsV es).length = es.length := by simp [exsV]
theorem exsV_ok (es : List Ex) : ∀ y ∈ exsV es, y.cells.length = 3 ∧ ∀ c ∈ y.cells, c.one = true := by
  intro y hy; simp only [exsV, List.mem_map] at hy; obtain ⟨e, _, rfl⟩ := hy
  rw [cells_exV]; exact ⟨exC_len e, exC_one e⟩
section
variable {P : Program} {Γ : St} {f : FuncId} {n : Nat} {Q : V → St → Prop} {k : List It} {T : Ts} {g : GI} {l : List GI} {σ : St}
theorem stepW_iaddr_exs {ex : Bool} {es : List Ex} {kk : IntKind} {m : Int} (h0 : 0 ≤ m) (h1 : m < es.length) : stepW P Γ f n Q (.iaddr 3 (.c (.isl ex 3 (exsV es))) (.c (.int kk m))) g l k T σ = W P Γ f n Q (.ops l :: k) (putT T g.d (.iptr (exC (es.getD m.toNat default)))) σ := by
  rw [← cells_exV]; exact stepW_iaddr_map h0 h1
theorem stepK_iaddr_exs {K : V → St → Prop} {ex : Bool} {es : List Ex} {kk : IntKind} {m : Int} (h0 : 0 ≤ m) (h1 : m < es.length) : stepK (.iaddr 3 (.c (.isl ex 3 (exsV es))) (.c (.int kk m))) σ K = K (.iptr (exC (es.getD m.toNat default))) σ := by
  rw [← cells_exV]; exact stepK_iaddr_map h0 h1
end
attribute [go_sem] stepW_iaddr_exs stepK_iaddr_exs exsV_len exC_len exC_take agg_exC cells_exV exC_mk
/-- Induction over expressions. -/
theorem Ex.ind {p : Ex → Prop} (h : ∀ k n ks, (∀ e ∈ ks, p e) → p (.mk k n ks)) : ∀ e, p e := by
  intro e
  exact Ex.rec (motive_1 := p) (motive_2 := fun l => ∀ e ∈ l, p e) (fun k n ks ih => h k n ks ih) (fun e he => by cases he) (fun a r ha hr e he => by
    rcases List.mem_cons.1 he with rfl | he
    · exact ha
    · exact hr e he) e
/-- How many Kids a kind has. -/
def arity (k : Int) : Int := if k = 1 ∨ k = 2 then 0 else if k = 3 then 1 else if k = 4 ∨ k = 5 ∨ k = 6 then 2 else if k = 7 then 3 else -1
def numOK (k n : Int) : Bool := if k = 1 then decide (0 ≤ n) && decide (n ≤ 11) else if k = 2 then decide (0 ≤ n) && decide (n ≤ 1) else decide (n = 0)
mutual
def sizeE : Ex → Nat
  | .mk _ _ ks => 1 + sizeL ks
def sizeL : List Ex → Nat
  | [] => 0
  | e :: r => sizeE e + sizeL r
end
mutual
def depthE : Ex → Nat
  | .mk _ _ ks => 1 + depthL ks
def depthL : List Ex → Nat
  | [] => 0
  | e :: r => max (depthE e) (depthL r)
end
mutual
/-- Kinds, numbers and Kids are right. -/
def rightE : Ex → Bool
  | .mk k n ks => numOK k n && decide ((ks.length : Int) = arity k) && rightL ks
def rightL : List Ex → Bool
  | [] => true
  | e :: r => rightE e && rightL r
end
mutual
def mostE : Ex → Int
  | .mk k n ks => max (if k = 1 then n else -1) (mostL ks)
def mostL : List Ex → Int
  | [] => -1
  | e :: r => max (mostE e) (mostL r)
end
theorem rightL_all (ks : List Ex) : rightL ks = ks.all rightE := by
  induction ks with
  | nil => rfl
  | cons e r ih => simp only [rightL, List.all_cons, ih]
theorem sizeL_sum (ks : List Ex) : sizeL ks = (ks.map sizeE).sum := by
  induction ks with
  | nil => rfl
  | cons e r ih => simp only [sizeL, List.map_cons, List.sum_cons, ih]
theorem depthL_mem {ks : List Ex} {e : Ex} (h : e ∈ ks) : depthE e ≤ depthL ks := by
  induction ks with
  | nil => cases h
  | cons a r ih =>
    simp only [depthL]
    rcases List.mem_cons.1 h with rfl | h
    · omega
    · have := ih h; omega
theorem mostL_mem {ks : List Ex} {e : Ex} (h : e ∈ ks) : mostE e ≤ mostL ks := by
  induction ks with
  | nil => cases h
  | cons a r ih =>
    simp only [mostL]
    rcases List.mem_cons.1 h with rfl | h
    · omega
    · have := ih h; omega
theorem sizeL_mem {ks : List Ex} {e : Ex} (h : e ∈ ks) : sizeE e ≤ sizeL ks := by
  induction ks with
  | nil => cases h
  | cons a r ih =>
    simp only [sizeL]
    rcases List.mem_cons.1 h with rfl | h
    · omega
    · have := ih h; omega
theorem sizeE_pos (e : Ex) : 0 < sizeE e := by obtain ⟨k, n, ks⟩ := e; simp only [sizeE]; omega
theorem mostE_ge (e : Ex) : -1 ≤ mostE e := by
  obtain ⟨k, n, ks⟩ := e
  have : ∀ l, -1 ≤ mostL l := by
    intro l
    induction l with
    | nil => simp [mostL]
    | cons a r ih => simp only [mostL]; omega
  simp only [mostE]; have := this ks; omega
mutual
def evE (bs : List Bool) : Ex → Bool
  | .mk k n ks =>
    let vs := evL bs ks
    if k = 1 then bs.getD n.toNat false else if k = 2 then decide (n = 1) else if k = 3 then !(vs.getD 0 false) else if k = 4 then vs.getD 0 false && vs.getD 1 false else if k = 5 then vs.getD 0 false || vs.getD 1 false
    else if k = 6 then vs.getD 0 false != vs.getD 1 false else if vs.getD 0 false then vs.getD 1 false else vs.getD 2 false
def evL (bs : List Bool) : List Ex → List Bool
  | [] => []
  | e :: r => evE bs e :: evL bs r
end
theorem evL_map (bs : List Bool) (ks : List Ex) : evL bs ks = ks.map (evE bs) := by
  induction ks with
  | nil => rfl
  | cons e r ih => simp only [evL, List.map_cons, ih]
theorem evL_getD {bs : List Bool} {ks : List Ex} {i : Nat} (h : i < ks.length) : (evL bs ks).getD i false = evE bs (ks.getD i default) := by
  rw [evL_map]; simp [List.getD, h]
/-- Nodes are counted, up to the first that is not right. -/
def countL (g : Ex → Int → Bool × Int) : List Ex → Int → Bool × Int
  | [], c => (true, c)
  | e :: r, c => bif (g e c).1 then countL g r (g e c).2 else (false, (g e c).2)
def countP : Nat → Ex → Int → Bool × Int
  | 0, _, c => (false, c + 1)
  | f + 1, .mk k n ks, c => if c + 1 > 400 ∨ (ks.length : Int) ≠ arity k ∨ numOK k n = false then (false, c + 1) else countL (countP f) ks (c + 1)
theorem countL_bound {g : Ex → Int → Bool × Int} (hg : ∀ e c, 0 ≤ c → c ≤ 400 → c ≤ (g e c).2 ∧ (g e c).2 ≤ 401 ∧ ((g e c).1 = true → (g e c).2 ≤ 400)) : ∀ (ks : List Ex) (c : Int), 0 ≤ c → c ≤ 400 → c ≤ (countL g ks c).2 ∧ (countL g ks c).2 ≤ 401 ∧ ((countL g ks c).1 = true → (countL g ks c).2 ≤ 400) := by
  intro ks
  induction ks with
  | nil => intro c h0 h1; simp only [countL]; omega
  | cons e r ih =>
    intro c h0 h1
    have h := hg e c h0 h1
    simp only [countL]
    cases h2 : (g e c).1 with
    | false => simp only [cond_false]; exact ⟨h.1, h.2.1, fun h => by cases h⟩
    | true =>
      simp only [cond_true]
      have := ih (g e c).2 (by omega) (h.2.2 h2)
      exact ⟨by omega, this.2.1, this.2.2⟩
theorem countP_bound : ∀ (f : Nat) (e : Ex) (c : Int), 0 ≤ c → c ≤ 400 → c ≤ (countP f e c).2 ∧ (countP f e c).2 ≤ 401 ∧ ((countP f e c).1 = true → (countP f e c).2 ≤ 400) := by
  intro f
  induction f with
  | zero => intro e c h0 h1; simp only [countP]; exact ⟨by omega, by omega, fun h => by cases h⟩
  | succ f ih =>
    intro e c h0 h1
    obtain ⟨k, n, ks⟩ := e
    simp only [countP]
    split
    · exact ⟨by simp only; omega, by simp only; omega, fun h => by cases h⟩
    · rename_i h
      have := countL_bound ih ks (c + 1) (by omega) (by omega)
      exact ⟨by omega, this.2.1, this.2.2⟩
def isExB (e : Ex) : Bool := (countP 40 e 0).1
/-- An expression is right. -/
def okE (e : Ex) : Bool := rightE e && decide (sizeE e ≤ 400) && decide (depthE e ≤ 40)
theorem countP_right : ∀ (f : Nat) (e : Ex) (c : Int), 0 ≤ c → c ≤ 400 → ((countP f e c).1 = true ↔ rightE e = true ∧ c + sizeE e ≤ 400 ∧ depthE e ≤ f) ∧ ((countP f e c).1 = true → (countP f e c).2 = c + sizeE e) := by
  intro f
  induction f with
  | zero =>
    intro e c _ _
    obtain ⟨k, n, ks⟩ := e
    simp only [countP, Bool.false_eq_true, false_iff, false_implies, and_true, depthE]
    rintro ⟨_, _, h⟩; omega
  | succ f ih =>
    intro e c h0 h1
    obtain ⟨k, n, ks⟩ := e
    have hL : ∀ (ks : List Ex) (c : Int), 0 ≤ c → c ≤ 400 → ((countL (countP f) ks c).1 = true ↔ rightL ks = true ∧ c + sizeL ks ≤ 400 ∧ depthL ks ≤ f) ∧ ((countL (countP f) ks c).1 = true → (countL (countP f) ks c).2 = c + sizeL ks) := by
      intro ks
      induction ks with
      | nil => intro c h0 h1; simp [countL, rightL, sizeL, depthL]; omega
      | cons e r ihr =>
        intro c h0 h1
        obtain ⟨a1, a2⟩ := ih e c h0 h1
        simp only [countL, rightL, sizeL, depthL, Bool.and_eq_true]
        cases h2 : (countP f e c).1 with
        | false =>
          have hn : ¬ (rightE e = true ∧ c + sizeE e ≤ 400 ∧ depthE e ≤ f) := fun h => by have := a1.2 h; rw [h2] at this; cases this
          simp only [cond_false, Bool.false_eq_true, false_iff, false_implies, and_true]
          rintro ⟨⟨q1, q2⟩, q3, q4⟩
          exact hn ⟨q1, by omega, by omega⟩
        | true =>
          obtain ⟨q1, q2, q3⟩ := a1.1 h2
          have e2 := a2 h2
          simp only [cond_true, e2]
          obtain ⟨b1, b2⟩ := ihr (c + sizeE e) (by omega) (by omega)
          refine ⟨b1.trans ⟨fun ⟨r1, r2, r3⟩ => ⟨⟨q1, r1⟩, by omega, by omega⟩, fun ⟨⟨_, r1⟩, r2, r3⟩ => ⟨r1, by omega, by omega⟩⟩, fun h => by rw [b2 h]; omega⟩
    simp only [countP, rightE, sizeE, depthE, Bool.and_eq_true, decide_eq_true_eq]
    split
    · rename_i h
      simp only [Bool.false_eq_true, false_iff, false_implies, and_true]
      rintro ⟨⟨⟨q1, q2⟩, q3⟩, q4, q5⟩
      rcases h with h | h | h
      · omega
      · exact h q2
      · rw [q1] at h; cases h
    · rename_i h
      simp only [not_or, Classical.not_not, Bool.not_eq_false] at h
      obtain ⟨g1, g2, g3⟩ := h
      obtain ⟨b1, b2⟩ := hL ks (c + 1) (by omega) (by omega)
      refine ⟨b1.trans ⟨fun ⟨r1, r2, r3⟩ => ⟨⟨⟨g3, g2⟩, r1⟩, by omega, by omega⟩, fun ⟨⟨_, r1⟩, r2, r3⟩ => ⟨r1, by omega, by omega⟩⟩, fun h => by rw [b2 h]; omega⟩
theorem isExB_ok (e : Ex) : isExB e = okE e := by
  have h := (countP_right 40 e 0 (by omega) (by omega)).1
  unfold isExB okE
  rw [Bool.eq_iff_iff, h]
  simp only [Bool.and_eq_true, decide_eq_true_eq]
  constructor
  · rintro ⟨a, b, c⟩; exact ⟨⟨a, by omega⟩, c⟩
  · rintro ⟨⟨a, b⟩, c⟩; exact ⟨a, by omega, c⟩
end Go.Proofs.Ytlidjjjpjndneaa.Lg
