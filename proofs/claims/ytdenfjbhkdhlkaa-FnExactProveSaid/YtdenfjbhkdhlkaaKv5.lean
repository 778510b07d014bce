/- What is told of the functions that are reached, as far as it is asked here. -/
import Derived.Test.YtdenfjbhkdhlkaaKv4
import Derived.KernelRfl
set_option linter.unusedSimpArgs false
set_option linter.unusedVariables false
namespace Go.Proofs.Ytdenfjbhkdhlkaa.Lg
open Go
section
inductive Ex where
 | mk (k n : Int) (ks : List Ex)
instance : Inhabited Ex := ⟨.mk 0 0 []⟩
mutual
def exV : Ex → V
 | .mk k n ks => .agg [.int .i64 k, .int .i64 n, .isl false 3 (exsW ks)]
def exsW : List Ex → List V
 | [] => []
 | e :: r => exV e :: exsW r
end
def exsV (es : List Ex) : List V := es.map exV
theorem exsW_eq (es : List Ex) : exsW es = exsV es := by
 induction es with
 | nil => rfl
 | cons e r ih => simp only [exsW, exsV, List.map_cons]; rw [ih]; rfl
/-- The parts of an expression. -/
def exC : Ex → List V
 | .mk k n ks => [.int .i64 k, .int .i64 n, .isl false 3 (exsV ks)]
theorem exV_mk (k n : Int) (ks : List Ex) : exV (.mk k n ks) = .agg [.int .i64 k, .int .i64 n, .isl false 3 (exsV ks)] := by rw [exV, exsW_eq]
theorem exV_agg (e : Ex) : exV e = .agg (exC e) := by obtain ⟨k, n, ks⟩ := e; rw [exV_mk]; rfl
theorem agg_exC (e : Ex) : V.agg (exC e) = exV e := (exV_agg e).symm
theorem cells_exV (e : Ex) : (exV e).cells = exC e := by rw [exV_agg]; rfl
theorem exC_len (e : Ex) : (exC e).length = 3 := by obtain ⟨k, n, ks⟩ := e; rfl
theorem exC_take (e : Ex) : (exC e).take 3 = exC e := by obtain ⟨k, n, ks⟩ := e; rfl
theorem exC_mk (k n : Int) (ks : List Ex) : exC (.mk k n ks) = [.int .i64 k, .int .i64 n, .isl false 3 (exsV ks)] := rfl
theorem exC_one (e : Ex) : ∀ c ∈ exC e, c.one = true := by obtain ⟨k, n, ks⟩ := e; simp [exC, V.one]
theorem exsV_len (es : List Ex) : (exsV es).length = es.length := by simp [exsV]
theorem exsV_ok (es : List Ex) : ∀ y ∈ exsV es, y.cells.length = 3 ∧ ∀ c ∈ y.cells, c.one = true := by
 intro y hy; simp only [exsV, List.mem_map] at hy; obtain ⟨e, _, rfl⟩ := hy
 rw [cells_exV]; exact ⟨exC_len e, exC_one e⟩
section
variable {P : Program} {Γ : St} {f : FuncId} {n : Nat} {Q : V → St → Prop} {k : List It} {T : Ts} {g : GI} {l : List GI} {σ : St}
theorem stepW_iaddr_exs {ex : Bool} {es : List Ex} {kk : IntKind} {m : Int} (h0 : 0 ≤ m) (h1 : m < es.length) : stepW P Γ f n Q (.iaddr 3 (.c (.isl ex 3 (exsV es))) (.c (.int kk m))) g l k T σ = W P Γ f n Q (.ops l :: k) (putT T g.d (.iptr (exC (es.getD m.toNat default)))) σ := by
 rw [← cells_exV]; exact stepW_iaddr_map h0 h1
theorem stepK_iaddr_exs {K : V → St → Prop} {ex : Bool} {es : List Ex} {kk : IntKind} {m : Int} (h0 : 0 ≤ m) (h1 : m < es.length) : stepK (.iaddr 3 (.c (.isl ex 3 (exsV es))) (.c (.int kk m))) σ K = K (.iptr (exC (es.getD m.toNat default))) σ := by
 rw [← cells_exV]; exact stepK_iaddr_map h0 h1
end
attribute [go_sem] stepW_iaddr_exs stepK_iaddr_exs exsV_len exC_len exC_take agg_exC cells_exV exC_mk
/-- Induction over expressions. -/
theorem Ex.ind {p : Ex → Prop} (h : ∀ k n ks, (∀ e ∈ ks, p e) → p (.mk k n ks)) : ∀ e, p e := by
 intro e
 exact Ex.rec (motive_1 := p) (motive_2 := fun l => ∀ e ∈ l, p e) (fun k n ks ih => h k n ks ih) (fun e he => by cases he) (fun a r ha hr e he => by
  rcases List.mem_cons.1 he with rfl | he
  ·exact ha
  ·exact hr e he) e
/-- How many Kids a kind has. -/
def arity (k : Int) : Int := if k = 1 ∨ k = 2 then 0 else if k = 3 then 1 else if k = 4 ∨ k = 5 ∨ k = 6 then 2 else if k = 7 then 3 else -1
def numOK (k n : Int) : Bool := if k = 1 then decide (0 ≤ n) && decide (n ≤ 11) else if k = 2 then decide (0 ≤ n) && decide (n ≤ 1) else decide (n = 0)
mutual
def sizeE : Ex → Nat
 | .mk _ _ ks => 1 + sizeL ks
def sizeL : List Ex → Nat
 | [] => 0
 | e :: r => sizeE e + sizeL r
end
mutual
def depthE : Ex → Nat
 | .mk _ _ ks => 1 + depthL ks
def depthL : List Ex → Nat
 | [] => 0
 | e :: r => max (depthE e) (depthL r)
end
mutual
/-- Kinds, numbers and Kids are right. -/
def rightE : Ex → Bool
 | .mk k n ks => numOK k n && decide ((ks.length : Int) = arity k) && rightL ks
def rightL : List Ex → Bool
 | [] => true
 | e :: r => rightE e && rightL r
end
mutual
def mostE : Ex → Int
 | .mk k n ks => max (if k = 1 then n else -1) (mostL ks)
def mostL : List Ex → Int
 | [] => -1
 | e :: r => max (mostE e) (mostL r)
end
theorem rightL_all (ks : List Ex) : rightL ks = ks.all rightE := by
 induction ks with
 | nil => rfl
 | cons e r ih => simp only [rightL, List.all_cons, ih]
theorem sizeL_sum (ks : List Ex) : sizeL ks = (ks.map sizeE).sum := by
 induction ks with
 | nil => rfl
 | cons e r ih => simp only [sizeL, List.map_cons, List.sum_cons, ih]
theorem depthL_mem {ks : List Ex} {e : Ex} (h : e ∈ ks) : depthE e ≤ depthL ks := by
 induction ks with
 | nil => cases h
 | cons a r ih =>
  simp only [depthL]
  rcases List.mem_cons.1 h with rfl | h
  ·omega
  ·have := ih h; omega
theorem mostL_mem {ks : List Ex} {e : Ex} (h : e ∈ ks) : mostE e ≤ mostL ks := by
 induction ks with
 | nil => cases h
 | cons a r ih =>
  simp only [mostL]
  rcases List.mem_cons.1 h with rfl | h
  ·omega
  ·have := ih h; omega
theorem sizeL_mem {ks : List Ex} {e : Ex} (h : e ∈ ks) : sizeE e ≤ sizeL ks := by
 induction ks with
 | nil => cases h
 | cons a r ih =>
  simp only [sizeL]
  rcases List.mem_cons.1 h with rfl | h
  ·omega
  ·have := ih h; omega
theorem sizeE_pos (e : Ex) : 0 < sizeE e := by obtain ⟨k, n, ks⟩ := e; simp only [sizeE]; omega
mutual
def evE (bs : List Bool) : Ex → Bool
 | .mk k n ks =>
  let vs := evL bs ks
  if k = 1 then bs.getD n.toNat false else if k = 2 then decide (n = 1) else if k = 3 then !(vs.getD 0 false) else if k = 4 then vs.getD 0 false && vs.getD 1 false else if k = 5 then vs.getD 0 false || vs.getD 1 false
  else if k = 6 then vs.getD 0 false != vs.getD 1 false else if vs.getD 0 false then vs.getD 1 false else vs.getD 2 false
def evL (bs : List Bool) : List Ex → List Bool
 | [] => []
 | e :: r => evE bs e :: evL bs r
end
/-- Nodes are counted, up to the first that is not right. -/
def countL (g : Ex → Int → Bool × Int) : List Ex → Int → Bool × Int
 | [], c => (true, c)
 | e :: r, c => bif (g e c).1 then countL g r (g e c).2 else (false, (g e c).2)
def countP : Nat → Ex → Int → Bool × Int
 | 0, _, c => (false, c + 1)
 | f + 1, .mk k n ks, c => if c + 1 > 400 ∨ (ks.length : Int) ≠ arity k ∨ numOK k n = false then (false, c + 1) else countL (countP f) ks (c + 1)
theorem countL_bound {g : Ex → Int → Bool × Int} (hg : ∀ e c, 0 ≤ c → c ≤ 400 → c ≤ (g e c).2 ∧ (g e c).2 ≤ 401 ∧ ((g e c).1 = true → (g e c).2 ≤ 400)) : ∀ (ks : List Ex) (c : Int), 0 ≤ c → c ≤ 400 → c ≤ (countL g ks c).2 ∧ (countL g ks c).2 ≤ 401 ∧ ((countL g ks c).1 = true → (countL g ks c).2 ≤ 400) := by
 intro ks
 induction ks with
 | nil => intro c h0 h1; simp only [countL]; omega
 | cons e r ih =>
  intro c h0 h1
  have h := hg e c h0 h1
  simp only [countL]
  cases h2 : (g e c).1 with
  | false => simp only [cond_false]; exact ⟨h.1, h.2.1, fun h => by cases h⟩
  | true =>
   simp only [cond_true]
   have := ih (g e c).2 (by omega) (h.2.2 h2)
   exact ⟨by omega, this.2.1, this.2.2⟩
theorem countP_bound : ∀ (f : Nat) (e : Ex) (c : Int), 0 ≤ c → c ≤ 400 → c ≤ (countP f e c).2 ∧ (countP f e c).2 ≤ 401 ∧ ((countP f e c).1 = true → (countP f e c).2 ≤ 400) := by
 intro f
 induction f with
 | zero => intro e c h0 h1; simp only [countP]; exact ⟨by omega, by omega, fun h => by cases h⟩
 | succ f ih =>
  intro e c h0 h1
  obtain ⟨k, n, ks⟩ := e
  simp only [countP]
  split
  ·exact ⟨by simp only; omega, by simp only; omega, fun h => by cases h⟩
  ·rename_i h
   have := countL_bound ih ks (c + 1) (by omega) (by omega)
   exact ⟨by omega, this.2.1, this.2.2⟩
def isExB (e : Ex) : Bool := (countP 40 e 0).1
/-- An expression is right. -/
def okE (e : Ex) : Bool := rightE e && decide (sizeE e ≤ 400) && decide (depthE e ≤ 40)
theorem countP_right : ∀ (f : Nat) (e : Ex) (c : Int), 0 ≤ c → c ≤ 400 → ((countP f e c).1 = true ↔ rightE e = true ∧ c + sizeE e ≤ 400 ∧ depthE e ≤ f) ∧ ((countP f e c).1 = true → (countP f e c).2 = c + sizeE e) := by
 intro f
 induction f with
 | zero =>
  intro e c _ _
  obtain ⟨k, n, ks⟩ := e
  simp only [countP, Bool.false_eq_true, false_iff, false_implies, and_true, depthE]
  rintro ⟨_, _, h⟩; omega
 | succ f ih =>
  intro e c h0 h1
  obtain ⟨k, n, ks⟩ := e
  have hL : ∀ (ks : List Ex) (c : Int), 0 ≤ c → c ≤ 400 → ((countL (countP f) ks c).1 = true ↔ rightL ks = true ∧ c + sizeL ks ≤ 400 ∧ depthL ks ≤ f) ∧ ((countL (countP f) ks c).1 = true → (countL (countP f) ks c).2 = c + sizeL ks) := by
   intro ks
   induction ks with
   | nil => intro c h0 h1; simp [countL, rightL, sizeL, depthL]; omega
   | cons e r ihr =>
    intro c h0 h1
    obtain ⟨a1, a2⟩ := ih e c h0 h1
    simp only [countL, rightL, sizeL, depthL, Bool.and_eq_true]
    cases h2 : (countP f e c).1 with
    | false =>
     have hn : ¬ (rightE e = true ∧ c + sizeE e ≤ 400 ∧ depthE e ≤ f) := fun h => by have := a1.2 h; rw [h2] at this; cases this
     simp only [cond_false, Bool.false_eq_true, false_iff, false_implies, and_true]
     rintro ⟨⟨q1, q2⟩, q3, q4⟩
     exact hn ⟨q1, by omega, by omega⟩
    | true =>
     obtain ⟨q1, q2, q3⟩ := a1.1 h2
     have e2 := a2 h2
     simp only [cond_true, e2]
     obtain ⟨b1, b2⟩ := ihr (c + sizeE e) (by omega) (by omega)
     refine ⟨b1.trans ⟨fun ⟨r1, r2, r3⟩ => ⟨⟨q1, r1⟩, by omega, by omega⟩, fun ⟨⟨_, r1⟩, r2, r3⟩ => ⟨r1, by omega, by omega⟩⟩, fun h => by rw [b2 h]; omega⟩
  simp only [countP, rightE, sizeE, depthE, Bool.and_eq_true, decide_eq_true_eq]
  split
  ·rename_i h
   simp only [Bool.false_eq_true, false_iff, false_implies, and_true]
   rintro ⟨⟨⟨q1, q2⟩, q3⟩, q4, q5⟩
   rcases h with h | h | h
   ·omega
   ·exact h q2
   ·rw [q1] at h; cases h
  ·rename_i h
   simp only [not_or, Classical.not_not, Bool.not_eq_false] at h
   obtain ⟨g1, g2, g3⟩ := h
   obtain ⟨b1, b2⟩ := hL ks (c + 1) (by omega) (by omega)
   refine ⟨b1.trans ⟨fun ⟨r1, r2, r3⟩ => ⟨⟨⟨g3, g2⟩, r1⟩, by omega, by omega⟩, fun ⟨⟨_, r1⟩, r2, r3⟩ => ⟨r1, by omega, by omega⟩⟩, fun h => by rw [b2 h]; omega⟩
theorem isExB_ok (e : Ex) : isExB e = okE e := by
 have h := (countP_right 40 e 0 (by omega) (by omega)).1
 unfold isExB okE
 rw [Bool.eq_iff_iff, h]
 simp only [Bool.and_eq_true, decide_eq_true_eq]
 constructor
 ·rintro ⟨a, b, c⟩; exact ⟨⟨a, by omega⟩, c⟩
 ·rintro ⟨⟨a, b⟩, c⟩; exact ⟨a, by omega, c⟩
end
section
attribute [local irreducible] SRun DS DRun
variable {Γ : St} {σ σ0 : St}
theorem arity_le (k : Int) : arity k ≤ 3 := by unfold arity; (repeat' split) <;> omega
end
section
attribute [local irreducible] SRun DS DRun
variable {Γ : St} {σ σ0 : St}
theorem le_under {τ τ' : St} {b : Nat} {c : List V} (h : ∀ d x, τ d = some x → τ' d = some x) : ∀ d x, upd τ b c d = some x → upd τ' b c d = some x := by
 intro d x hd
 by_cases e : d = b
 ·subst e; rw [upd_same] at hd ⊢; exact hd
 ·rw [upd_ne _ _ e] at hd ⊢; exact h _ _ hd
theorem countL_drop {g : Ex → Int → Bool × Int} {ks : List Ex} {i : Nat} {c : Int} (h : i < ks.length) : countL g (ks.drop i) c = bif (g (ks.getD i default) c).1 then countL g (ks.drop (i + 1)) (g (ks.getD i default) c).2 else (false, (g (ks.getD i default) c).2) := by
 rw [drop_cons default h]; rfl
theorem indexFuncE_ok {ex : Bool} {ks : List Ex} {F : FuncId} {caps : List V} {s : Int → St} {g : Ex → Int → Bool × Int} {c0 : Int} (hl : ks.length ≤ 2000000)
  (hg : ∀ e c, 0 ≤ c → c ≤ 400 → c ≤ (g e c).2 ∧ (g e c).2 ≤ 401 ∧ ((g e c).1 = true → (g e c).2 ≤ 400)) (h0 : 0 ≤ c0) (h1 : c0 ≤ 400)
  (hp : ∀ e ∈ ks, ∀ c, 0 ≤ c → c ≤ 400 → Ret Try.prog Γ F (exV e :: caps) (s c) (.bool (!(g e c).1)) (s (g e c).2)) :
  ACalls Try.prog Γ 96 [.isl ex 3 (exsV ks), .fn F caps] (s c0) fun r σ' => ∃ i : Int, decide (i ≥ 0) = (!(countL g ks c0).1) ∧ r = .int .i64 i ∧ σ' = s (countL g ks c0).2 := by
 refine acalls_W c96_ok rfl ?_
 simp (disch := omega) only [c96, go_sem]
 refine W_loopC (α := Nat × Int) (fun p => p.1 ≤ ks.length ∧ 0 ≤ p.2 ∧ p.2 ≤ 400 ∧ countL g ks c0 = countL g (ks.drop p.1) p.2) (fun p => [(0, .isl ex 3 (exsV ks)), (1, .fn F caps), (7, .int .i64 ks.length), (8, .int .i64 (p.1 : Nat))]) (fun p => s p.2) (fun p => ks.length - p.1) (0, c0) ⟨by omega, h0, h1, by simp⟩ (by simp (disch := omega) only [subT, Int.natCast_add, Int.cast_ofNat_Int, go_sem] <;> (repeat' apply And.intro) <;> first | rfl | (congr 1; omega) | assumption) rfl ?_
 rintro ⟨i, c⟩ ⟨hi, hc0, hc1, heq⟩ ih
 dsimp only at hi hc0 hc1 heq
 simp (disch := omega) only [go_sem]
 first | refine iteW_dec (fun hq => ?_) (fun hq => ?_) | refine iteW_of (fun hq => ?_) (fun hq => ?_)
 ·simp (disch := omega) only [go_sem]
  rw [countL_drop (by omega)] at heq
  have hb := hg (ks.getD i default) c hc0 hc1
  refine SRun.callR (hp _ (getD_mem default (by omega)) c hc0 hc1) ⟨caps, rfl, rfl⟩ rfl ?_
  simp (disch := omega) only [go_sem]
  cases h2 : (g (ks.getD i default) c).1 with
  | false =>
   rw [h2] at heq
   simp (disch := omega) only [go_sem]
   refine W_retR c96_ok rfl ⟨i, ?_, rfl, by rw [heq]; rfl⟩
   rw [heq]; exact decide_eq_true (by omega)
  | true =>
   rw [h2] at heq
   simp (disch := omega) only [go_sem]
   exact ih (i + 1, (g (ks.getD i default) c).2) _ _ ⟨by simp only; omega, by simp only; omega, hb.2.2 h2, heq⟩ (by simp only; omega) (by simp (disch := omega) only [subT, Int.natCast_add, Int.cast_ofNat_Int, go_sem] <;> (repeat' apply And.intro) <;> first | rfl | (congr 1; omega) | assumption) rfl
 ·obtain rfl : i = ks.length := by omega
  rw [List.drop_length] at heq
  simp (disch := omega) only [go_sem]
  refine W_retR c96_ok rfl ⟨-1, ?_, rfl, by rw [heq]; rfl⟩
  rw [heq]; rfl
theorem containsFuncE_ok {ex : Bool} {ks : List Ex} {F : FuncId} {caps : List V} {s : Int → St} {g : Ex → Int → Bool × Int} {c0 : Int} (hl : ks.length ≤ 2000000)
  (hg : ∀ e c, 0 ≤ c → c ≤ 400 → c ≤ (g e c).2 ∧ (g e c).2 ≤ 401 ∧ ((g e c).1 = true → (g e c).2 ≤ 400)) (h0 : 0 ≤ c0) (h1 : c0 ≤ 400)
  (hp : ∀ e ∈ ks, ∀ c, 0 ≤ c → c ≤ 400 → Ret Try.prog Γ F (exV e :: caps) (s c) (.bool (!(g e c).1)) (s (g e c).2)) :
  Ret Try.prog Γ 91 [.isl ex 3 (exsV ks), .fn F caps] (s c0) (.bool (!(countL g ks c0).1)) (s (countL g ks c0).2) := by
 refine ret_of c91_ok rfl ?_
 simp (disch := omega) only [c91, go_sem]
 refine SRun.callQ (indexFuncE_ok (s := s) hl hg h0 h1 hp) ⟨[], rfl, rfl⟩ rfl ?_
 rintro r s ⟨i, hi, rfl, rfl⟩
 simp (disch := omega) only [go_sem]
 refine W_retR c91_ok rfl ⟨?_, rfl⟩
 simp only [look, ev, V.bool.injEq, V.int.injEq, V.str.injEq, V.tup.injEq, V.agg.injEq, V.isl.injEq, List.cons.injEq, true_and, and_true, Nat.reduceEqDiff, Nat.reduceAdd, Nat.reduceSub, Nat.reduceMul, Nat.reducePow, Nat.reduceDiv, Nat.reduceMod, Int.reduceToNat, Nat.reduceLeDiff, Nat.reduceLT, Int.reduceEq, Int.reduceLT, Int.reduceLE, Int.reduceGT, Int.reduceGE, Int.reduceNeg, Int.reduceSub, Int.reduceAdd, Int.reduceMul, Int.reducePow, ne_eq, reduceCtorEq, ↓reduceIte]
 exact hi
theorem kidsOf_ok (k : Int) : Ret Try.prog Γ 90 [.int .i64 k] σ (.int .i64 (arity k)) σ := by
 refine ret_of c90_ok rfl ?_
 simp (disch := omega) only [c90, go_sem]
 first | refine iteW_dec (fun h1 => ?_) (fun h1 => ?_) | refine iteW_of (fun h1 => ?_) (fun h1 => ?_)
 ·simp (disch := omega) only [go_sem]
  refine W_retR c90_ok rfl ⟨?_, rfl⟩
  simp only [look, ev, V.bool.injEq, V.int.injEq, V.str.injEq, V.tup.injEq, V.agg.injEq, V.isl.injEq, List.cons.injEq, true_and, and_true, arity, h1, true_or, or_true, or_self, Nat.reduceEqDiff, Nat.reduceAdd, Nat.reduceSub, Nat.reduceMul, Nat.reducePow, Nat.reduceDiv, Nat.reduceMod, Int.reduceToNat, Nat.reduceLeDiff, Nat.reduceLT, Int.reduceEq, Int.reduceLT, Int.reduceLE, Int.reduceGT, Int.reduceGE, Int.reduceNeg, Int.reduceSub, Int.reduceAdd, Int.reduceMul, Int.reducePow, ne_eq, reduceCtorEq, ↓reduceIte]
 simp (disch := omega) only [go_sem]
 first | refine iteW_dec (fun h2 => ?_) (fun h2 => ?_) | refine iteW_of (fun h2 => ?_) (fun h2 => ?_)
 ·simp (disch := omega) only [go_sem]
  refine W_retR c90_ok rfl ⟨?_, rfl⟩
  simp only [look, ev, V.bool.injEq, V.int.injEq, V.str.injEq, V.tup.injEq, V.agg.injEq, V.isl.injEq, List.cons.injEq, true_and, and_true, arity, h2, true_or, or_true, or_self, Nat.reduceEqDiff, Nat.reduceAdd, Nat.reduceSub, Nat.reduceMul, Nat.reducePow, Nat.reduceDiv, Nat.reduceMod, Int.reduceToNat, Nat.reduceLeDiff, Nat.reduceLT, Int.reduceEq, Int.reduceLT, Int.reduceLE, Int.reduceGT, Int.reduceGE, Int.reduceNeg, Int.reduceSub, Int.reduceAdd, Int.reduceMul, Int.reducePow, ne_eq, reduceCtorEq, ↓reduceIte]
 simp (disch := omega) only [go_sem]
 first | refine iteW_dec (fun h3 => ?_) (fun h3 => ?_) | refine iteW_of (fun h3 => ?_) (fun h3 => ?_)
 ·simp (disch := omega) only [go_sem]
  refine W_retR c90_ok rfl ⟨?_, rfl⟩
  simp only [look, ev, V.bool.injEq, V.int.injEq, V.str.injEq, V.tup.injEq, V.agg.injEq, V.isl.injEq, List.cons.injEq, true_and, and_true, arity, h3, true_or, or_true, or_self, Nat.reduceEqDiff, Nat.reduceAdd, Nat.reduceSub, Nat.reduceMul, Nat.reducePow, Nat.reduceDiv, Nat.reduceMod, Int.reduceToNat, Nat.reduceLeDiff, Nat.reduceLT, Int.reduceEq, Int.reduceLT, Int.reduceLE, Int.reduceGT, Int.reduceGE, Int.reduceNeg, Int.reduceSub, Int.reduceAdd, Int.reduceMul, Int.reducePow, ne_eq, reduceCtorEq, ↓reduceIte]
 simp (disch := omega) only [go_sem]
 first | refine iteW_dec (fun h4 => ?_) (fun h4 => ?_) | refine iteW_of (fun h4 => ?_) (fun h4 => ?_)
 ·simp (disch := omega) only [go_sem]
  refine W_retR c90_ok rfl ⟨?_, rfl⟩
  simp only [look, ev, V.bool.injEq, V.int.injEq, V.str.injEq, V.tup.injEq, V.agg.injEq, V.isl.injEq, List.cons.injEq, true_and, and_true, arity, h4, true_or, or_true, or_self, Nat.reduceEqDiff, Nat.reduceAdd, Nat.reduceSub, Nat.reduceMul, Nat.reducePow, Nat.reduceDiv, Nat.reduceMod, Int.reduceToNat, Nat.reduceLeDiff, Nat.reduceLT, Int.reduceEq, Int.reduceLT, Int.reduceLE, Int.reduceGT, Int.reduceGE, Int.reduceNeg, Int.reduceSub, Int.reduceAdd, Int.reduceMul, Int.reducePow, ne_eq, reduceCtorEq, ↓reduceIte]
 simp (disch := omega) only [go_sem]
 first | refine iteW_dec (fun h5 => ?_) (fun h5 => ?_) | refine iteW_of (fun h5 => ?_) (fun h5 => ?_)
 ·simp (disch := omega) only [go_sem]
  refine W_retR c90_ok rfl ⟨?_, rfl⟩
  simp only [look, ev, V.bool.injEq, V.int.injEq, V.str.injEq, V.tup.injEq, V.agg.injEq, V.isl.injEq, List.cons.injEq, true_and, and_true, arity, h5, true_or, or_true, or_self, Nat.reduceEqDiff, Nat.reduceAdd, Nat.reduceSub, Nat.reduceMul, Nat.reducePow, Nat.reduceDiv, Nat.reduceMod, Int.reduceToNat, Nat.reduceLeDiff, Nat.reduceLT, Int.reduceEq, Int.reduceLT, Int.reduceLE, Int.reduceGT, Int.reduceGE, Int.reduceNeg, Int.reduceSub, Int.reduceAdd, Int.reduceMul, Int.reducePow, ne_eq, reduceCtorEq, ↓reduceIte]
 simp (disch := omega) only [go_sem]
 first | refine iteW_dec (fun h6 => ?_) (fun h6 => ?_) | refine iteW_of (fun h6 => ?_) (fun h6 => ?_)
 ·simp (disch := omega) only [go_sem]
  refine W_retR c90_ok rfl ⟨?_, rfl⟩
  simp only [look, ev, V.bool.injEq, V.int.injEq, V.str.injEq, V.tup.injEq, V.agg.injEq, V.isl.injEq, List.cons.injEq, true_and, and_true, arity, h6, true_or, or_true, or_self, Nat.reduceEqDiff, Nat.reduceAdd, Nat.reduceSub, Nat.reduceMul, Nat.reducePow, Nat.reduceDiv, Nat.reduceMod, Int.reduceToNat, Nat.reduceLeDiff, Nat.reduceLT, Int.reduceEq, Int.reduceLT, Int.reduceLE, Int.reduceGT, Int.reduceGE, Int.reduceNeg, Int.reduceSub, Int.reduceAdd, Int.reduceMul, Int.reducePow, ne_eq, reduceCtorEq, ↓reduceIte]
 simp (disch := omega) only [go_sem]
 first | refine iteW_dec (fun h7 => ?_) (fun h7 => ?_) | refine iteW_of (fun h7 => ?_) (fun h7 => ?_)
 ·simp (disch := omega) only [go_sem]
  refine W_retR c90_ok rfl ⟨?_, rfl⟩
  simp only [look, ev, V.bool.injEq, V.int.injEq, V.str.injEq, V.tup.injEq, V.agg.injEq, V.isl.injEq, List.cons.injEq, true_and, and_true, arity, h7, true_or, or_true, or_self, Nat.reduceEqDiff, Nat.reduceAdd, Nat.reduceSub, Nat.reduceMul, Nat.reducePow, Nat.reduceDiv, Nat.reduceMod, Int.reduceToNat, Nat.reduceLeDiff, Nat.reduceLT, Int.reduceEq, Int.reduceLT, Int.reduceLE, Int.reduceGT, Int.reduceGE, Int.reduceNeg, Int.reduceSub, Int.reduceAdd, Int.reduceMul, Int.reducePow, ne_eq, reduceCtorEq, ↓reduceIte]
 simp (disch := omega) only [go_sem]
 refine W_retR c90_ok rfl ⟨?_, rfl⟩
 simp only [look, ev, V.bool.injEq, V.int.injEq, V.str.injEq, V.tup.injEq, V.agg.injEq, V.isl.injEq, List.cons.injEq, true_and, and_true, arity, h1, h2, h3, h4, h5, h6, h7, true_or, or_true, or_self, Nat.reduceEqDiff, Nat.reduceAdd, Nat.reduceSub, Nat.reduceMul, Nat.reducePow, Nat.reduceDiv, Nat.reduceMod, Int.reduceToNat, Nat.reduceLeDiff, Nat.reduceLT, Int.reduceEq, Int.reduceLT, Int.reduceLE, Int.reduceGT, Int.reduceGE, Int.reduceNeg, Int.reduceSub, Int.reduceAdd, Int.reduceMul, Int.reducePow, ne_eq, reduceCtorEq, ↓reduceIte]
theorem sizeL_len (ks : List Ex) : ks.length ≤ sizeL ks := by
 induction ks with
 | nil => simp [sizeL]
 | cons e r ih => simp only [sizeL, List.length_cons]; have := sizeE_pos e; omega
theorem countEx1_ok {e : Ex} {b b4 b5 : Nat} {d : Int} {τ : St} {z z' : List V} {q : Bool} (h4 : upd τ b z b4 = some [.int .i64 d]) (h5 : upd τ b z b5 = some [.ptr b 0]) (hd : 0 ≤ d ∧ d ≤ 1000) (h : ∀ σ, Ret Try.prog Γ 75 [exV e, .int .i64 (d + 1), .ptr b 0] (upd σ b z) (.bool q) (upd σ b z')) : Ret Try.prog Γ 92 [exV e, .ptr b4 0, .ptr b5 0] (upd τ b z) (.bool (!q)) (upd τ b z') := by
 refine ret_of c92_ok rfl ?_
 simp (disch := omega) only [c92, go_sem]
 refine SRun.boxR (by show ∀ c ∈ (exV e).cells, _; rw [cells_exV]; exact exC_one e) ?_
 intro b3 hb3
 have n3 := upd_none.1 hb3
 have g4 : upd (upd τ b z) b3 (exC e) b4 = _ := le_upd hb3 _ _ h4
 have g5 : upd (upd τ b z) b3 (exC e) b5 = _ := le_upd hb3 _ _ h5
 have h1 := exC_one e
 simp (disch := omega) only [g4, g5, h1, go_sem]
 rw [upd_comm _ n3.1.symm]
 refine SRun.callR (h _) ⟨[], rfl, rfl⟩ rfl ?_
 simp (disch := omega) only [go_sem]
 exact W_retC c92_ok rfl (Conv.drop _ (le_under (le_upd n3.2))) ⟨rfl, rfl⟩
set_option maxHeartbeats 1000000 in
theorem countEx_step {f : Nat} {b : Nat} {k n : Int} {ks : List Ex} {c : Int} (hf : f ≤ 40) (hc0 : 0 ≤ c) (hc1 : c ≤ 400) (hl : ks.length ≤ 2000000)
  (hk : ∀ m, f = m + 1 → ∀ {Γ σ : St}, ∀ e ∈ ks, ∀ c, 0 ≤ c → c ≤ 400 → Ret Try.prog Γ 75 [exV e, .int .i64 (41 - m), .ptr b 0] (upd σ b [.int .i64 c]) (.bool (countP m e c).1) (upd σ b [.int .i64 (countP m e c).2])) :
  Ret Try.prog Γ 75 [exV (.mk k n ks), .int .i64 (41 - f), .ptr b 0] (upd σ b [.int .i64 c]) (.bool (countP f (.mk k n ks) c).1) (upd σ b [.int .i64 (countP f (.mk k n ks) c).2]) := by
 refine ret_of c75_ok rfl ?_
 simp (disch := omega) only [c75, exV_mk, go_sem]
 refine SRun.boxR (by simp [ev, look, V.cells, V.one]) ?_
 intro b3 hb3
 simp (disch := omega) only [go_sem]
 refine SRun.boxR (by simp [ev, look, V.cells, V.one]) ?_
 intro b4 hb4
 simp (disch := omega) only [go_sem]
 refine SRun.boxR (by simp [ev, look, V.cells, V.one]) ?_
 intro b5 hb5
 have n3 := upd_none.1 hb3
 have n4 := upd_none.1 hb4
 have n4' := upd_none.1 n4.2
 have n5 := upd_none.1 hb5
 have n5' := upd_none.1 n5.2
 have n5'' := upd_none.1 n5'.2
 have m3 := n3.1.symm
 have m4 := n4'.1.symm
 have m5 := n5''.1.symm
 have m34 := n4.1.symm
 have m45 := n5.1.symm
 have m35 := n5'.1.symm
 simp (disch := omega) only [n3.1, m3, n4.1, n4'.1, m4, n5.1, n5'.1, n5''.1, m5, m34, m45, m35, exC_mk, go_sem]
 have hle : ∀ d x, upd σ b [.int .i64 c] d = some x → (upd (upd (upd (upd σ b [V.int IntKind.i64 c]) b3 [V.int IntKind.i64 k, V.int IntKind.i64 n, V.isl false 3 (exsV ks)]) b4 [V.int IntKind.i64 (41 - ↑f)]) b5 [V.ptr b 0]) d = some x := fun d x h => le_upd hb5 _ _ (le_upd hb4 _ _ (le_upd hb3 _ _ h))
 have g3 : ∀ z, upd (upd (upd (upd (upd σ b [V.int IntKind.i64 c]) b3 [V.int IntKind.i64 k, V.int IntKind.i64 n, V.isl false 3 (exsV ks)]) b4 [V.int IntKind.i64 (41 - ↑f)]) b5 [V.ptr b 0]) b z b3 = some [V.int IntKind.i64 k, V.int IntKind.i64 n, V.isl false 3 (exsV ks)] := fun z => by rw [upd_ne _ _ n3.1, upd_ne _ _ m35, upd_ne _ _ m34, upd_same]
 have g4 : ∀ z, upd (upd (upd (upd (upd σ b [V.int IntKind.i64 c]) b3 [V.int IntKind.i64 k, V.int IntKind.i64 n, V.isl false 3 (exsV ks)]) b4 [V.int IntKind.i64 (41 - ↑f)]) b5 [V.ptr b 0]) b z b4 = some [V.int IntKind.i64 (41 - ↑f)] := fun z => by rw [upd_ne _ _ n4'.1, upd_ne _ _ m45, upd_same]
 have g5 : ∀ z, upd (upd (upd (upd (upd σ b [V.int IntKind.i64 c]) b3 [V.int IntKind.i64 k, V.int IntKind.i64 n, V.isl false 3 (exsV ks)]) b4 [V.int IntKind.i64 (41 - ↑f)]) b5 [V.ptr b 0]) b z b5 = some [V.ptr b 0] := fun z => by rw [upd_ne _ _ n5''.1, upd_same]
 generalize upd (upd (upd (upd σ b [V.int IntKind.i64 c]) b3 [V.int IntKind.i64 k, V.int IntKind.i64 n, V.isl false 3 (exsV ks)]) b4 [V.int IntKind.i64 (41 - ↑f)]) b5 [V.ptr b 0] = τ at *
 have hle2 : ∀ (z : List V) d x, upd σ b z d = some x → upd τ b z d = some x := fun z d x h => by
  rw [← upd_upd σ b [.int .i64 c]] at h
  exact le_under hle d x h
 have hfin : (c + 1 > 400 ∨ f = 0 ∨ (ks.length : Int) ≠ arity k ∨ numOK k n = false) → countP f (.mk k n ks) c = (false, c + 1) := by
  intro h
  cases f with
  | zero => rfl
  | succ m =>
   rw [countP, if_pos]
   rcases h with h | h | h | h
   ·exact .inl h
   ·omega
   ·exact .inr (.inl h)
   ·exact .inr (.inr h)
 first | refine iteW_dec (fun h1 => ?_) (fun h1 => ?_) | refine iteW_of (fun h1 => ?_) (fun h1 => ?_)
 case' refine_2 =>
  simp (disch := omega) only [go_sem]
  first | refine iteW_dec (fun h2 => ?_) (fun h2 => ?_) | refine iteW_of (fun h2 => ?_) (fun h2 => ?_)
 case' refine_1 =>
  simp (disch := omega) only [g3, go_sem]
  refine SRun.callR (within_ok _ _ _) ⟨[], rfl, rfl⟩ rfl ?_
  simp (disch := omega) only [g5, go_sem]
  rw [show (decide (0 ≤ n) && decide (n ≤ 11)) = numOK k n by rw [numOK, if_pos h1]]
 case' refine_2.refine_1 =>
  simp (disch := omega) only [g3, go_sem]
  refine SRun.callR (within_ok _ _ _) ⟨[], rfl, rfl⟩ rfl ?_
  simp (disch := omega) only [g5, go_sem]
  rw [show (decide (0 ≤ n) && decide (n ≤ 1)) = numOK k n by rw [numOK, if_neg h1, if_pos h2]]
 case' refine_2.refine_2 =>
  simp (disch := omega) only [go_sem]
  rw [show (decide (n = 0)) = numOK k n by rw [numOK, if_neg h1, if_neg h2]]
 all_goals
  by_cases hA : c + 1 > 400
  ·have hA' : decide (c + 1 > 400) = true := decide_eq_true hA
   refine W_drawW ?_
   simp (disch := omega) only [g5, g4, g3, hA', go_sem]
   refine DRun.mixE rfl ?_
   simp (disch := omega) only [go_sem]
   refine DS.skipG rfl rfl ?_
   simp (disch := omega) only [go_sem]
   rw [hfin (.inl hA)]
   exact W_retC c75_ok rfl (Conv.drop _ (hle2 _)) ⟨rfl, rfl⟩
  ·have hA' : decide (c + 1 > 400) = false := decide_eq_false hA
   by_cases hB : 41 - (f : Int) > 40
   ·have hB' : decide (41 - (f : Int) > 40) = true := decide_eq_true hB
    refine W_drawW ?_
    simp (disch := omega) only [g5, g4, g3, hA', hB', go_sem]
    refine DRun.mixE rfl ?_
    simp (disch := omega) only [go_sem]
    refine DS.skipG rfl rfl ?_
    simp (disch := omega) only [go_sem]
    rw [hfin (.inr (.inl (by omega)))]
    exact W_retC c75_ok rfl (Conv.drop _ (hle2 _)) ⟨rfl, rfl⟩
   ·have hB' : decide (41 - (f : Int) > 40) = false := decide_eq_false hB
    refine W_drawW ?_
    simp (disch := omega) only [g5, g4, g3, hA', hB', go_sem]
    refine DRun.mixE rfl ?_
    simp (disch := omega) only [g3, go_sem]
    refine DS.callG (kidsOf_ok k) ⟨[], rfl, rfl⟩ rfl rfl ?_
    rintro r s ⟨rfl, rfl⟩ _
    by_cases hC : (ks.length : Int) = arity k
    ·have hC' : decide (¬ (ks.length : Int) = arity k) = false := decide_eq_false (fun h => h hC)
     simp (disch := omega) only [hC', go_sem]
     first | refine iteW_dec (fun hN => ?_) (fun hN => ?_) | refine iteW_of (fun hN => ?_) (fun hN => ?_)
     ·simp (disch := omega) only [go_sem]
      have hN' : numOK k n = false := by simpa using hN
      rw [hfin (.inr (.inr (.inr hN')))]
      exact W_retC c75_ok rfl (Conv.drop _ (hle2 _)) ⟨rfl, rfl⟩
     ·have hN' : numOK k n = true := by simpa using hN
      obtain ⟨m, rfl⟩ : ∃ m, f = m + 1 := ⟨f - 1, by omega⟩
      simp (disch := omega) only [g3, go_sem]
      refine SRun.callR (containsFuncE_ok (s := fun c => upd τ b [.int .i64 c]) hl (countP_bound m) (by omega) (by omega) (fun e he c hc0 hc1 => countEx1_ok (g4 _) (g5 _) (by omega) (fun σ => by rw [show (41 : Int) - ((m + 1 : Nat) : Int) + 1 = 41 - m by omega]; exact hk m rfl e he c hc0 hc1))) ⟨[], rfl, rfl⟩ rfl ?_
      simp (disch := omega) only [go_sem]
      refine W_retC c75_ok rfl (Conv.drop _ (hle2 _)) ⟨?_, ?_⟩
      ·simp only [look, ev, V.bool.injEq, V.int.injEq, V.str.injEq, V.tup.injEq, V.agg.injEq, V.isl.injEq, List.cons.injEq, true_and, and_true, countP, Nat.reduceEqDiff, Nat.reduceAdd, Nat.reduceSub, Nat.reduceMul, Nat.reducePow, Nat.reduceDiv, Nat.reduceMod, Int.reduceToNat, Nat.reduceLeDiff, Nat.reduceLT, Int.reduceEq, Int.reduceLT, Int.reduceLE, Int.reduceGT, Int.reduceGE, Int.reduceNeg, Int.reduceSub, Int.reduceAdd, Int.reduceMul, Int.reducePow, ne_eq, reduceCtorEq, ↓reduceIte]
       rw [if_neg (by rw [hC, hN']; simp; omega), Bool.not_not]
      ·rw [countP, if_neg (by rw [hC, hN']; simp; omega)]
    ·have hC' : decide (¬ (ks.length : Int) = arity k) = true := decide_eq_true hC
     simp (disch := omega) only [hC', go_sem]
     rw [hfin (.inr (.inr (.inl hC)))]
     exact W_retC c75_ok rfl (Conv.drop _ (hle2 _)) ⟨rfl, rfl⟩
theorem countEx_ok : ∀ (f : Nat) {Γ σ : St} {b : Nat} (e : Ex) (c : Int), f ≤ 40 → 0 ≤ c → c ≤ 400 → sizeE e ≤ 2000000 →
  Ret Try.prog Γ 75 [exV e, .int .i64 (41 - f), .ptr b 0] (upd σ b [.int .i64 c]) (.bool (countP f e c).1) (upd σ b [.int .i64 (countP f e c).2]) := by
 intro f
 induction f with
 | zero =>
  intro Γ σ b e c hf hc0 hc1 hsz
  obtain ⟨k, n, ks⟩ := e
  have := sizeL_len ks
  simp only [sizeE] at hsz
  exact countEx_step hf hc0 hc1 (by omega) (fun m h => by omega)
 | succ f ih =>
  intro Γ σ b e c hf hc0 hc1 hsz
  obtain ⟨k, n, ks⟩ := e
  have := sizeL_len ks
  simp only [sizeE] at hsz
  refine countEx_step hf hc0 hc1 (by omega) (fun m h => ?_)
  obtain rfl : m = f := by omega
  intro Γ σ e he c h0 h1
  have := sizeL_mem he
  exact ih e c (by omega) h0 h1 (by omega)
theorem isEx_ok {e : Ex} (hsz : sizeE e ≤ 2000000) : Ret Try.prog Γ 55 [exV e] σ (.bool (okE e)) σ := by
 refine ret_of c55_ok rfl ?_
 simp (disch := omega) only [c55, go_sem]
 refine SRun.boxR (by show ∀ c ∈ (exV e).cells, _; rw [cells_exV]; exact exC_one e) ?_
 intro b1 hb1
 simp (disch := omega) only [go_sem]
 refine SRun.allocR ?_
 intro b3 hb3
 have n3 := upd_none.1 hb3
 have h1 := exC_one e
 have hne := n3.1.symm
 simp (disch := omega) only [h1, hne, go_sem]
 refine SRun.callR (countEx_ok 40 e 0 (by omega) (by omega) (by omega) hsz) ⟨[], rfl, rfl⟩ rfl ?_
 simp (disch := omega) only [go_sem]
 refine W_retC c55_ok rfl (Conv.drop _ fun c x hc => le_upd hb3 _ _ (le_upd hb1 _ _ hc)) ⟨?_, rfl⟩
 simp only [look, ev, V.bool.injEq, V.int.injEq, V.str.injEq, V.tup.injEq, V.agg.injEq, V.isl.injEq, List.cons.injEq, true_and, and_true, Nat.reduceEqDiff, Nat.reduceAdd, Nat.reduceSub, Nat.reduceMul, Nat.reducePow, Nat.reduceDiv, Nat.reduceMod, Int.reduceToNat, Nat.reduceLeDiff, Nat.reduceLT, Int.reduceEq, Int.reduceLT, Int.reduceLE, Int.reduceGT, Int.reduceGE, Int.reduceNeg, Int.reduceSub, Int.reduceAdd, Int.reduceMul, Int.reducePow, ne_eq, reduceCtorEq, ↓reduceIte]
 rw [← isExB_ok]; rfl
end
section
attribute [local irreducible] SRun DS DRun
variable {Γ : St} {σ σ0 : St}
theorem one1 {α : Type} {l : List α} (h : (l.length : Int) = 1) : ∃ a, l = [a] := by
 match l, h with
 | [a], _ => exact ⟨a, rfl⟩
 | [], h => simp at h
 | a :: b :: r, h => simp only [List.length_cons] at h; omega
theorem one2 {α : Type} {l : List α} (h : (l.length : Int) = 2) : ∃ a b, l = [a, b] := by
 match l, h with
 | [a, b], _ => exact ⟨a, b, rfl⟩
 | [], h => simp at h
 | [a], h => simp at h
 | a :: b :: c :: r, h => simp only [List.length_cons] at h; omega
theorem one3 {α : Type} {l : List α} (h : (l.length : Int) = 3) : ∃ a b c, l = [a, b, c] := by
 match l, h with
 | [a, b, c], _ => exact ⟨a, b, c, rfl⟩
 | [], h => simp at h
 | [a], h => simp at h
 | [a, b], h => simp at h
 | a :: b :: c :: d :: r, h => simp only [List.length_cons] at h; omega
theorem sets_exC (x y z : V) (e : Ex) : sets [x, y, z] 0 (exC e) = exC e := by obtain ⟨k, n, ks⟩ := e; rfl
attribute [go_sem] sets_exC
/-- The ways of being right. -/
theorem right_cases {p : Ex → Prop} (hv : ∀ n, 0 ≤ n → n ≤ 11 → p (.mk 1 n [])) (hc : ∀ n, n = 0 ∨ n = 1 → p (.mk 2 n [])) (h3 : ∀ a, rightE a = true → p a → p (.mk 3 0 [a]))
  (h4 : ∀ a b, rightE a = true → rightE b = true → p a → p b → p (.mk 4 0 [a, b])) (h5 : ∀ a b, rightE a = true → rightE b = true → p a → p b → p (.mk 5 0 [a, b])) (h6 : ∀ a b, rightE a = true → rightE b = true → p a → p b → p (.mk 6 0 [a, b]))
  (h7 : ∀ a b c, rightE a = true → rightE b = true → rightE c = true → p a → p b → p c → p (.mk 7 0 [a, b, c])) : ∀ e, rightE e = true → p e := by
 refine Ex.ind fun k n ks ih hr => ?_
 simp only [rightE, Bool.and_eq_true, decide_eq_true_eq] at hr
 obtain ⟨⟨hn, hl⟩, hk⟩ := hr
 by_cases k1 : k = 1
 ·subst k1
  simp only [numOK, arity] at hn hl
  simp at hn hl
  subst hl
  exact hv n hn.1 hn.2
 by_cases k2 : k = 2
 ·subst k2
  simp only [numOK, arity] at hn hl
  simp at hn hl
  subst hl
  exact hc n (by omega)
 rw [numOK, if_neg k1, if_neg k2, decide_eq_true_eq] at hn
 subst hn
 by_cases k3 : k = 3
 ·subst k3
  simp only [arity] at hl
  obtain ⟨a, rfl⟩ := one1 (l := ks) (by simpa using hl)
  simp only [rightL, Bool.and_true] at hk
  exact h3 a hk (ih a (by simp) hk)
 by_cases k4 : k = 4
 ·subst k4
  obtain ⟨a, b, rfl⟩ := one2 (l := ks) (by rw [hl]; rfl)
  simp only [rightL, Bool.and_true, Bool.and_eq_true] at hk
  exact h4 a b hk.1 hk.2 (ih a (by simp) hk.1) (ih b (by simp) hk.2)
 by_cases k5 : k = 5
 ·subst k5
  obtain ⟨a, b, rfl⟩ := one2 (l := ks) (by rw [hl]; rfl)
  simp only [rightL, Bool.and_true, Bool.and_eq_true] at hk
  exact h5 a b hk.1 hk.2 (ih a (by simp) hk.1) (ih b (by simp) hk.2)
 by_cases k6 : k = 6
 ·subst k6
  obtain ⟨a, b, rfl⟩ := one2 (l := ks) (by rw [hl]; rfl)
  simp only [rightL, Bool.and_true, Bool.and_eq_true] at hk
  exact h6 a b hk.1 hk.2 (ih a (by simp) hk.1) (ih b (by simp) hk.2)
 by_cases k7 : k = 7
 ·subst k7
  obtain ⟨a, b, c, rfl⟩ := one3 (l := ks) (by rw [hl]; rfl)
  simp only [rightL, Bool.and_true, Bool.and_eq_true] at hk
  exact h7 a b c hk.1 hk.2.1 hk.2.2 (ih a (by simp) hk.1) (ih b (by simp) hk.2.1) (ih c (by simp) hk.2.2)
 ·exfalso
  unfold arity at hl
  rw [if_neg (by omega), if_neg k3, if_neg (by omega), if_neg k7] at hl
  omega
theorem mostL_drop {ks : List Ex} {i : Nat} (h : i < ks.length) : mostL (ks.drop i) = max (mostE (ks.getD i default)) (mostL (ks.drop (i + 1))) := by
 rw [drop_cons default h]; rfl
theorem mostVar_ok : ∀ e, ∀ {Γ σ : St}, rightE e = true → sizeE e ≤ 2000000 → Ret Try.prog Γ 56 [exV e] σ (.int .i64 (mostE e)) σ := by
 refine Ex.ind fun k n ks ih Γ σ hr hsz => ?_
 have hlen := sizeL_len ks
 simp only [sizeE] at hsz
 refine ret_of c56_ok rfl ?_
 simp (disch := omega) only [c56, exV_mk, go_sem]
 refine SRun.boxR (by simp [ev, look, V.cells, V.one]) ?_
 intro b1 hb1
 have hr' := hr
 simp only [rightE, Bool.and_eq_true, decide_eq_true_eq, rightL_all, List.all_eq_true] at hr'
 have g1 : upd σ b1 [.int .i64 k, .int .i64 n, .isl false 3 (exsV ks)] b1 = some [.int .i64 k, .int .i64 n, .isl false 3 (exsV ks)] := upd_same _ _ _
 have hle : ∀ d x, σ d = some x → upd σ b1 [.int .i64 k, .int .i64 n, .isl false 3 (exsV ks)] d = some x := le_upd hb1
 have hmost : max (if k = 1 then n else -1) (mostL ks) = mostE (.mk k n ks) := rfl
 simp (disch := omega) only [g1, exC_mk, go_sem]
 generalize hτ : upd σ b1 [.int .i64 k, .int .i64 n, .isl false 3 (exsV ks)] = τ at *
 have h0 : -1 ≤ (if k = 1 then n else -1) := by
  by_cases hk : k = 1
  ·subst hk
   have := hr'.1.1
   simp [numOK] at this
   simp; omega
  ·simp [hk]
 first | refine iteW_dec (fun h1 => ?_) (fun h1 => ?_) | refine iteW_of (fun h1 => ?_) (fun h1 => ?_)
 all_goals
  simp (disch := omega) only [g1, exC_mk, go_sem]
  refine W_loopC (α := Nat × Int × St) (fun p => p.1 ≤ ks.length ∧ max p.2.1 (mostL (ks.drop p.1)) = mostE (.mk k n ks) ∧ -1 ≤ p.2.1 ∧ ∀ d x, τ d = some x → p.2.2 d = some x) (fun p => [(3, .int .i64 p.2.1), (12, .isl false 3 (exsV ks)), (13, .int .i64 ks.length), (14, .int .i64 (p.1 : Nat))]) (fun p => p.2.2) (fun p => ks.length - p.1) (0, (if k = 1 then n else -1), τ) ⟨by omega, by simpa using hmost, h0, fun _ _ h => h⟩ (by simp (disch := omega) only [subT, Int.natCast_add, Int.cast_ofNat_Int, h1, go_sem] <;> (repeat' apply And.intro) <;> first | rfl | (congr 1; omega) | assumption) rfl ?_
  rintro ⟨i, a, s⟩ ⟨hi, hmx, ha, hs⟩ ih2
  dsimp only at hi hmx ha hs
  simp (disch := omega) only [go_sem]
  first | refine iteW_dec (fun hq => ?_) (fun hq => ?_) | refine iteW_of (fun hq => ?_) (fun hq => ?_)
  ·have he := getD_mem default (by omega : i < ks.length)
   have hsz2 := sizeL_mem he
   have hc1 := exC_one (ks.getD i default)
   rw [mostL_drop (by omega)] at hmx
   simp (disch := omega) only [go_sem]
   refine SRun.allocR ?_
   intro b5 hb5
   simp (disch := omega) only [hc1, go_sem]
   refine SRun.callR (ih _ he (hr'.2 _ he) (by omega)) ⟨[], rfl, rfl⟩ rfl ?_
   simp (disch := omega) only [List.getD_cons_zero, List.getD_cons_succ, go_sem]
   exact ih2 (i + 1, max a (mostE (ks.getD i default)), _) _ _ ⟨by simp only; omega, by simp only; omega, by simp only; omega, fun d x h => le_upd hb5 _ _ (hs _ _ h)⟩ (by simp only; omega) (by simp (disch := omega) only [subT, Int.natCast_add, Int.cast_ofNat_Int, go_sem] <;> (repeat' apply And.intro) <;> first | rfl | (congr 1; omega) | assumption) rfl
  ·obtain rfl : i = ks.length := by omega
   rw [List.drop_length] at hmx
   simp only [mostL] at hmx
   simp (disch := omega) only [go_sem]
   refine W_retC c56_ok rfl (Conv.drop _ fun d x h => hs _ _ (hle _ _ h)) ⟨?_, rfl⟩
   simp only [look, ev, V.bool.injEq, V.int.injEq, V.str.injEq, V.tup.injEq, V.agg.injEq, V.isl.injEq, List.cons.injEq, true_and, and_true, Nat.reduceEqDiff, Nat.reduceAdd, Nat.reduceSub, Nat.reduceMul, Nat.reducePow, Nat.reduceDiv, Nat.reduceMod, Int.reduceToNat, Nat.reduceLeDiff, Nat.reduceLT, Int.reduceEq, Int.reduceLT, Int.reduceLE, Int.reduceGT, Int.reduceGE, Int.reduceNeg, Int.reduceSub, Int.reduceAdd, Int.reduceMul, Int.reducePow, ne_eq, reduceCtorEq, ↓reduceIte]
   omega
theorem l04Most_ok : ∀ e, ∀ {Γ σ : St}, rightE e = true → sizeE e ≤ 2000000 → Ret Try.prog Γ 46 [exV e] σ (.int .i64 (mostE e)) σ := by
 refine Ex.ind fun k n ks ih Γ σ hr hsz => ?_
 have hlen := sizeL_len ks
 simp only [sizeE] at hsz
 refine ret_of c46_ok rfl ?_
 simp (disch := omega) only [c46, exV_mk, go_sem]
 refine SRun.boxR (by simp [ev, look, V.cells, V.one]) ?_
 intro b1 hb1
 have hr' := hr
 simp only [rightE, Bool.and_eq_true, decide_eq_true_eq, rightL_all, List.all_eq_true] at hr'
 have g1 : upd σ b1 [.int .i64 k, .int .i64 n, .isl false 3 (exsV ks)] b1 = some [.int .i64 k, .int .i64 n, .isl false 3 (exsV ks)] := upd_same _ _ _
 have hle : ∀ d x, σ d = some x → upd σ b1 [.int .i64 k, .int .i64 n, .isl false 3 (exsV ks)] d = some x := le_upd hb1
 simp (disch := omega) only [g1, exC_mk, go_sem]
 first | refine iteW_dec (fun h1 => ?_) (fun h1 => ?_) | refine iteW_of (fun h1 => ?_) (fun h1 => ?_)
 ·subst h1
  have hk0 : ks = [] := by
   have := hr'.1.2
   simpa [arity] using this
  have hn0 := hr'.1.1
  simp [numOK] at hn0
  subst hk0
  simp (disch := omega) only [g1, exC_mk, go_sem]
  refine W_retC c46_ok rfl (Conv.drop _ hle) ⟨?_, rfl⟩
  simp only [look, ev, V.bool.injEq, V.int.injEq, V.str.injEq, V.tup.injEq, V.agg.injEq, V.isl.injEq, List.cons.injEq, true_and, and_true, mostE, mostL, Nat.reduceEqDiff, Nat.reduceAdd, Nat.reduceSub, Nat.reduceMul, Nat.reducePow, Nat.reduceDiv, Nat.reduceMod, Int.reduceToNat, Nat.reduceLeDiff, Nat.reduceLT, Int.reduceEq, Int.reduceLT, Int.reduceLE, Int.reduceGT, Int.reduceGE, Int.reduceNeg, Int.reduceSub, Int.reduceAdd, Int.reduceMul, Int.reducePow, ne_eq, reduceCtorEq, ↓reduceIte]
  omega
 ·generalize hτ : upd σ b1 [.int .i64 k, .int .i64 n, .isl false 3 (exsV ks)] = τ at *
  simp (disch := omega) only [g1, exC_mk, go_sem]
  refine W_loopC (α := Nat × Int) (fun p => p.1 ≤ ks.length ∧ max p.2 (mostL (ks.drop p.1)) = mostE (.mk k n ks) ∧ -1 ≤ p.2) (fun p => [(1, .ptr b1 0), (3, .int .i64 p.2), (4, .int .i64 (p.1 : Nat))]) (fun p => τ) (fun p => ks.length - p.1) (0, -1) ⟨by omega, by simp [mostE, h1], by simp⟩ (by simp (disch := omega) only [subT, Int.natCast_add, Int.cast_ofNat_Int, h1, go_sem] <;> (repeat' apply And.intro) <;> first | rfl | (congr 1; omega) | assumption) rfl ?_
  rintro ⟨i, a⟩ ⟨hi, hmx, ha⟩ ih2
  dsimp only at hi hmx ha
  simp (disch := omega) only [g1, exC_mk, go_sem]
  first | refine iteW_dec (fun hq => ?_) (fun hq => ?_) | refine iteW_of (fun hq => ?_) (fun hq => ?_)
  ·have he := getD_mem default (by omega : i < ks.length)
   have hsz2 := sizeL_mem he
   rw [mostL_drop (by omega)] at hmx
   simp (disch := omega) only [g1, exC_mk, go_sem]
   refine SRun.callR (ih _ he (hr'.2 _ he) (by omega)) ⟨[], rfl, rfl⟩ rfl ?_
   simp (disch := omega) only [List.getD_cons_zero, List.getD_cons_succ, go_sem]
   exact ih2 (i + 1, max a (mostE (ks.getD i default))) _ _ ⟨by simp only; omega, by simp only; omega, by simp only; omega⟩ (by simp only; omega) (by simp (disch := omega) only [subT, Int.natCast_add, Int.cast_ofNat_Int, go_sem] <;> (repeat' apply And.intro) <;> first | rfl | (congr 1; omega) | assumption) rfl
  ·obtain rfl : i = ks.length := by omega
   rw [List.drop_length] at hmx
   simp only [mostL] at hmx
   simp (disch := omega) only [go_sem]
   refine W_retC c46_ok rfl (Conv.drop _ hle) ⟨?_, rfl⟩
   simp only [look, ev, V.bool.injEq, V.int.injEq, V.str.injEq, V.tup.injEq, V.agg.injEq, V.isl.injEq, List.cons.injEq, true_and, and_true, Nat.reduceEqDiff, Nat.reduceAdd, Nat.reduceSub, Nat.reduceMul, Nat.reducePow, Nat.reduceDiv, Nat.reduceMod, Int.reduceToNat, Nat.reduceLeDiff, Nat.reduceLT, Int.reduceEq, Int.reduceLT, Int.reduceLE, Int.reduceGT, Int.reduceGE, Int.reduceNeg, Int.reduceSub, Int.reduceAdd, Int.reduceMul, Int.reducePow, ne_eq, reduceCtorEq, ↓reduceIte]
   omega
end
section
attribute [local irreducible] SRun DS DRun
variable {Γ : St} {σ σ0 : St}
/-- The opposite of a literal. -/
def notP (y : Int) : Int := if y % 2 = 1 then y - 1 else y + 1
theorem xor1_nat (m : Nat) : m ^^^ 1 = if m % 2 = 1 then m - 1 else m + 1 := by
 have h1 : (m ^^^ 1) / 2 = m / 2 := by rw [Nat.xor_div_two]; simp
 have h2 : (m ^^^ 1) % 2 = (m + 1) % 2 := by
  have := Nat.xor_mod_two_pow (a := m) (b := 1) (n := 1)
  simp only [Nat.pow_one] at this
  rw [this]
  rcases Nat.mod_two_eq_zero_or_one m with h | h
  ·rw [h]; have : (0 ^^^ 1 % 2) = 1 := by decide
   omega
  ·rw [h]; have : (1 ^^^ 1 % 2) = 0 := by decide
   omega
 split <;> omega
theorem xor1 {y : Int} (h : 0 ≤ y) (h2 : y ≤ 4611686018427387904) : bitsV .xor .i64 y 1 = notP y := by
 obtain ⟨m, rfl⟩ : ∃ m : Nat, y = m := ⟨y.toNat, by omega⟩
 have e : (BitVec.ofInt 64 (m : Int) ^^^ BitVec.ofInt 64 1).toNat = m ^^^ 1 := by
  rw [BitVec.toNat_xor]
  simp only [BitVec.toNat_ofInt]
  congr 1
  omega
 have hx := xor1_nat m
 show IntKind.i64.wrap (((BitVec.ofInt 64 (m : Int) ^^^ BitVec.ofInt 64 1).toNat : Nat) : Int) = _
 rw [e, wrap64 (by omega) (by split at hx <;> omega), notP]
 split at hx <;> split <;> omega
theorem stepK_eqa2 {σ : St} {K : V → St → Prop} (a b c d : Int) : stepK (.eqa false [0, 0] (.c (.agg [.int .i64 a, .int .i64 b])) (.c (.agg [.int .i64 c, .int .i64 d]))) σ K = K (.bool (decide (a = c ∧ b = d))) σ := by
 rw [stepK_eqa]
 have : (a == c && (b == d && true)) = decide (a = c ∧ b = d) := by rw [Bool.eq_iff_iff]; simp
 simp [pureK, pureI, ev, eqK]
 exact Iff.rfl
attribute [go_sem] stepK_eqa2
def gV (g : Int × Int) : V := .agg [.int .i64 g.1, .int .i64 g.2]
def gsV (gs : List (Int × Int)) : List V := gs.map gV
theorem gsV_ok (gs : List (Int × Int)) : ∀ y ∈ gsV gs, y.cells.length = 2 ∧ ∀ c ∈ y.cells, c.one = true := by
 intro y hy; simp only [gsV, List.mem_map] at hy; obtain ⟨g, _, rfl⟩ := hy; simp [gV, V.cells, V.one]
theorem gsV_len (gs : List (Int × Int)) : (gsV gs).length = gs.length := by simp [gsV]
theorem indexGate_ok {ex : Bool} {gs : List (Int × Int)} {g : Int × Int} (hl : gs.length ≤ 2000000) :
  Ret Try.prog Γ 93 [.isl ex 2 (gsV gs), gV g] σ (.int .i64 (match gs.findIdx? (· == g) with | some i => (i : Int) | none => -1)) σ := by
 obtain ⟨x, y⟩ := g
 refine ret_of c93_ok rfl ?_
 simp (disch := omega) only [c93, gV, go_sem]
 refine SRun.boxR (by simp [ev, look, V.cells, V.one]) ?_
 intro b3 hb3
 have hgl := gsV_len gs
 simp (disch := omega) only [go_sem]
 refine W_loopC (fun i : Nat => i ≤ gs.length ∧ ∀ j, j < i → (gs.getD j default == (x, y)) = false) (fun i => [(0, .isl ex 2 (gsV gs)), (3, .ptr b3 0), (7, .int .i64 gs.length), (8, .int .i64 i)]) (fun _ => upd σ b3 [.int .i64 x, .int .i64 y]) (fun i => gs.length - i) 0 ⟨by omega, fun j hj => by omega⟩ (by simp (disch := omega) only [subT, Int.natCast_add, Int.cast_ofNat_Int, go_sem] <;> (repeat' apply And.intro) <;> first | rfl | (congr 1; omega) | assumption) rfl ?_
 rintro i ⟨hi, hno⟩ ih
 simp (disch := omega) only [go_sem]
 first | refine iteW_dec (fun hq => ?_) (fun hq => ?_) | refine iteW_of (fun hq => ?_) (fun hq => ?_)
 ·simp (disch := omega) only [gsV, go_sem]
  refine W_drawW ?_
  simp (disch := omega) only [gV, go_sem]
  have hgg : ((gs.getD i default) == (x, y)) = decide (x = (gs.getD i default).1 ∧ y = (gs.getD i default).2) := by
   rw [Bool.eq_iff_iff]; simp only [beq_iff_eq, decide_eq_true_eq, Prod.ext_iff]
   exact ⟨fun h => ⟨h.1.symm, h.2.symm⟩, fun h => ⟨h.1.symm, h.2.symm⟩⟩
  first | refine iteW_dec (fun h1 => ?_) (fun h1 => ?_) | refine iteW_of (fun h1 => ?_) (fun h1 => ?_)
  ·simp (disch := omega) only [go_sem]
   refine W_retC c93_ok rfl (Conv.drop _ (le_upd hb3)) ⟨?_, rfl⟩
   have : gs.findIdx? (· == (x, y)) = some i := by
    rw [List.findIdx?_eq_some_iff_getElem]
    refine ⟨by omega, ?_, fun j hj => ?_⟩
    ·have := hgg.trans (decide_eq_true h1)
     simpa [List.getD, (by omega : i < gs.length)] using this
    ·have := hno j hj
     simpa [List.getD, (by omega : j < gs.length)] using this
   rw [this]; rfl
  ·simp (disch := omega) only [go_sem]
   refine ih (i + 1) _ _ ⟨by omega, fun j hj => ?_⟩ (by omega) (by simp (disch := omega) only [subT, Int.natCast_add, Int.cast_ofNat_Int, gsV, go_sem] <;> (repeat' apply And.intro) <;> first | rfl | (congr 1; omega) | assumption) rfl
   by_cases hji : j = i
   ·subst hji; rw [hgg]; exact decide_eq_false h1
   ·exact hno j (by omega)
 ·simp (disch := omega) only [go_sem]
  refine W_retC c93_ok rfl (Conv.drop _ (le_upd hb3)) ⟨?_, rfl⟩
  have : gs.findIdx? (· == (x, y)) = none := by
   rw [List.findIdx?_eq_none_iff]
   intro z hz
   obtain ⟨j, hj, rfl⟩ := List.getElem_of_mem hz
   have := hno j (by omega)
   simpa [List.getD, hj] using this
  rw [this]; rfl
/-- The and of two literals, and the gates behind it. -/
def andP (inp : Int) (gs : List (Int × Int)) (x y : Int) : Int × List (Int × Int) :=
 if min x y = 0 then (0, gs) else if min x y = 1 ∨ min x y = max x y then (max x y, gs) else if min x y / 2 = max x y / 2 then (0, gs) else
 match gs.findIdx? (· == (min x y, max x y)) with
 | some i => (2 * (1 + inp + i), gs)
 | none => (2 * (1 + inp + gs.length), gs ++ [(min x y, max x y)])
theorem and_ok {τ : St} {b : Nat} {inp : Int} {gs : List (Int × Int)} {q : V} {x y : Int} (h : OwnL (upd τ b [.int .i64 inp, q]) 2 (gsV gs) q σ) (hx : 0 ≤ x ∧ x ≤ 1000000000) (hy : 0 ≤ y ∧ y ≤ 1000000000) (hinp : 0 ≤ inp ∧ inp ≤ 1000) (hgs : gs.length ≤ 100000) :
  ACalls Try.prog Γ 76 [.ptr b 0, .int .i64 x, .int .i64 y] σ fun r σ' => ∃ q', r = .int .i64 (andP inp gs x y).1 ∧ OwnL (upd τ b [.int .i64 inp, q']) 2 (gsV (andP inp gs x y).2) q' σ' := by
 have gb := h.get (upd_same _ b _)
 have hq := h.one
 have hmn : (if y < x then y else x) = min x y := by omega
 have hmx : (if y > x then y else x) = max x y := by omega
 refine acalls_W c76_ok rfl ?_
 simp (disch := omega) only [c76, hmn, hmx, go_sem]
 simp only [andP]
 have ha1 : 0 ≤ min x y := by omega
 have hab : min x y ≤ max x y := by omega
 have hb1 : max x y ≤ 1000000000 := by omega
 have hxr := xor1 (y := max x y) (by omega) (by omega)
 generalize min x y = a at *
 generalize max x y = c at *
 by_cases h0 : a = 0
 ·have h0' : decide (a = 0) = true := decide_eq_true h0
  simp (disch := omega) only [h0', if_pos h0, go_sem]
  refine W_retR c76_ok rfl ⟨q, rfl, h⟩
 ·have h0' : decide (a = 0) = false := decide_eq_false h0
  have hnot : (a = notP c) = (¬ (a = 1 ∨ a = c) ∧ a / 2 = c / 2) := by
   unfold notP
   apply propext
   split <;> constructor <;> omega
  by_cases h1 : a = notP c
  ·have h1' : decide (a = notP c) = true := decide_eq_true h1
   rw [hnot] at h1
   simp (disch := omega) only [h0', h1', hxr, if_neg h0, if_neg h1.1, if_pos h1.2, go_sem]
   refine W_retR c76_ok rfl ⟨q, rfl, h⟩
  ·have h1' : decide (a = notP c) = false := decide_eq_false h1
   rw [hnot] at h1
   by_cases h2 : a = 1
   ·have h2' : decide (a = 1) = true := decide_eq_true h2
    simp (disch := omega) only [h0', h1', hxr, h2', if_neg h0, if_pos (Or.inl h2 : a = 1 ∨ a = c), go_sem]
    refine W_retR c76_ok rfl ⟨q, rfl, h⟩
   ·have h2' : decide (a = 1) = false := decide_eq_false h2
    by_cases h3 : a = c
    ·have h3' : decide (a = c) = true := decide_eq_true h3
     simp (disch := omega) only [h0', h1', hxr, h2', h3', if_neg h0, if_pos (Or.inr h3 : a = 1 ∨ a = c), go_sem]
     refine W_retR c76_ok rfl ⟨q, rfl, h⟩
    ·have h3' : decide (a = c) = false := decide_eq_false h3
     have h4 : ¬ (a = 1 ∨ a = c) := by omega
     have h5 : ¬ (a / 2 = c / 2) := by omega
     simp (disch := omega) only [h0', h1', hxr, h2', h3', if_neg h0, if_neg h4, if_neg h5, go_sem]
     refine SRun.allocR ?_
     intro b7 hb7
     have hb7b : b7 ≠ b := fun e => by subst e; rw [gb] at hb7; cases hb7
     simp (disch := omega) only [go_sem]
     refine W_drawW ?_
     have gb' : upd σ b7 [.int .i64 a, .int .i64 c] b = some [.int .i64 inp, q] := le_upd hb7 _ _ gb
     have h' := h.ext (z := [.int .i64 a, .int .i64 c]) hb7
     have hgl := gsV_len gs
     simp (disch := omega) only [gb', go_sem]
     refine DRun.callQ (Ret.lendL (indexGate_ok (σ := emp) (ex := false) (gs := gs) (g := (a, c)) (by omega)) (by exact ⟨h'.frz (fun _ _ => rfl) (fun _ _ => rfl), .refl _, trivial⟩) (Plain.int _ _)) ⟨[], rfl, rfl⟩ ?_
     rintro r s ⟨rfl, rfl⟩
     cases hf : gs.findIdx? (· == (a, c)) with
     | some i =>
      have hi : i < gs.length := by
       rw [List.findIdx?_eq_some_iff_getElem] at hf
       exact hf.1
      simp (disch := omega) only [gb', go_sem]
      exact W_retC c76_ok (r := .int .i64 (2 * (1 + inp + i))) (r' := .int .i64 (2 * (1 + inp + i))) (σ' := σ) rfl (Conv.drop _ (le_upd hb7)) ⟨q, rfl, h⟩
     | none =>
      simp (disch := omega) only [gb', stepW_len_own h', go_sem]
      rw [W_draw]
      refine DRun.start (DRun.mixO h' rfl ?_)
      intro s hs
      have g0b : upd (upd τ b [.int .i64 inp, q]) b7 [.int .i64 a, .int .i64 c] b = some [.int .i64 inp, q] := by rw [upd_ne _ _ hb7b.symm, upd_same]
      simp (disch := omega) only [g0b, go_sem]
      refine DS.wrQ (WrF.appL hs rfl (gsV_ok [(a, c)]) (by rw [gsV_len]; simp only [List.length_singleton]; omega)) rfl ?_
      rintro r s2 ho2 hd
      have ho3 := ownL_join (hs.of_app (gsV_ok [(a, c)]) ho2) hd
      rw [show gsV gs ++ gsV [(a, c)] = gsV (gs ++ [(a, c)]) by simp [gsV]] at ho3
      have hr1 := ho3.one
      have hr2 := ho3.cells
      have g4b := ho3.get g0b
      have ho5 := ho3.upd (c' := [.int .i64 inp, r]) g0b
      rw [upd_comm _ hb7b, upd_upd] at ho5
      have hτ7 : upd τ b [.int .i64 inp, r] b7 = none := by
       rw [upd_ne _ _ hb7b]
       cases hc : τ b7 with
       | none => rfl
       | some x => rw [h.get (b := b7) (c := x) (by rw [upd_ne _ _ hb7b]; exact hc)] at hb7; cases hb7
      obtain ⟨σ6, hle6, ho6⟩ := ho5.drop hτ7
      simp (disch := omega) only [g4b, hr1, hr2, gsV_len, go_sem]
      exact W_retC c76_ok (r := .int .i64 (2 * (1 + inp + gs.length))) (r' := .int .i64 (2 * (1 + inp + gs.length))) (σ' := σ6) rfl (Conv.drop _ hle6) ⟨r, rfl, ho6⟩
end
section
attribute [local irreducible] SRun DS DRun
variable {Γ : St} {σ σ0 : St}
/-- A circuit that is made, in a block of its own. -/
def Mk (A : St) (b : Nat) (inp : Int) (gs : List (Int × Int)) (σ : St) : Prop := ∃ q, OwnL (upd A b [.int .i64 inp, q]) 2 (gsV gs) q σ
def LitOK (inp : Int) (gs : List (Int × Int)) (l : Int) : Prop := 0 ≤ l ∧ l < 2 * (1 + inp + gs.length)
theorem notP_ok {inp : Int} {gs : List (Int × Int)} {l : Int} (h : LitOK inp gs l) : LitOK inp gs (notP l) := by
 unfold LitOK notP at *
 split <;> omega
theorem LitOK.mono {inp : Int} {gs gs' : List (Int × Int)} {l : Int} (h : LitOK inp gs l) (hp : gs <+: gs') : LitOK inp gs' l := by
 have := hp.length_le
 unfold LitOK at *
 omega
theorem andP_ok {inp : Int} {gs : List (Int × Int)} {x y : Int} (hi : 0 ≤ inp) (hx : LitOK inp gs x) (hy : LitOK inp gs y) : LitOK inp (andP inp gs x y).2 (andP inp gs x y).1 ∧ gs <+: (andP inp gs x y).2 ∧ (andP inp gs x y).2.length ≤ gs.length + 1 := by
 unfold LitOK at *
 unfold andP
 split
 ·exact ⟨⟨by simp, by simp only; omega⟩, List.prefix_refl _, by simp⟩
 split
 ·exact ⟨⟨by simp only; omega, by simp only; omega⟩, List.prefix_refl _, by simp⟩
 split
 ·exact ⟨⟨by simp, by simp only; omega⟩, List.prefix_refl _, by simp⟩
 split
 ·rename_i i hf
  rw [List.findIdx?_eq_some_iff_getElem] at hf
  have := hf.1
  exact ⟨⟨by simp only; omega, by simp only; omega⟩, List.prefix_refl _, by simp⟩
 ·exact ⟨⟨by simp only; omega, by simp only [List.length_append, List.length_singleton]; omega⟩, List.prefix_append _ _, by simp⟩
def orP (inp : Int) (gs : List (Int × Int)) (x y : Int) : Int × List (Int × Int) := (notP (andP inp gs (notP x) (notP y)).1, (andP inp gs (notP x) (notP y)).2)
theorem orP_ok {inp : Int} {gs : List (Int × Int)} {x y : Int} (hi : 0 ≤ inp) (hx : LitOK inp gs x) (hy : LitOK inp gs y) : LitOK inp (orP inp gs x y).2 (orP inp gs x y).1 ∧ gs <+: (orP inp gs x y).2 ∧ (orP inp gs x y).2.length ≤ gs.length + 1 := by
 obtain ⟨a, b, c⟩ := andP_ok hi (notP_ok hx) (notP_ok hy)
 exact ⟨notP_ok a, b, c⟩
theorem and_mk {A : St} {b : Nat} {inp : Int} {gs : List (Int × Int)} {x y : Int} (h : Mk A b inp gs σ) (hx : LitOK inp gs x) (hy : LitOK inp gs y) (hinp : 0 ≤ inp ∧ inp ≤ 1000) (hgs : gs.length ≤ 100000) :
  ACalls Try.prog Γ 76 [.ptr b 0, .int .i64 x, .int .i64 y] σ fun r σ' => r = .int .i64 (andP inp gs x y).1 ∧ Mk A b inp (andP inp gs x y).2 σ' := by
 obtain ⟨q, h⟩ := h
 unfold LitOK at hx hy
 refine (and_ok h (by omega) (by omega) hinp hgs).conv fun r σ' ⟨q', hr, ho⟩ => ⟨_, _, .refl _ _, hr, q', ho⟩
theorem or_mk {A : St} {b : Nat} {inp : Int} {gs : List (Int × Int)} {x y : Int} (h : Mk A b inp gs σ) (hx : LitOK inp gs x) (hy : LitOK inp gs y) (hinp : 0 ≤ inp ∧ inp ≤ 1000) (hgs : gs.length ≤ 100000) :
  ACalls Try.prog Γ 77 [.ptr b 0, .int .i64 x, .int .i64 y] σ fun r σ' => r = .int .i64 (orP inp gs x y).1 ∧ Mk A b inp (orP inp gs x y).2 σ' := by
 have hx' := hx
 have hy' := hy
 unfold LitOK at hx' hy'
 have e1 := xor1 (y := x) (by omega) (by omega)
 have e2 := xor1 (y := y) (by omega) (by omega)
 refine acalls_W c77_ok rfl ?_
 simp (disch := omega) only [c77, e1, e2, go_sem]
 refine SRun.callQ (and_mk h (notP_ok hx) (notP_ok hy) hinp hgs) ⟨[], rfl, rfl⟩ rfl ?_
 rintro r s ⟨rfl, hm⟩
 have h3 := (andP_ok hinp.1 (notP_ok hx) (notP_ok hy))
 have h4 := h3.1
 unfold LitOK at h4
 have e3 := xor1 (y := (andP inp gs (notP x) (notP y)).1) (by omega) (by omega)
 simp (disch := omega) only [e3, go_sem]
 exact W_retR c77_ok rfl ⟨rfl, hm⟩
theorem l04Not_ok {x : Int} (hx : 0 ≤ x ∧ x ≤ 1000000000) : Ret Try.prog Γ 31 [.int .i64 x] σ (.int .i64 (notP x)) σ := by
 have ht : x.tmod 2 = x % 2 := Int.tmod_eq_emod_of_nonneg hx.1
 refine ret_of c31_ok rfl ?_
 simp (disch := omega) only [c31, ht, go_sem]
 first | refine iteW_dec (fun h => ?_) (fun h => ?_) | refine iteW_of (fun h => ?_) (fun h => ?_)
 ·simp (disch := omega) only [go_sem]
  refine W_retR c31_ok rfl ⟨?_, rfl⟩
  simp only [look, ev, V.bool.injEq, V.int.injEq, V.str.injEq, V.tup.injEq, V.agg.injEq, V.isl.injEq, List.cons.injEq, true_and, and_true, notP, h, Nat.reduceEqDiff, Nat.reduceAdd, Nat.reduceSub, Nat.reduceMul, Nat.reducePow, Nat.reduceDiv, Nat.reduceMod, Int.reduceToNat, Nat.reduceLeDiff, Nat.reduceLT, Int.reduceEq, Int.reduceLT, Int.reduceLE, Int.reduceGT, Int.reduceGE, Int.reduceNeg, Int.reduceSub, Int.reduceAdd, Int.reduceMul, Int.reducePow, ne_eq, reduceCtorEq, ↓reduceIte]
 ·simp (disch := omega) only [go_sem]
  refine W_retR c31_ok rfl ⟨?_, rfl⟩
  simp only [look, ev, V.bool.injEq, V.int.injEq, V.str.injEq, V.tup.injEq, V.agg.injEq, V.isl.injEq, List.cons.injEq, true_and, and_true, notP, h, Nat.reduceEqDiff, Nat.reduceAdd, Nat.reduceSub, Nat.reduceMul, Nat.reducePow, Nat.reduceDiv, Nat.reduceMod, Int.reduceToNat, Nat.reduceLeDiff, Nat.reduceLT, Int.reduceEq, Int.reduceLT, Int.reduceLE, Int.reduceGT, Int.reduceGE, Int.reduceNeg, Int.reduceSub, Int.reduceAdd, Int.reduceMul, Int.reducePow, ne_eq, reduceCtorEq, ↓reduceIte]
theorem flat_gsV_at {gs : List (Int × Int)} {i : Nat} (h : i < gs.length) : ((flat (gsV gs)).drop (i * 2)).take 2 = [.int .i64 (gs.getD i default).1, .int .i64 (gs.getD i default).2] ∧ i * 2 + 2 ≤ (flat (gsV gs)).length := by
 induction gs generalizing i with
 | nil => simp at h
 | cons g r ih =>
  have e : flat (gsV (g :: r)) = .int .i64 g.1 :: .int .i64 g.2 :: flat (gsV r) := by simp [flat, gsV, gV, V.cells]
  rw [e]
  cases i with
  | zero => simp
  | succ i =>
   have := ih (i := i) (by simpa using h)
   rw [show (i + 1) * 2 = (i * 2) + 1 + 1 by omega, List.drop_succ_cons, List.drop_succ_cons, List.getD_cons_succ]
   exact ⟨this.1, by simp only [List.length_cons]; omega⟩
set_option maxHeartbeats 1000000 in
theorem ands_mk {A : St} {b : Nat} {inp : Int} {gs : List (Int × Int)} {x y : Int} (h : Mk A b inp gs σ) (hx : LitOK inp gs x) (hy : LitOK inp gs y) (hinp : 0 ≤ inp ∧ inp ≤ 1000) (hgs : gs.length ≤ 100000) :
  ACalls Try.prog Γ 72 [.ptr b 0, .int .i64 x, .int .i64 y] σ fun r σ' => r = .int .i64 (andP inp gs x y).1 ∧ Mk A b inp (andP inp gs x y).2 σ' := by
 obtain ⟨q, h⟩ := h
 unfold LitOK at hx hy
 have gb := h.get (upd_same _ b _)
 have hq := h.one
 refine acalls_W c72_ok rfl ?_
 simp (disch := omega) only [c72, go_sem]
 simp only [andP]
 first | refine iteW_dec (fun hxy => ?_) (fun hxy => ?_) | refine iteW_of (fun hxy => ?_) (fun hxy => ?_)
 case' refine_1 =>
  simp (disch := omega) only [go_sem]
  have hmn : min x y = y := by omega
  have hmx : max x y = x := by omega
  rw [hmn, hmx]
  generalize y = a at *
  generalize x = c at *
 case' refine_2 =>
  simp (disch := omega) only [go_sem]
  have hmn : min x y = x := by omega
  have hmx : max x y = y := by omega
  rw [hmn, hmx]
  generalize x = a at *
  generalize y = c at *
 all_goals
  have ht1 : a.tdiv 2 = a / 2 := Int.tdiv_eq_ediv_of_nonneg (by omega)
  have ht2 : c.tdiv 2 = c / 2 := Int.tdiv_eq_ediv_of_nonneg (by omega)
  by_cases h0 : a = 0
  ·have h0' : decide (a = 0) = true := decide_eq_true h0
   simp (disch := omega) only [h0', if_pos h0, go_sem]
   refine W_retR c72_ok rfl ⟨rfl, q, h⟩
  have h0' : decide (a = 0) = false := decide_eq_false h0
  by_cases h2 : a = 1
  ·have h2' : decide (a = 1) = true := decide_eq_true h2
   simp (disch := omega) only [h0', h2', if_neg h0, if_pos (Or.inl h2 : a = 1 ∨ a = c), go_sem]
   refine W_retR c72_ok rfl ⟨rfl, q, h⟩
  have h2' : decide (a = 1) = false := decide_eq_false h2
  by_cases h3 : a = c
  ·first
   | (exfalso; omega)
   | (
    have h3' : decide (a = c) = true := decide_eq_true h3
    simp (disch := omega) only [h0', h2', h3', if_neg h0, if_pos (Or.inr h3 : a = 1 ∨ a = c), go_sem]
    refine W_retR c72_ok rfl ⟨rfl, q, h⟩)
  have h3' : decide (a = c) = false := decide_eq_false h3
  have h4 : ¬ (a = 1 ∨ a = c) := by omega
  by_cases h5 : a / 2 = c / 2
  ·have h5' : decide (a / 2 = c / 2) = true := decide_eq_true h5
   simp (disch := omega) only [h0', h2', h3', ht1, ht2, h5', if_neg h0, if_neg h4, if_pos h5, go_sem]
   refine W_retR c72_ok rfl ⟨rfl, q, h⟩
  have h5' : decide (a / 2 = c / 2) = false := decide_eq_false h5
  simp (disch := omega) only [h0', h2', h3', ht1, ht2, h5', if_neg h0, if_neg h4, if_neg h5, go_sem]
  refine SRun.allocR ?_
  intro b8 hb8
  have hb8b : b8 ≠ b := fun e => by subst e; rw [gb] at hb8; cases hb8
  have gb' : upd σ b8 [.int .i64 a, .int .i64 c] b = some [.int .i64 inp, q] := le_upd hb8 _ _ gb
  have h' := h.ext (z := [.int .i64 a, .int .i64 c]) hb8
  have g0b : upd (upd A b [.int .i64 inp, q]) b8 [.int .i64 a, .int .i64 c] b = some [.int .i64 inp, q] := by rw [upd_ne _ _ hb8b.symm, upd_same]
  have hgl := gsV_len gs
  simp (disch := omega) only [go_sem]
  refine W_loopC (fun i : Nat => i ≤ gs.length ∧ ∀ j, j < i → (gs.getD j default == (a, c)) = false) (fun i => [(0, .ptr b 0), (1, .int .i64 a), (2, .int .i64 c), (8, .ptr b8 0), (9, .int .i64 i)]) (fun _ => upd σ b8 [.int .i64 a, .int .i64 c]) (fun i => gs.length - i) 0 ⟨by omega, fun j hj => by omega⟩ (by simp (disch := omega) only [subT, Int.natCast_add, Int.cast_ofNat_Int, go_sem] <;> (repeat' apply And.intro) <;> first | rfl | (congr 1; omega) | assumption) rfl ?_
  rintro i ⟨hi, hno⟩ ih
  simp (disch := omega) only [gb', stepW_len_own h', go_sem]
  first | refine iteW_dec (fun hq9 => ?_) (fun hq9 => ?_) | refine iteW_of (fun hq9 => ?_) (fun hq9 => ?_)
  ·obtain ⟨bq, cap, rfl, hbq, hcap, _, _⟩ := h'.at (fun e => by have := congrArg List.length e; rw [gsV_len] at this; simp only [List.length_nil] at this; omega)
   have hfa := flat_gsV_at (by omega : i < gs.length)
   simp (disch := omega) only [gb', go_sem]
   refine W_drawW ?_
   simp (disch := omega) only [gb', hbq, hfa.1, gsV_len, go_sem]
   have hgg : ((gs.getD i default) == (a, c)) = decide ((gs.getD i default).1 = a ∧ (gs.getD i default).2 = c) := by
    rw [Bool.eq_iff_iff]; simp only [beq_iff_eq, decide_eq_true_eq, Prod.ext_iff]
   first | refine iteW_dec (fun h9 => ?_) (fun h9 => ?_) | refine iteW_of (fun h9 => ?_) (fun h9 => ?_)
   ·simp (disch := omega) only [gb', go_sem]
    have hf : gs.findIdx? (· == (a, c)) = some i := by
     rw [List.findIdx?_eq_some_iff_getElem]
     refine ⟨by omega, ?_, fun j hj => ?_⟩
     ·have := hgg.trans (decide_eq_true h9)
      simpa [List.getD, (by omega : i < gs.length)] using this
     ·have := hno j hj
      simpa [List.getD, (by omega : j < gs.length)] using this
    rw [hf]
    exact W_retC c72_ok (r := .int .i64 (2 * (inp + 1 + i))) (r' := .int .i64 (2 * (inp + 1 + i))) (σ' := σ) rfl (Conv.drop _ (le_upd hb8)) ⟨by rw [Int.add_comm inp 1], _, h⟩
   ·simp (disch := omega) only [go_sem]
    refine ih (i + 1) _ _ ⟨by omega, fun j hj => ?_⟩ (by omega) (by simp (disch := omega) only [subT, Int.natCast_add, Int.cast_ofNat_Int, go_sem] <;> (repeat' apply And.intro) <;> first | rfl | (congr 1; omega) | assumption) rfl
    by_cases hji : j = i
    ·subst hji; rw [hgg]; exact decide_eq_false h9
    ·exact hno j (by omega)
  ·simp (disch := omega) only [go_sem]
   obtain rfl : i = gs.length := by omega
   have hf : gs.findIdx? (· == (a, c)) = none := by
    rw [List.findIdx?_eq_none_iff]
    intro z hz
    obtain ⟨j, hj, rfl⟩ := List.getElem_of_mem hz
    have := hno j (by omega)
    simpa [List.getD, hj] using this
   rw [hf]
   rw [W_draw]
   refine DRun.start (DRun.mixO h' rfl ?_)
   intro s hs
   simp (disch := omega) only [g0b, go_sem]
   refine DS.wrQ (WrF.appL hs rfl (gsV_ok [(a, c)]) (by rw [gsV_len]; simp only [List.length_singleton]; omega)) rfl ?_
   rintro r s2 ho2 hd
   have ho3 := ownL_join (hs.of_app (gsV_ok [(a, c)]) ho2) hd
   rw [show gsV gs ++ gsV [(a, c)] = gsV (gs ++ [(a, c)]) by simp [gsV]] at ho3
   have hr1 := ho3.one
   have hr2 := ho3.cells
   have g4b := ho3.get g0b
   have ho5 := ho3.upd (c' := [.int .i64 inp, r]) g0b
   have ho5a := ho5
   rw [upd_comm _ hb8b, upd_upd] at ho5
   have hτ8 : upd A b [.int .i64 inp, r] b8 = none := by
    rw [upd_ne _ _ hb8b]
    cases hc : A b8 with
    | none => rfl
    | some x => rw [h.get (b := b8) (c := x) (by rw [upd_ne _ _ hb8b]; exact hc)] at hb8; cases hb8
   obtain ⟨σ6, hle6, ho6⟩ := ho5.drop hτ8
   simp (disch := omega) only [g4b, hr1, hr2, gsV_len, go_sem]
   refine W_drawW ?_
   simp (disch := omega) only [stepK_len_own ho5a, gsV_len, List.length_append, List.length_singleton, go_sem]
   refine W_retC c72_ok (r := .int .i64 (2 * (1 + inp + gs.length))) (r' := .int .i64 (2 * (1 + inp + gs.length))) (σ' := σ6) (by rw [show (2 : Int) * (1 + inp + gs.length) = 2 * (inp + ((gs.length + 1 : Nat) : Int)) by omega]; rfl) (Conv.drop _ hle6) ⟨rfl, r, ho6⟩
end
section
attribute [local irreducible] SRun DS DRun
variable {Γ : St} {σ σ0 : St}
theorem ors_mk {A : St} {b : Nat} {inp : Int} {gs : List (Int × Int)} {x y : Int} (h : Mk A b inp gs σ) (hx : LitOK inp gs x) (hy : LitOK inp gs y) (hinp : 0 ≤ inp ∧ inp ≤ 1000) (hgs : gs.length ≤ 100000) :
  ACalls Try.prog Γ 73 [.ptr b 0, .int .i64 x, .int .i64 y] σ fun r σ' => r = .int .i64 (orP inp gs x y).1 ∧ Mk A b inp (orP inp gs x y).2 σ' := by
 have hx' := hx
 have hy' := hy
 unfold LitOK at hx' hy'
 refine acalls_W c73_ok rfl ?_
 simp (disch := omega) only [c73, go_sem]
 refine SRun.callR (l04Not_ok (x := x) (by omega)) ⟨[], rfl, rfl⟩ rfl ?_
 simp (disch := omega) only [List.getD_cons_zero, List.getD_cons_succ, go_sem]
 refine SRun.callR (l04Not_ok (x := y) (by omega)) ⟨[], rfl, rfl⟩ rfl ?_
 simp (disch := omega) only [List.getD_cons_zero, List.getD_cons_succ, go_sem]
 refine SRun.callQ (ands_mk h (notP_ok hx) (notP_ok hy) hinp hgs) ⟨[], rfl, rfl⟩ rfl ?_
 rintro r s ⟨rfl, hm⟩
 have h3 := (andP_ok hinp.1 (notP_ok hx) (notP_ok hy))
 have h4 := h3.1
 unfold LitOK at h4
 simp (disch := omega) only [go_sem]
 refine SRun.callR (l04Not_ok (x := (andP inp gs (notP x) (notP y)).1) (by omega)) ⟨[], rfl, rfl⟩ rfl ?_
 simp (disch := omega) only [List.getD_cons_zero, List.getD_cons_succ, go_sem]
 exact W_retR c73_ok rfl ⟨rfl, hm⟩
/-- A node is built of its parts' literals. -/
def opP (inp k : Int) (l : List Int) (gs : List (Int × Int)) : Int × List (Int × Int) :=
 if k = 3 then (notP (l.getD 0 0), gs) else if k = 4 then andP inp gs (l.getD 0 0) (l.getD 1 0) else if k = 5 then orP inp gs (l.getD 0 0) (l.getD 1 0)
 else if k = 6 then
  let u := andP inp gs (l.getD 0 0) (notP (l.getD 1 0))
  let v := andP inp u.2 (notP (l.getD 0 0)) (l.getD 1 0)
  orP inp v.2 u.1 v.1
 else
  let u := andP inp gs (l.getD 0 0) (l.getD 1 0)
  let v := andP inp u.2 (notP (l.getD 0 0)) (l.getD 2 0)
  orP inp v.2 u.1 v.1
mutual
def makeP (inp : Int) : Ex → List (Int × Int) → Int × List (Int × Int)
 | .mk k n ks, gs => if k = 1 then (2 * n + 2, gs) else if k = 2 then (n, gs) else opP inp k (makeL inp ks gs).1 (makeL inp ks gs).2
def makeL (inp : Int) : List Ex → List (Int × Int) → List Int × List (Int × Int)
 | [], gs => ([], gs)
 | e :: r, gs => ((makeP inp e gs).1 :: (makeL inp r (makeP inp e gs).2).1, (makeL inp r (makeP inp e gs).2).2)
end
theorem opP_ok {inp k : Int} {l : List Int} {gs : List (Int × Int)} (hi : 0 ≤ inp) (hl : ∀ x ∈ l, LitOK inp gs x) (hk : 3 ≤ k) (hn : arity k ≤ l.length) (hk7 : k ≤ 7) : LitOK inp (opP inp k l gs).2 (opP inp k l gs).1 ∧ gs <+: (opP inp k l gs).2 ∧ (opP inp k l gs).2.length ≤ gs.length + 3 := by
 have hg : ∀ i : Nat, (i : Int) < arity k → LitOK inp gs (l.getD i 0) := fun i h => hl _ (getD_mem 0 (by omega))
 have hkk : k = 3 ∨ k = 4 ∨ k = 5 ∨ k = 6 ∨ k = 7 := by omega
 rcases hkk with rfl | rfl | rfl | rfl | rfl
 ·have h0 := hg 0 (by decide)
  exact ⟨notP_ok h0, List.prefix_refl _, by simp [opP]⟩
 ·have h0 := hg 0 (by decide)
  have h1 := hg 1 (by decide)
  obtain ⟨a, b, c⟩ := andP_ok hi h0 h1
  exact ⟨a, b, Nat.le_trans c (by omega)⟩
 ·have h0 := hg 0 (by decide)
  have h1 := hg 1 (by decide)
  obtain ⟨a, b, c⟩ := orP_ok hi h0 h1
  exact ⟨a, b, Nat.le_trans c (by omega)⟩
 ·have h0 := hg 0 (by decide)
  have h1 := hg 1 (by decide)
  obtain ⟨a, b, c⟩ := andP_ok hi h0 (notP_ok h1)
  obtain ⟨a', b', c'⟩ := andP_ok hi ((notP_ok h0).mono b) (h1.mono b)
  obtain ⟨a2, b2, c2⟩ := orP_ok hi (a.mono b') a'
  exact ⟨a2, b.trans (b'.trans b2), by
   have e : (opP inp 6 l gs).2 = (orP inp (andP inp (andP inp gs (l.getD 0 0) (notP (l.getD 1 0))).2 (notP (l.getD 0 0)) (l.getD 1 0)).2 (andP inp gs (l.getD 0 0) (notP (l.getD 1 0))).1 (andP inp (andP inp gs (l.getD 0 0) (notP (l.getD 1 0))).2 (notP (l.getD 0 0)) (l.getD 1 0)).1).2 := rfl
   rw [e]; omega⟩
 ·have h0 := hg 0 (by decide)
  have h1 := hg 1 (by decide)
  have h2 := hg 2 (by decide)
  obtain ⟨a, b, c⟩ := andP_ok hi h0 h1
  obtain ⟨a', b', c'⟩ := andP_ok hi ((notP_ok h0).mono b) (h2.mono b)
  obtain ⟨a2, b2, c2⟩ := orP_ok hi (a.mono b') a'
  exact ⟨a2, b.trans (b'.trans b2), by
   have e : (opP inp 7 l gs).2 = (orP inp (andP inp (andP inp gs (l.getD 0 0) (l.getD 1 0)).2 (notP (l.getD 0 0)) (l.getD 2 0)).2 (andP inp gs (l.getD 0 0) (l.getD 1 0)).1 (andP inp (andP inp gs (l.getD 0 0) (l.getD 1 0)).2 (notP (l.getD 0 0)) (l.getD 2 0)).1).2 := rfl
   rw [e]; omega⟩
mutual
/-- How many nodes are no leaves. -/
def innerE : Ex → Nat
 | .mk k _ ks => (if k = 1 ∨ k = 2 then 0 else 1) + innerL ks
def innerL : List Ex → Nat
 | [] => 0
 | e :: r => innerE e + innerL r
end
def MakeGood (inp : Int) (e : Ex) : Prop := ∀ gs, mostE e < inp → LitOK inp (makeP inp e gs).2 (makeP inp e gs).1 ∧ gs <+: (makeP inp e gs).2 ∧ (makeP inp e gs).2.length ≤ gs.length + 3 * innerE e
theorem makeL_ok {inp : Int} {ks : List Ex} (h : ∀ e ∈ ks, MakeGood inp e) (hm : mostL ks < inp) : ∀ gs, (∀ x ∈ (makeL inp ks gs).1, LitOK inp (makeL inp ks gs).2 x) ∧ gs <+: (makeL inp ks gs).2 ∧ (makeL inp ks gs).2.length ≤ gs.length + 3 * innerL ks ∧ (makeL inp ks gs).1.length = ks.length := by
 induction ks with
 | nil => intro gs; simp [makeL, innerL]
 | cons e r ih =>
  intro gs
  simp only [mostL] at hm
  obtain ⟨a, b, c⟩ := h e (by simp) gs (by omega)
  obtain ⟨a', b', c', d'⟩ := ih (fun x hx => h x (by simp [hx])) (by omega) (makeP inp e gs).2
  simp only [makeL, innerL, List.length_cons]
  refine ⟨fun x hx => ?_, b.trans b', by omega, by omega⟩
  rcases List.mem_cons.1 hx with rfl | hx
  ·exact a.mono b'
  ·exact a' x hx
theorem kinds {k n : Int} {ks : List Ex} (hr : rightE (.mk k n ks) = true) : (k = 1 ∧ ks = [] ∧ 0 ≤ n ∧ n ≤ 11) ∨ (k = 2 ∧ ks = [] ∧ (n = 0 ∨ n = 1)) ∨ (3 ≤ k ∧ k ≤ 7 ∧ n = 0 ∧ (ks.length : Int) = arity k) := by
 revert hr
 have := right_cases (p := fun e => ∀ k n ks, e = .mk k n ks → (k = 1 ∧ ks = [] ∧ 0 ≤ n ∧ n ≤ 11) ∨ (k = 2 ∧ ks = [] ∧ (n = 0 ∨ n = 1)) ∨ (3 ≤ k ∧ k ≤ 7 ∧ n = 0 ∧ (ks.length : Int) = arity k))
  (fun n h0 h1 k n' ks e => by cases e; exact .inl ⟨rfl, rfl, h0, h1⟩) (fun n h k n' ks e => by cases e; exact .inr (.inl ⟨rfl, rfl, h⟩))
  (fun a _ _ k n' ks e => by cases e; exact .inr (.inr ⟨by omega, by omega, rfl, rfl⟩)) (fun a b _ _ _ _ k n' ks e => by cases e; exact .inr (.inr ⟨by omega, by omega, rfl, rfl⟩))
  (fun a b _ _ _ _ k n' ks e => by cases e; exact .inr (.inr ⟨by omega, by omega, rfl, rfl⟩)) (fun a b _ _ _ _ k n' ks e => by cases e; exact .inr (.inr ⟨by omega, by omega, rfl, rfl⟩))
  (fun a b c _ _ _ _ _ _ k n' ks e => by cases e; exact .inr (.inr ⟨by omega, by omega, rfl, rfl⟩))
 exact fun hr => this _ hr k n ks rfl
theorem right_kids {k n : Int} {ks : List Ex} (hr : rightE (.mk k n ks) = true) : ∀ e ∈ ks, rightE e = true := by
 simp only [rightE, Bool.and_eq_true, decide_eq_true_eq, rightL_all, List.all_eq_true] at hr
 exact hr.2
theorem makeP_ok {inp : Int} (hi : 0 ≤ inp) : ∀ e, rightE e = true → MakeGood inp e := by
 refine Ex.ind fun k n ks ih hr gs hm => ?_
 have hk := right_kids hr
 simp only [mostE] at hm
 rcases kinds hr with ⟨rfl, rfl, h0, h1⟩ | ⟨rfl, rfl, h⟩ | ⟨h3, h7, rfl, hl⟩
 ·simp only [makeP, innerE, ↓reduceIte] at hm ⊢
  exact ⟨⟨by omega, by omega⟩, List.prefix_refl _, by simp [innerL]⟩
 ·simp only [makeP, ↓reduceIte, Int.reduceEq]
  exact ⟨⟨by omega, by omega⟩, List.prefix_refl _, by omega⟩
 ·have hL := makeL_ok (fun e he => ih e he (hk e he)) (by omega) gs
  have hO := opP_ok (k := k) hi hL.1 h3 (by rw [hL.2.2.2, hl]; exact Int.le_refl _) h7
  simp only [makeP, innerE]
  rw [if_neg (by omega), if_neg (by omega), if_neg (by omega)]
  exact ⟨hO.1, hL.2.1.trans hO.2.1, by omega⟩
end
end Go.Proofs.Ytdenfjbhkdhlkaa.Lg
