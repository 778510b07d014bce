/- What is told of the functions that are reached, as far as it is asked here. -/
import Derived.Test.YtlidjjjpjndneaaKxc
import Derived.Test.YtlidjjjpjndneaaLgL
import Derived.KernelRfl
set_option linter.unusedSimpArgs false
set_option linter.unusedVariables false
namespace Go.Proofs.Ytlidjjjpjndneaa.Lg
open Go
section
inductive Ex where
 | mk (k n : Int) (ks : List Ex)
instance : Inhabited Ex := ⟨.mk 0 0 []⟩
mutual
def exV : Ex → V
 | .mk k n ks => .agg [.int .i64 k, .int .i64 n, .isl false 3 (exsW ks)]
def exsW : List Ex → List V
 | [] => []
 | e :: r => exV e :: exsW r
end
def exsV (es : List Ex) : List V := es.map exV
theorem exsW_eq (es : List Ex) : exsW es = exsV es := by
 induction es with
 | nil => rfl
 | cons e r ih => simp only [exsW, exsV, List.map_cons]; rw [ih]; rfl
/-- The parts of an expression. -/
def exC : Ex → List V
 | .mk k n ks => [.int .i64 k, .int .i64 n, .isl false 3 (exsV ks)]
theorem exV_mk (k n : Int) (ks : List Ex) : exV (.mk k n ks) = .agg [.int .i64 k, .int .i64 n, .isl false 3 (exsV ks)] := by rw [exV, exsW_eq]
theorem exV_agg (e : Ex) : exV e = .agg (exC e) := by obtain ⟨k, n, ks⟩ := e; rw [exV_mk]; rfl
theorem agg_exC (e : Ex) : V.agg (exC e) = exV e := (exV_agg e).symm
theorem cells_exV (e : Ex) : (exV e).cells = exC e := by rw [exV_agg]; rfl
theorem exC_len (e : Ex) : (exC e).length = 3 := by obtain ⟨k, n, ks⟩ := e; rfl
theorem exC_take (e : Ex) : (exC e).take 3 = exC e := by obtain ⟨k, n, ks⟩ := e; rfl
theorem exC_mk (k n : Int) (ks : List Ex) : exC (.mk k n ks) = [.int .i64 k, .int .i64 n, .isl false 3 (exsV ks)] := rfl
theorem exC_one (e : Ex) : ∀ c ∈ exC e, c.one = true := by obtain ⟨k, n, ks⟩ := e; simp [exC, V.one]
theorem exsV_len (es : List Ex) : (exsV es).length = es.length := by simp [exsV]
theorem exsV_ok (es : List Ex) : ∀ y ∈ exsV es, y.cells.length = 3 ∧ ∀ c ∈ y.cells, c.one = true := by
 intro y hy; simp only [exsV, List.mem_map] at hy; obtain ⟨e, _, rfl⟩ := hy
 rw [cells_exV]; exact ⟨exC_len e, exC_one e⟩
section
variable {P : Program} {Γ : St} {f : FuncId} {n : Nat} {Q : V → St → Prop} {k : List It} {T : Ts} {g : GI} {l : List GI} {σ : St}
theorem stepW_iaddr_exs {ex : Bool} {es : List Ex} {kk : IntKind} {m : Int} (h0 : 0 ≤ m) (h1 : m < es.length) : stepW P Γ f n Q (.iaddr 3 (.c (.isl ex 3 (exsV es))) (.c (.int kk m))) g l k T σ = W P Γ f n Q (.ops l :: k) (putT T g.d (.iptr (exC (es.getD m.toNat default)))) σ := by
 rw [← cells_exV]; exact stepW_iaddr_map h0 h1
theorem stepK_iaddr_exs {K : V → St → Prop} {ex : Bool} {es : List Ex} {kk : IntKind} {m : Int} (h0 : 0 ≤ m) (h1 : m < es.length) : stepK (.iaddr 3 (.c (.isl ex 3 (exsV es))) (.c (.int kk m))) σ K = K (.iptr (exC (es.getD m.toNat default))) σ := by
 rw [← cells_exV]; exact stepK_iaddr_map h0 h1
end
attribute [go_sem] stepW_iaddr_exs stepK_iaddr_exs exsV_len exC_len exC_take agg_exC cells_exV exC_mk
/-- Induction over expressions. -/
theorem Ex.ind {p : Ex → Prop} (h : ∀ k n ks, (∀ e ∈ ks, p e) → p (.mk k n ks)) : ∀ e, p e := by
 intro e
 exact Ex.rec (motive_1 := p) (motive_2 := fun l => ∀ e ∈ l, p e) (fun k n ks ih => h k n ks ih) (fun e he => by cases he) (fun a r ha hr e he => by
  rcases List.mem_cons.1 he with rfl | he
  ·exact ha
  ·exact hr e he) e
/-- How many Kids a kind has. -/
def arity (k : Int) : Int := if k = 1 ∨ k = 2 then 0 else if k = 3 then 1 else if k = 4 ∨ k = 5 ∨ k = 6 then 2 else if k = 7 then 3 else -1
def numOK (k n : Int) : Bool := if k = 1 then decide (0 ≤ n) && decide (n ≤ 11) else if k = 2 then decide (0 ≤ n) && decide (n ≤ 1) else decide (n = 0)
mutual
def sizeE : Ex → Nat
 | .mk _ _ ks => 1 + sizeL ks
def sizeL : List Ex → Nat
 | [] => 0
 | e :: r => sizeE e + sizeL r
end
mutual
def depthE : Ex → Nat
 | .mk _ _ ks => 1 + depthL ks
def depthL : List Ex → Nat
 | [] => 0
 | e :: r => max (depthE e) (depthL r)
end
mutual
/-- Kinds, numbers and Kids are right. -/
def rightE : Ex → Bool
 | .mk k n ks => numOK k n && decide ((ks.length : Int) = arity k) && rightL ks
def rightL : List Ex → Bool
 | [] => true
 | e :: r => rightE e && rightL r
end
mutual
def mostE : Ex → Int
 | .mk k n ks => max (if k = 1 then n else -1) (mostL ks)
def mostL : List Ex → Int
 | [] => -1
 | e :: r => max (mostE e) (mostL r)
end
theorem rightL_all (ks : List Ex) : rightL ks = ks.all rightE := by
 induction ks with
 | nil => rfl
 | cons e r ih => simp only [rightL, List.all_cons, ih]
theorem sizeL_sum (ks : List Ex) : sizeL ks = (ks.map sizeE).sum := by
 induction ks with
 | nil => rfl
 | cons e r ih => simp only [sizeL, List.map_cons, List.sum_cons, ih]
theorem depthL_mem {ks : List Ex} {e : Ex} (h : e ∈ ks) : depthE e ≤ depthL ks := by
 induction ks with
 | nil => cases h
 | cons a r ih =>
  simp only [depthL]
  rcases List.mem_cons.1 h with rfl | h
  ·omega
  ·have := ih h; omega
theorem sizeL_mem {ks : List Ex} {e : Ex} (h : e ∈ ks) : sizeE e ≤ sizeL ks := by
 induction ks with
 | nil => cases h
 | cons a r ih =>
  simp only [sizeL]
  rcases List.mem_cons.1 h with rfl | h
  ·omega
  ·have := ih h; omega
theorem sizeE_pos (e : Ex) : 0 < sizeE e := by obtain ⟨k, n, ks⟩ := e; simp only [sizeE]; omega
/-- Nodes are counted, up to the first that is not right. -/
def countL (g : Ex → Int → Bool × Int) : List Ex → Int → Bool × Int
 | [], c => (true, c)
 | e :: r, c => bif (g e c).1 then countL g r (g e c).2 else (false, (g e c).2)
def countP : Nat → Ex → Int → Bool × Int
 | 0, _, c => (false, c + 1)
 | f + 1, .mk k n ks, c => if c + 1 > 400 ∨ (ks.length : Int) ≠ arity k ∨ numOK k n = false then (false, c + 1) else countL (countP f) ks (c + 1)
theorem countL_bound {g : Ex → Int → Bool × Int} (hg : ∀ e c, 0 ≤ c → c ≤ 400 → c ≤ (g e c).2 ∧ (g e c).2 ≤ 401 ∧ ((g e c).1 = true → (g e c).2 ≤ 400)) : ∀ (ks : List Ex) (c : Int), 0 ≤ c → c ≤ 400 → c ≤ (countL g ks c).2 ∧ (countL g ks c).2 ≤ 401 ∧ ((countL g ks c).1 = true → (countL g ks c).2 ≤ 400) := by
 intro ks
 induction ks with
 | nil => intro c h0 h1; simp only [countL]; omega
 | cons e r ih =>
  intro c h0 h1
  have h := hg e c h0 h1
  simp only [countL]
  cases h2 : (g e c).1 with
  | false => simp only [cond_false]; exact ⟨h.1, h.2.1, fun h => by cases h⟩
  | true =>
   simp only [cond_true]
   have := ih (g e c).2 (by omega) (h.2.2 h2)
   exact ⟨by omega, this.2.1, this.2.2⟩
theorem countP_bound : ∀ (f : Nat) (e : Ex) (c : Int), 0 ≤ c → c ≤ 400 → c ≤ (countP f e c).2 ∧ (countP f e c).2 ≤ 401 ∧ ((countP f e c).1 = true → (countP f e c).2 ≤ 400) := by
 intro f
 induction f with
 | zero => intro e c h0 h1; simp only [countP]; exact ⟨by omega, by omega, fun h => by cases h⟩
 | succ f ih =>
  intro e c h0 h1
  obtain ⟨k, n, ks⟩ := e
  simp only [countP]
  split
  ·exact ⟨by simp only; omega, by simp only; omega, fun h => by cases h⟩
  ·rename_i h
   have := countL_bound ih ks (c + 1) (by omega) (by omega)
   exact ⟨by omega, this.2.1, this.2.2⟩
def isExB (e : Ex) : Bool := (countP 40 e 0).1
/-- An expression is right. -/
def okE (e : Ex) : Bool := rightE e && decide (sizeE e ≤ 400) && decide (depthE e ≤ 40)
theorem countP_right : ∀ (f : Nat) (e : Ex) (c : Int), 0 ≤ c → c ≤ 400 → ((countP f e c).1 = true ↔ rightE e = true ∧ c + sizeE e ≤ 400 ∧ depthE e ≤ f) ∧ ((countP f e c).1 = true → (countP f e c).2 = c + sizeE e) := by
 intro f
 induction f with
 | zero =>
  intro e c _ _
  obtain ⟨k, n, ks⟩ := e
  simp only [countP, Bool.false_eq_true, false_iff, false_implies, and_true, depthE]
  rintro ⟨_, _, h⟩; omega
 | succ f ih =>
  intro e c h0 h1
  obtain ⟨k, n, ks⟩ := e
  have hL : ∀ (ks : List Ex) (c : Int), 0 ≤ c → c ≤ 400 → ((countL (countP f) ks c).1 = true ↔ rightL ks = true ∧ c + sizeL ks ≤ 400 ∧ depthL ks ≤ f) ∧ ((countL (countP f) ks c).1 = true → (countL (countP f) ks c).2 = c + sizeL ks) := by
   intro ks
   induction ks with
   | nil => intro c h0 h1; simp [countL, rightL, sizeL, depthL]; omega
   | cons e r ihr =>
    intro c h0 h1
    obtain ⟨a1, a2⟩ := ih e c h0 h1
    simp only [countL, rightL, sizeL, depthL, Bool.and_eq_true]
    cases h2 : (countP f e c).1 with
    | false =>
     have hn : ¬ (rightE e = true ∧ c + sizeE e ≤ 400 ∧ depthE e ≤ f) := fun h => by have := a1.2 h; rw [h2] at this; cases this
     simp only [cond_false, Bool.false_eq_true, false_iff, false_implies, and_true]
     rintro ⟨⟨q1, q2⟩, q3, q4⟩
     exact hn ⟨q1, by omega, by omega⟩
    | true =>
     obtain ⟨q1, q2, q3⟩ := a1.1 h2
     have e2 := a2 h2
     simp only [cond_true, e2]
     obtain ⟨b1, b2⟩ := ihr (c + sizeE e) (by omega) (by omega)
     refine ⟨b1.trans ⟨fun ⟨r1, r2, r3⟩ => ⟨⟨q1, r1⟩, by omega, by omega⟩, fun ⟨⟨_, r1⟩, r2, r3⟩ => ⟨r1, by omega, by omega⟩⟩, fun h => by rw [b2 h]; omega⟩
  simp only [countP, rightE, sizeE, depthE, Bool.and_eq_true, decide_eq_true_eq]
  split
  ·rename_i h
   simp only [Bool.false_eq_true, false_iff, false_implies, and_true]
   rintro ⟨⟨⟨q1, q2⟩, q3⟩, q4, q5⟩
   rcases h with h | h | h
   ·omega
   ·exact h q2
   ·rw [q1] at h; cases h
  ·rename_i h
   simp only [not_or, Classical.not_not, Bool.not_eq_false] at h
   obtain ⟨g1, g2, g3⟩ := h
   obtain ⟨b1, b2⟩ := hL ks (c + 1) (by omega) (by omega)
   refine ⟨b1.trans ⟨fun ⟨r1, r2, r3⟩ => ⟨⟨⟨g3, g2⟩, r1⟩, by omega, by omega⟩, fun ⟨⟨_, r1⟩, r2, r3⟩ => ⟨r1, by omega, by omega⟩⟩, fun h => by rw [b2 h]; omega⟩
theorem isExB_ok (e : Ex) : isExB e = okE e := by
 have h := (countP_right 40 e 0 (by omega) (by omega)).1
 unfold isExB okE
 rw [Bool.eq_iff_iff, h]
 simp only [Bool.and_eq_true, decide_eq_true_eq]
 constructor
 ·rintro ⟨a, b, c⟩; exact ⟨⟨a, by omega⟩, c⟩
 ·rintro ⟨⟨a, b⟩, c⟩; exact ⟨a, by omega, c⟩
end
section
attribute [local irreducible] SRun DS DRun
variable {Γ : St} {σ σ0 : St}
def szB : Nat → Nat
 | 0 => 0
 | d + 1 => 1 + 3 * szB d
theorem szB_le {d : Nat} (h : d ≤ 7) : szB d ≤ 1093 := by
 have : ∀ k, szB d ≤ szB (d + k) := by
  intro k
  induction k with
  | zero => exact Nat.le_refl _
  | succ k ih => rw [← Nat.add_assoc, szB]; omega
 have h1 := this (7 - d)
 rw [show d + (7 - d) = 7 by omega] at h1
 exact h1
theorem exs_app (es : List Ex) (e : Ex) : exsV es ++ [exV e] = exsV (es ++ [e]) := by simp [exsV]
theorem exV_conv {σ σ' : St} {k n : Int} {q : V} {es : List Ex} (h : Frz σ σ' q (.isl false 3 (exsV es))) : Frz σ σ' (.agg [.int .i64 k, .int .i64 n, q]) (exV (.mk k n es)) := by
 rw [exV_mk]
 exact frz_agg (by exact ⟨.refl _, .refl _, h, trivial⟩) (by simp [V.one])
end
section
attribute [local irreducible] SRun DS DRun
variable {Γ : St} {σ : St}
/-- The formulas that are drawn. -/
theorem within_ok (a b c : Int) : Ret Try.prog Γ 60 [.int .i64 a, .int .i64 b, .int .i64 c] σ (.bool (decide (b ≤ a) && decide (a ≤ c))) σ := by
 refine ret_of c60_ok rfl ?_
 simp only [c60, go_sem, stepW_iaddr_isl, stepW_iaddr_msl, stepW_idxs, stepK_iaddr_isl, stepK_iaddr_msl, stepK_idxs, ne_eq, ↓reduceIte]
 refine guardW_of (fun h => ?_) (fun h => ?_)
 ·have h' := of_decide_eq_true h
  simp only [h, go_sem, stepW_iaddr_isl, stepW_iaddr_msl, stepW_idxs, stepK_iaddr_isl, stepK_iaddr_msl, stepK_idxs, ne_eq, ↓reduceIte]
  exact W_retR c60_ok rfl ⟨rfl, rfl⟩
 ·have h' := of_decide_eq_false h
  simp only [h, go_sem, stepW_iaddr_isl, stepW_iaddr_msl, stepW_idxs, stepK_iaddr_isl, stepK_iaddr_msl, stepK_idxs, ne_eq, ↓reduceIte]
  exact W_retR c60_ok rfl ⟨rfl, rfl⟩
theorem any_find {α : Type} (xs : List α) (p : α → Bool) : decide ((match xs.findIdx? p with | some i => (i : Int) | none => -1) ≥ 0) = xs.any p := by
 cases h : xs.findIdx? p with
 | some i =>
  rw [List.findIdx?_eq_some_iff_getElem] at h
  obtain ⟨hi, hp, _⟩ := h
  have : xs.any p = true := List.any_eq_true.2 ⟨_, List.getElem_mem hi, hp⟩
  rw [this]; exact decide_eq_true (by simp only; omega)
 | none =>
  rw [List.findIdx?_eq_none_iff] at h
  have : xs.any p = false := by rw [List.any_eq_false]; intro x hx; simp [h x hx]
  rw [this]; rfl
end
section
attribute [local irreducible] SRun DS DRun
variable {Γ : St} {σ σ0 : St}
theorem le_under {τ τ' : St} {b : Nat} {c : List V} (h : ∀ d x, τ d = some x → τ' d = some x) : ∀ d x, upd τ b c d = some x → upd τ' b c d = some x := by
 intro d x hd
 by_cases e : d = b
 ·subst e; rw [upd_same] at hd ⊢; exact hd
 ·rw [upd_ne _ _ e] at hd ⊢; exact h _ _ hd
theorem countL_drop {g : Ex → Int → Bool × Int} {ks : List Ex} {i : Nat} {c : Int} (h : i < ks.length) : countL g (ks.drop i) c = bif (g (ks.getD i default) c).1 then countL g (ks.drop (i + 1)) (g (ks.getD i default) c).2 else (false, (g (ks.getD i default) c).2) := by
 rw [drop_cons default h]; rfl
theorem indexFuncE_ok {ex : Bool} {ks : List Ex} {F : FuncId} {caps : List V} {s : Int → St} {g : Ex → Int → Bool × Int} {c0 : Int} (hl : ks.length ≤ 1000000)
  (hg : ∀ e c, 0 ≤ c → c ≤ 400 → c ≤ (g e c).2 ∧ (g e c).2 ≤ 401 ∧ ((g e c).1 = true → (g e c).2 ≤ 400)) (h0 : 0 ≤ c0) (h1 : c0 ≤ 400)
  (hp : ∀ e ∈ ks, ∀ c, 0 ≤ c → c ≤ 400 → Ret Try.prog Γ F (exV e :: caps) (s c) (.bool (!(g e c).1)) (s (g e c).2)) :
  ACalls Try.prog Γ 221 [.isl ex 3 (exsV ks), .fn F caps] (s c0) fun r σ' => ∃ i : Int, decide (i ≥ 0) = (!(countL g ks c0).1) ∧ r = .int .i64 i ∧ σ' = s (countL g ks c0).2 := by
 refine acalls_W c221_ok rfl ?_
 simp (disch := omega) only [c221, go_sem]
 refine W_loopC (α := Nat × Int) (fun p => p.1 ≤ ks.length ∧ 0 ≤ p.2 ∧ p.2 ≤ 400 ∧ countL g ks c0 = countL g (ks.drop p.1) p.2) (fun p => [(0, .isl ex 3 (exsV ks)), (1, .fn F caps), (7, .int .i64 ks.length), (8, .int .i64 (p.1 : Nat))]) (fun p => s p.2) (fun p => ks.length - p.1) (0, c0) ⟨by omega, h0, h1, by simp⟩ (by simp (disch := omega) only [subT, Int.natCast_add, Int.cast_ofNat_Int, go_sem] <;> (repeat' apply And.intro) <;> first | rfl | (congr 1; omega) | assumption) rfl ?_
 rintro ⟨i, c⟩ ⟨hi, hc0, hc1, heq⟩ ih
 dsimp only at hi hc0 hc1 heq
 simp (disch := omega) only [go_sem]
 first | refine iteW_dec (fun hq => ?_) (fun hq => ?_) | refine iteW_of (fun hq => ?_) (fun hq => ?_)
 ·simp (disch := omega) only [go_sem]
  rw [countL_drop (by omega)] at heq
  have hb := hg (ks.getD i default) c hc0 hc1
  refine SRun.callR (hp _ (getD_mem default (by omega)) c hc0 hc1) ⟨caps, rfl, rfl⟩ rfl ?_
  simp (disch := omega) only [go_sem]
  cases h2 : (g (ks.getD i default) c).1 with
  | false =>
   rw [h2] at heq
   simp (disch := omega) only [go_sem]
   refine W_retR c221_ok rfl ⟨i, ?_, rfl, by rw [heq]; rfl⟩
   rw [heq]; exact decide_eq_true (by omega)
  | true =>
   rw [h2] at heq
   simp (disch := omega) only [go_sem]
   exact ih (i + 1, (g (ks.getD i default) c).2) _ _ ⟨by simp only; omega, by simp only; omega, hb.2.2 h2, heq⟩ (by simp only; omega) (by simp (disch := omega) only [subT, Int.natCast_add, Int.cast_ofNat_Int, go_sem] <;> (repeat' apply And.intro) <;> first | rfl | (congr 1; omega) | assumption) rfl
 ·obtain rfl : i = ks.length := by omega
  rw [List.drop_length] at heq
  simp (disch := omega) only [go_sem]
  refine W_retR c221_ok rfl ⟨-1, ?_, rfl, by rw [heq]; rfl⟩
  rw [heq]; rfl
theorem containsFuncE_ok {ex : Bool} {ks : List Ex} {F : FuncId} {caps : List V} {s : Int → St} {g : Ex → Int → Bool × Int} {c0 : Int} (hl : ks.length ≤ 1000000)
  (hg : ∀ e c, 0 ≤ c → c ≤ 400 → c ≤ (g e c).2 ∧ (g e c).2 ≤ 401 ∧ ((g e c).1 = true → (g e c).2 ≤ 400)) (h0 : 0 ≤ c0) (h1 : c0 ≤ 400)
  (hp : ∀ e ∈ ks, ∀ c, 0 ≤ c → c ≤ 400 → Ret Try.prog Γ F (exV e :: caps) (s c) (.bool (!(g e c).1)) (s (g e c).2)) :
  Ret Try.prog Γ 197 [.isl ex 3 (exsV ks), .fn F caps] (s c0) (.bool (!(countL g ks c0).1)) (s (countL g ks c0).2) := by
 refine ret_of c197_ok rfl ?_
 simp (disch := omega) only [c197, go_sem]
 refine SRun.callQ (indexFuncE_ok (s := s) hl hg h0 h1 hp) ⟨[], rfl, rfl⟩ rfl ?_
 rintro r s ⟨i, hi, rfl, rfl⟩
 simp (disch := omega) only [go_sem]
 refine W_retR c197_ok rfl ⟨?_, rfl⟩
 simp only [look, ev, V.bool.injEq, V.int.injEq, V.str.injEq, V.tup.injEq, V.agg.injEq, V.isl.injEq, List.cons.injEq, true_and, and_true, Nat.reduceEqDiff, Nat.reduceAdd, Nat.reduceSub, Nat.reduceMul, Nat.reducePow, Nat.reduceDiv, Nat.reduceMod, Int.reduceToNat, Nat.reduceLeDiff, Nat.reduceLT, Int.reduceEq, Int.reduceLT, Int.reduceLE, Int.reduceGT, Int.reduceGE, Int.reduceNeg, Int.reduceSub, Int.reduceAdd, Int.reduceMul, Int.reducePow, ne_eq, reduceCtorEq, ↓reduceIte]
 exact hi
theorem kidsOf_ok (k : Int) : Ret Try.prog Γ 199 [.int .i64 k] σ (.int .i64 (arity k)) σ := by
 refine ret_of c199_ok rfl ?_
 simp (disch := omega) only [c199, go_sem]
 first | refine iteW_dec (fun h1 => ?_) (fun h1 => ?_) | refine iteW_of (fun h1 => ?_) (fun h1 => ?_)
 ·simp (disch := omega) only [go_sem]
  refine W_retR c199_ok rfl ⟨?_, rfl⟩
  simp only [look, ev, V.bool.injEq, V.int.injEq, V.str.injEq, V.tup.injEq, V.agg.injEq, V.isl.injEq, List.cons.injEq, true_and, and_true, arity, h1, true_or, or_true, or_self, Nat.reduceEqDiff, Nat.reduceAdd, Nat.reduceSub, Nat.reduceMul, Nat.reducePow, Nat.reduceDiv, Nat.reduceMod, Int.reduceToNat, Nat.reduceLeDiff, Nat.reduceLT, Int.reduceEq, Int.reduceLT, Int.reduceLE, Int.reduceGT, Int.reduceGE, Int.reduceNeg, Int.reduceSub, Int.reduceAdd, Int.reduceMul, Int.reducePow, ne_eq, reduceCtorEq, ↓reduceIte]
 simp (disch := omega) only [go_sem]
 first | refine iteW_dec (fun h2 => ?_) (fun h2 => ?_) | refine iteW_of (fun h2 => ?_) (fun h2 => ?_)
 ·simp (disch := omega) only [go_sem]
  refine W_retR c199_ok rfl ⟨?_, rfl⟩
  simp only [look, ev, V.bool.injEq, V.int.injEq, V.str.injEq, V.tup.injEq, V.agg.injEq, V.isl.injEq, List.cons.injEq, true_and, and_true, arity, h2, true_or, or_true, or_self, Nat.reduceEqDiff, Nat.reduceAdd, Nat.reduceSub, Nat.reduceMul, Nat.reducePow, Nat.reduceDiv, Nat.reduceMod, Int.reduceToNat, Nat.reduceLeDiff, Nat.reduceLT, Int.reduceEq, Int.reduceLT, Int.reduceLE, Int.reduceGT, Int.reduceGE, Int.reduceNeg, Int.reduceSub, Int.reduceAdd, Int.reduceMul, Int.reducePow, ne_eq, reduceCtorEq, ↓reduceIte]
 simp (disch := omega) only [go_sem]
 first | refine iteW_dec (fun h3 => ?_) (fun h3 => ?_) | refine iteW_of (fun h3 => ?_) (fun h3 => ?_)
 ·simp (disch := omega) only [go_sem]
  refine W_retR c199_ok rfl ⟨?_, rfl⟩
  simp only [look, ev, V.bool.injEq, V.int.injEq, V.str.injEq, V.tup.injEq, V.agg.injEq, V.isl.injEq, List.cons.injEq, true_and, and_true, arity, h3, true_or, or_true, or_self, Nat.reduceEqDiff, Nat.reduceAdd, Nat.reduceSub, Nat.reduceMul, Nat.reducePow, Nat.reduceDiv, Nat.reduceMod, Int.reduceToNat, Nat.reduceLeDiff, Nat.reduceLT, Int.reduceEq, Int.reduceLT, Int.reduceLE, Int.reduceGT, Int.reduceGE, Int.reduceNeg, Int.reduceSub, Int.reduceAdd, Int.reduceMul, Int.reducePow, ne_eq, reduceCtorEq, ↓reduceIte]
 simp (disch := omega) only [go_sem]
 first | refine iteW_dec (fun h4 => ?_) (fun h4 => ?_) | refine iteW_of (fun h4 => ?_) (fun h4 => ?_)
 ·simp (disch := omega) only [go_sem]
  refine W_retR c199_ok rfl ⟨?_, rfl⟩
  simp only [look, ev, V.bool.injEq, V.int.injEq, V.str.injEq, V.tup.injEq, V.agg.injEq, V.isl.injEq, List.cons.injEq, true_and, and_true, arity, h4, true_or, or_true, or_self, Nat.reduceEqDiff, Nat.reduceAdd, Nat.reduceSub, Nat.reduceMul, Nat.reducePow, Nat.reduceDiv, Nat.reduceMod, Int.reduceToNat, Nat.reduceLeDiff, Nat.reduceLT, Int.reduceEq, Int.reduceLT, Int.reduceLE, Int.reduceGT, Int.reduceGE, Int.reduceNeg, Int.reduceSub, Int.reduceAdd, Int.reduceMul, Int.reducePow, ne_eq, reduceCtorEq, ↓reduceIte]
 simp (disch := omega) only [go_sem]
 first | refine iteW_dec (fun h5 => ?_) (fun h5 => ?_) | refine iteW_of (fun h5 => ?_) (fun h5 => ?_)
 ·simp (disch := omega) only [go_sem]
  refine W_retR c199_ok rfl ⟨?_, rfl⟩
  simp only [look, ev, V.bool.injEq, V.int.injEq, V.str.injEq, V.tup.injEq, V.agg.injEq, V.isl.injEq, List.cons.injEq, true_and, and_true, arity, h5, true_or, or_true, or_self, Nat.reduceEqDiff, Nat.reduceAdd, Nat.reduceSub, Nat.reduceMul, Nat.reducePow, Nat.reduceDiv, Nat.reduceMod, Int.reduceToNat, Nat.reduceLeDiff, Nat.reduceLT, Int.reduceEq, Int.reduceLT, Int.reduceLE, Int.reduceGT, Int.reduceGE, Int.reduceNeg, Int.reduceSub, Int.reduceAdd, Int.reduceMul, Int.reducePow, ne_eq, reduceCtorEq, ↓reduceIte]
 simp (disch := omega) only [go_sem]
 first | refine iteW_dec (fun h6 => ?_) (fun h6 => ?_) | refine iteW_of (fun h6 => ?_) (fun h6 => ?_)
 ·simp (disch := omega) only [go_sem]
  refine W_retR c199_ok rfl ⟨?_, rfl⟩
  simp only [look, ev, V.bool.injEq, V.int.injEq, V.str.injEq, V.tup.injEq, V.agg.injEq, V.isl.injEq, List.cons.injEq, true_and, and_true, arity, h6, true_or, or_true, or_self, Nat.reduceEqDiff, Nat.reduceAdd, Nat.reduceSub, Nat.reduceMul, Nat.reducePow, Nat.reduceDiv, Nat.reduceMod, Int.reduceToNat, Nat.reduceLeDiff, Nat.reduceLT, Int.reduceEq, Int.reduceLT, Int.reduceLE, Int.reduceGT, Int.reduceGE, Int.reduceNeg, Int.reduceSub, Int.reduceAdd, Int.reduceMul, Int.reducePow, ne_eq, reduceCtorEq, ↓reduceIte]
 simp (disch := omega) only [go_sem]
 first | refine iteW_dec (fun h7 => ?_) (fun h7 => ?_) | refine iteW_of (fun h7 => ?_) (fun h7 => ?_)
 ·simp (disch := omega) only [go_sem]
  refine W_retR c199_ok rfl ⟨?_, rfl⟩
  simp only [look, ev, V.bool.injEq, V.int.injEq, V.str.injEq, V.tup.injEq, V.agg.injEq, V.isl.injEq, List.cons.injEq, true_and, and_true, arity, h7, true_or, or_true, or_self, Nat.reduceEqDiff, Nat.reduceAdd, Nat.reduceSub, Nat.reduceMul, Nat.reducePow, Nat.reduceDiv, Nat.reduceMod, Int.reduceToNat, Nat.reduceLeDiff, Nat.reduceLT, Int.reduceEq, Int.reduceLT, Int.reduceLE, Int.reduceGT, Int.reduceGE, Int.reduceNeg, Int.reduceSub, Int.reduceAdd, Int.reduceMul, Int.reducePow, ne_eq, reduceCtorEq, ↓reduceIte]
 simp (disch := omega) only [go_sem]
 refine W_retR c199_ok rfl ⟨?_, rfl⟩
 simp only [look, ev, V.bool.injEq, V.int.injEq, V.str.injEq, V.tup.injEq, V.agg.injEq, V.isl.injEq, List.cons.injEq, true_and, and_true, arity, h1, h2, h3, h4, h5, h6, h7, true_or, or_true, or_self, Nat.reduceEqDiff, Nat.reduceAdd, Nat.reduceSub, Nat.reduceMul, Nat.reducePow, Nat.reduceDiv, Nat.reduceMod, Int.reduceToNat, Nat.reduceLeDiff, Nat.reduceLT, Int.reduceEq, Int.reduceLT, Int.reduceLE, Int.reduceGT, Int.reduceGE, Int.reduceNeg, Int.reduceSub, Int.reduceAdd, Int.reduceMul, Int.reducePow, ne_eq, reduceCtorEq, ↓reduceIte]
theorem sizeL_len (ks : List Ex) : ks.length ≤ sizeL ks := by
 induction ks with
 | nil => simp [sizeL]
 | cons e r ih => simp only [sizeL, List.length_cons]; have := sizeE_pos e; omega
theorem countEx1_ok {e : Ex} {b b4 b5 : Nat} {d : Int} {τ : St} {z z' : List V} {q : Bool} (h4 : upd τ b z b4 = some [.int .i64 d]) (h5 : upd τ b z b5 = some [.ptr b 0]) (hd : 0 ≤ d ∧ d ≤ 1000) (h : ∀ σ, Ret Try.prog Γ 150 [exV e, .int .i64 (d + 1), .ptr b 0] (upd σ b z) (.bool q) (upd σ b z')) : Ret Try.prog Γ 200 [exV e, .ptr b4 0, .ptr b5 0] (upd τ b z) (.bool (!q)) (upd τ b z') := by
 refine ret_of c200_ok rfl ?_
 simp (disch := omega) only [c200, go_sem]
 refine SRun.boxR (by show ∀ c ∈ (exV e).cells, _; rw [cells_exV]; exact exC_one e) ?_
 intro b3 hb3
 have n3 := upd_none.1 hb3
 have g4 : upd (upd τ b z) b3 (exC e) b4 = _ := le_upd hb3 _ _ h4
 have g5 : upd (upd τ b z) b3 (exC e) b5 = _ := le_upd hb3 _ _ h5
 have h1 := exC_one e
 simp (disch := omega) only [g4, g5, h1, go_sem]
 rw [upd_comm _ n3.1.symm]
 refine SRun.callR (h _) ⟨[], rfl, rfl⟩ rfl ?_
 simp (disch := omega) only [go_sem]
 exact W_retC c200_ok rfl (Conv.drop _ (le_under (le_upd n3.2))) ⟨rfl, rfl⟩
set_option maxHeartbeats 1000000 in
theorem countEx_step {f : Nat} {b : Nat} {k n : Int} {ks : List Ex} {c : Int} (hf : f ≤ 40) (hc0 : 0 ≤ c) (hc1 : c ≤ 400) (hl : ks.length ≤ 1000000)
  (hk : ∀ m, f = m + 1 → ∀ {Γ σ : St}, ∀ e ∈ ks, ∀ c, 0 ≤ c → c ≤ 400 → Ret Try.prog Γ 150 [exV e, .int .i64 (41 - m), .ptr b 0] (upd σ b [.int .i64 c]) (.bool (countP m e c).1) (upd σ b [.int .i64 (countP m e c).2])) :
  Ret Try.prog Γ 150 [exV (.mk k n ks), .int .i64 (41 - f), .ptr b 0] (upd σ b [.int .i64 c]) (.bool (countP f (.mk k n ks) c).1) (upd σ b [.int .i64 (countP f (.mk k n ks) c).2]) := by
 refine ret_of c150_ok rfl ?_
 simp (disch := omega) only [c150, exV_mk, go_sem]
 refine SRun.boxR (by simp [ev, look, V.cells, V.one]) ?_
 intro b3 hb3
 simp (disch := omega) only [go_sem]
 refine SRun.boxR (by simp [ev, look, V.cells, V.one]) ?_
 intro b4 hb4
 simp (disch := omega) only [go_sem]
 refine SRun.boxR (by simp [ev, look, V.cells, V.one]) ?_
 intro b5 hb5
 have n3 := upd_none.1 hb3
 have n4 := upd_none.1 hb4
 have n4' := upd_none.1 n4.2
 have n5 := upd_none.1 hb5
 have n5' := upd_none.1 n5.2
 have n5'' := upd_none.1 n5'.2
 have m3 := n3.1.symm
 have m4 := n4'.1.symm
 have m5 := n5''.1.symm
 have m34 := n4.1.symm
 have m45 := n5.1.symm
 have m35 := n5'.1.symm
 simp (disch := omega) only [n3.1, m3, n4.1, n4'.1, m4, n5.1, n5'.1, n5''.1, m5, m34, m45, m35, exC_mk, go_sem]
 have hle : ∀ d x, upd σ b [.int .i64 c] d = some x → (upd (upd (upd (upd σ b [V.int IntKind.i64 c]) b3 [V.int IntKind.i64 k, V.int IntKind.i64 n, V.isl false 3 (exsV ks)]) b4 [V.int IntKind.i64 (41 - ↑f)]) b5 [V.ptr b 0]) d = some x := fun d x h => le_upd hb5 _ _ (le_upd hb4 _ _ (le_upd hb3 _ _ h))
 have g3 : ∀ z, upd (upd (upd (upd (upd σ b [V.int IntKind.i64 c]) b3 [V.int IntKind.i64 k, V.int IntKind.i64 n, V.isl false 3 (exsV ks)]) b4 [V.int IntKind.i64 (41 - ↑f)]) b5 [V.ptr b 0]) b z b3 = some [V.int IntKind.i64 k, V.int IntKind.i64 n, V.isl false 3 (exsV ks)] := fun z => by rw [upd_ne _ _ n3.1, upd_ne _ _ m35, upd_ne _ _ m34, upd_same]
 have g4 : ∀ z, upd (upd (upd (upd (upd σ b [V.int IntKind.i64 c]) b3 [V.int IntKind.i64 k, V.int IntKind.i64 n, V.isl false 3 (exsV ks)]) b4 [V.int IntKind.i64 (41 - ↑f)]) b5 [V.ptr b 0]) b z b4 = some [V.int IntKind.i64 (41 - ↑f)] := fun z => by rw [upd_ne _ _ n4'.1, upd_ne _ _ m45, upd_same]
 have g5 : ∀ z, upd (upd (upd (upd (upd σ b [V.int IntKind.i64 c]) b3 [V.int IntKind.i64 k, V.int IntKind.i64 n, V.isl false 3 (exsV ks)]) b4 [V.int IntKind.i64 (41 - ↑f)]) b5 [V.ptr b 0]) b z b5 = some [V.ptr b 0] := fun z => by rw [upd_ne _ _ n5''.1, upd_same]
 generalize upd (upd (upd (upd σ b [V.int IntKind.i64 c]) b3 [V.int IntKind.i64 k, V.int IntKind.i64 n, V.isl false 3 (exsV ks)]) b4 [V.int IntKind.i64 (41 - ↑f)]) b5 [V.ptr b 0] = τ at *
 have hle2 : ∀ (z : List V) d x, upd σ b z d = some x → upd τ b z d = some x := fun z d x h => by
  rw [← upd_upd σ b [.int .i64 c]] at h
  exact le_under hle d x h
 have hfin : (c + 1 > 400 ∨ f = 0 ∨ (ks.length : Int) ≠ arity k ∨ numOK k n = false) → countP f (.mk k n ks) c = (false, c + 1) := by
  intro h
  cases f with
  | zero => rfl
  | succ m =>
   rw [countP, if_pos]
   rcases h with h | h | h | h
   ·exact .inl h
   ·omega
   ·exact .inr (.inl h)
   ·exact .inr (.inr h)
 first | refine iteW_dec (fun h1 => ?_) (fun h1 => ?_) | refine iteW_of (fun h1 => ?_) (fun h1 => ?_)
 case' refine_2 =>
  simp (disch := omega) only [go_sem]
  first | refine iteW_dec (fun h2 => ?_) (fun h2 => ?_) | refine iteW_of (fun h2 => ?_) (fun h2 => ?_)
 case' refine_1 =>
  simp (disch := omega) only [g3, go_sem]
  refine SRun.callR (within_ok _ _ _) ⟨[], rfl, rfl⟩ rfl ?_
  simp (disch := omega) only [g5, go_sem]
  rw [show (decide (0 ≤ n) && decide (n ≤ 11)) = numOK k n by rw [numOK, if_pos h1]]
 case' refine_2.refine_1 =>
  simp (disch := omega) only [g3, go_sem]
  refine SRun.callR (within_ok _ _ _) ⟨[], rfl, rfl⟩ rfl ?_
  simp (disch := omega) only [g5, go_sem]
  rw [show (decide (0 ≤ n) && decide (n ≤ 1)) = numOK k n by rw [numOK, if_neg h1, if_pos h2]]
 case' refine_2.refine_2 =>
  simp (disch := omega) only [go_sem]
  rw [show (decide (n = 0)) = numOK k n by rw [numOK, if_neg h1, if_neg h2]]
 all_goals
  by_cases hA : c + 1 > 400
  ·have hA' : decide (c + 1 > 400) = true := decide_eq_true hA
   refine W_drawW ?_
   simp (disch := omega) only [g5, g4, g3, hA', go_sem]
   refine DRun.mixE rfl ?_
   simp (disch := omega) only [go_sem]
   refine DS.skipG rfl rfl ?_
   simp (disch := omega) only [go_sem]
   rw [hfin (.inl hA)]
   exact W_retC c150_ok rfl (Conv.drop _ (hle2 _)) ⟨rfl, rfl⟩
  ·have hA' : decide (c + 1 > 400) = false := decide_eq_false hA
   by_cases hB : 41 - (f : Int) > 40
   ·have hB' : decide (41 - (f : Int) > 40) = true := decide_eq_true hB
    refine W_drawW ?_
    simp (disch := omega) only [g5, g4, g3, hA', hB', go_sem]
    refine DRun.mixE rfl ?_
    simp (disch := omega) only [go_sem]
    refine DS.skipG rfl rfl ?_
    simp (disch := omega) only [go_sem]
    rw [hfin (.inr (.inl (by omega)))]
    exact W_retC c150_ok rfl (Conv.drop _ (hle2 _)) ⟨rfl, rfl⟩
   ·have hB' : decide (41 - (f : Int) > 40) = false := decide_eq_false hB
    refine W_drawW ?_
    simp (disch := omega) only [g5, g4, g3, hA', hB', go_sem]
    refine DRun.mixE rfl ?_
    simp (disch := omega) only [g3, go_sem]
    refine DS.callG (kidsOf_ok k) ⟨[], rfl, rfl⟩ rfl rfl ?_
    rintro r s ⟨rfl, rfl⟩ _
    by_cases hC : (ks.length : Int) = arity k
    ·have hC' : decide (¬ (ks.length : Int) = arity k) = false := decide_eq_false (fun h => h hC)
     simp (disch := omega) only [hC', go_sem]
     first | refine iteW_dec (fun hN => ?_) (fun hN => ?_) | refine iteW_of (fun hN => ?_) (fun hN => ?_)
     ·simp (disch := omega) only [go_sem]
      have hN' : numOK k n = false := by simpa using hN
      rw [hfin (.inr (.inr (.inr hN')))]
      exact W_retC c150_ok rfl (Conv.drop _ (hle2 _)) ⟨rfl, rfl⟩
     ·have hN' : numOK k n = true := by simpa using hN
      obtain ⟨m, rfl⟩ : ∃ m, f = m + 1 := ⟨f - 1, by omega⟩
      simp (disch := omega) only [g3, go_sem]
      refine SRun.callR (containsFuncE_ok (s := fun c => upd τ b [.int .i64 c]) hl (countP_bound m) (by omega) (by omega) (fun e he c hc0 hc1 => countEx1_ok (g4 _) (g5 _) (by omega) (fun σ => by rw [show (41 : Int) - ((m + 1 : Nat) : Int) + 1 = 41 - m by omega]; exact hk m rfl e he c hc0 hc1))) ⟨[], rfl, rfl⟩ rfl ?_
      simp (disch := omega) only [go_sem]
      refine W_retC c150_ok rfl (Conv.drop _ (hle2 _)) ⟨?_, ?_⟩
      ·simp only [look, ev, V.bool.injEq, V.int.injEq, V.str.injEq, V.tup.injEq, V.agg.injEq, V.isl.injEq, List.cons.injEq, true_and, and_true, countP, Nat.reduceEqDiff, Nat.reduceAdd, Nat.reduceSub, Nat.reduceMul, Nat.reducePow, Nat.reduceDiv, Nat.reduceMod, Int.reduceToNat, Nat.reduceLeDiff, Nat.reduceLT, Int.reduceEq, Int.reduceLT, Int.reduceLE, Int.reduceGT, Int.reduceGE, Int.reduceNeg, Int.reduceSub, Int.reduceAdd, Int.reduceMul, Int.reducePow, ne_eq, reduceCtorEq, ↓reduceIte]
       rw [if_neg (by rw [hC, hN']; simp; omega), Bool.not_not]
      ·rw [countP, if_neg (by rw [hC, hN']; simp; omega)]
    ·have hC' : decide (¬ (ks.length : Int) = arity k) = true := decide_eq_true hC
     simp (disch := omega) only [hC', go_sem]
     rw [hfin (.inr (.inr (.inl hC)))]
     exact W_retC c150_ok rfl (Conv.drop _ (hle2 _)) ⟨rfl, rfl⟩
theorem countEx_ok : ∀ (f : Nat) {Γ σ : St} {b : Nat} (e : Ex) (c : Int), f ≤ 40 → 0 ≤ c → c ≤ 400 → sizeE e ≤ 1000000 →
  Ret Try.prog Γ 150 [exV e, .int .i64 (41 - f), .ptr b 0] (upd σ b [.int .i64 c]) (.bool (countP f e c).1) (upd σ b [.int .i64 (countP f e c).2]) := by
 intro f
 induction f with
 | zero =>
  intro Γ σ b e c hf hc0 hc1 hsz
  obtain ⟨k, n, ks⟩ := e
  have := sizeL_len ks
  simp only [sizeE] at hsz
  exact countEx_step hf hc0 hc1 (by omega) (fun m h => by omega)
 | succ f ih =>
  intro Γ σ b e c hf hc0 hc1 hsz
  obtain ⟨k, n, ks⟩ := e
  have := sizeL_len ks
  simp only [sizeE] at hsz
  refine countEx_step hf hc0 hc1 (by omega) (fun m h => ?_)
  obtain rfl : m = f := by omega
  intro Γ σ e he c h0 h1
  have := sizeL_mem he
  exact ih e c (by omega) h0 h1 (by omega)
theorem isEx_ok {e : Ex} (hsz : sizeE e ≤ 1000000) : Ret Try.prog Γ 69 [exV e] σ (.bool (okE e)) σ := by
 refine ret_of c69_ok rfl ?_
 simp (disch := omega) only [c69, go_sem]
 refine SRun.boxR (by show ∀ c ∈ (exV e).cells, _; rw [cells_exV]; exact exC_one e) ?_
 intro b1 hb1
 simp (disch := omega) only [go_sem]
 refine SRun.allocR ?_
 intro b3 hb3
 have n3 := upd_none.1 hb3
 have h1 := exC_one e
 have hne := n3.1.symm
 simp (disch := omega) only [h1, hne, go_sem]
 refine SRun.callR (countEx_ok 40 e 0 (by omega) (by omega) (by omega) hsz) ⟨[], rfl, rfl⟩ rfl ?_
 simp (disch := omega) only [go_sem]
 refine W_retC c69_ok rfl (Conv.drop _ fun c x hc => le_upd hb3 _ _ (le_upd hb1 _ _ hc)) ⟨?_, rfl⟩
 simp only [look, ev, V.bool.injEq, V.int.injEq, V.str.injEq, V.tup.injEq, V.agg.injEq, V.isl.injEq, List.cons.injEq, true_and, and_true, Nat.reduceEqDiff, Nat.reduceAdd, Nat.reduceSub, Nat.reduceMul, Nat.reducePow, Nat.reduceDiv, Nat.reduceMod, Int.reduceToNat, Nat.reduceLeDiff, Nat.reduceLT, Int.reduceEq, Int.reduceLT, Int.reduceLE, Int.reduceGT, Int.reduceGE, Int.reduceNeg, Int.reduceSub, Int.reduceAdd, Int.reduceMul, Int.reducePow, ne_eq, reduceCtorEq, ↓reduceIte]
 rw [← isExB_ok]; rfl
end
section
attribute [local irreducible] SRun DS DRun
variable {Γ : St} {σ σ0 : St}
theorem sets_exC (x y z : V) (e : Ex) : sets [x, y, z] 0 (exC e) = exC e := by obtain ⟨k, n, ks⟩ := e; rfl
attribute [go_sem] sets_exC
end
section
attribute [local irreducible] SRun DS DRun
variable {Γ : St} {σ σ0 : St}
theorem l01In_ok (a b c : Int) : Ret Try.prog Γ 63 [.int .i64 a, .int .i64 b, .int .i64 c] σ (.bool (decide (b ≤ a) && decide (a ≤ c))) σ := by
 refine ret_of c63_ok rfl ?_
 simp (disch := omega) only [c63, go_sem]
 first | refine guardW_dec (fun h => ?_) (fun h => ?_) | refine guardW_by (fun h => ?_) (fun h => ?_)
 ·have h' : decide (b ≤ a) = true := decide_eq_true (by omega)
  simp (disch := omega) only [go_sem]
  refine W_retR c63_ok rfl ⟨?_, rfl⟩
  simp only [look, ev, V.bool.injEq, V.int.injEq, V.str.injEq, V.tup.injEq, V.agg.injEq, V.isl.injEq, List.cons.injEq, true_and, and_true, h', Bool.true_and, Nat.reduceEqDiff, Nat.reduceAdd, Nat.reduceSub, Nat.reduceMul, Nat.reducePow, Nat.reduceDiv, Nat.reduceMod, Int.reduceToNat, Nat.reduceLeDiff, Nat.reduceLT, Int.reduceEq, Int.reduceLT, Int.reduceLE, Int.reduceGT, Int.reduceGE, Int.reduceNeg, Int.reduceSub, Int.reduceAdd, Int.reduceMul, Int.reducePow, ne_eq, reduceCtorEq, ↓reduceIte]
 ·have h' : decide (b ≤ a) = false := decide_eq_false (by omega)
  simp (disch := omega) only [go_sem]
  refine W_retR c63_ok rfl ⟨?_, rfl⟩
  simp only [look, ev, V.bool.injEq, V.int.injEq, V.str.injEq, V.tup.injEq, V.agg.injEq, V.isl.injEq, List.cons.injEq, true_and, and_true, h', Bool.false_and, Nat.reduceEqDiff, Nat.reduceAdd, Nat.reduceSub, Nat.reduceMul, Nat.reducePow, Nat.reduceDiv, Nat.reduceMod, Int.reduceToNat, Nat.reduceLeDiff, Nat.reduceLT, Int.reduceEq, Int.reduceLT, Int.reduceLE, Int.reduceGT, Int.reduceGE, Int.reduceNeg, Int.reduceSub, Int.reduceAdd, Int.reduceMul, Int.reducePow, ne_eq, reduceCtorEq, ↓reduceIte]
theorem l04Right_ok : ∀ e, ∀ {Γ σ : St}, rightE e = true → sizeE e ≤ 1000000 → Ret Try.prog Γ 154 [exV e] σ (.bool true) σ := by
 refine Ex.ind fun k n ks ih Γ σ hr hsz => ?_
 have hlen := sizeL_len ks
 simp only [sizeE] at hsz
 have hr' := hr
 simp only [rightE, Bool.and_eq_true, decide_eq_true_eq, rightL_all, List.all_eq_true] at hr'
 obtain ⟨⟨hn, hk⟩, hall⟩ := hr'
 refine ret_of c154_ok rfl ?_
 simp (disch := omega) only [c154, exV_mk, go_sem]
 refine SRun.boxR (by simp [ev, look, V.cells, V.one]) ?_
 intro b1 hb1
 have g1 : upd σ b1 [.int .i64 k, .int .i64 n, .isl false 3 (exsV ks)] b1 = some [.int .i64 k, .int .i64 n, .isl false 3 (exsV ks)] := upd_same _ _ _
 have hle : ∀ d x, σ d = some x → upd σ b1 [.int .i64 k, .int .i64 n, .isl false 3 (exsV ks)] d = some x := le_upd hb1
 by_cases k1 : k = 1
 ·subst k1
  simp [numOK] at hn
  simp [arity] at hk
  subst hk
  simp (disch := omega) only [g1, exC_mk, go_sem]
  refine SRun.callR (l01In_ok n 0 11) ⟨[], rfl, rfl⟩ rfl ?_
  simp (disch := omega) only [List.getD_cons_zero, List.getD_cons_succ, go_sem]
  have hb : (decide (0 ≤ n) && decide (n ≤ 11)) = true := by simp; omega
  simp (disch := omega) only [hb, g1, exC_mk, go_sem]
  refine W_retC c154_ok rfl (Conv.drop _ hle) ⟨?_, rfl⟩
  simp only [look, ev, V.bool.injEq, V.int.injEq, V.str.injEq, V.tup.injEq, V.agg.injEq, V.isl.injEq, List.cons.injEq, true_and, and_true, Nat.reduceEqDiff, Nat.reduceAdd, Nat.reduceSub, Nat.reduceMul, Nat.reducePow, Nat.reduceDiv, Nat.reduceMod, Int.reduceToNat, Nat.reduceLeDiff, Nat.reduceLT, Int.reduceEq, Int.reduceLT, Int.reduceLE, Int.reduceGT, Int.reduceGE, Int.reduceNeg, Int.reduceSub, Int.reduceAdd, Int.reduceMul, Int.reducePow, ne_eq, reduceCtorEq, ↓reduceIte]
 by_cases k2 : k = 2
 ·subst k2
  simp [numOK] at hn
  simp [arity] at hk
  subst hk
  simp (disch := omega) only [g1, exC_mk, go_sem]
  refine SRun.callR (l01In_ok n 0 1) ⟨[], rfl, rfl⟩ rfl ?_
  simp (disch := omega) only [List.getD_cons_zero, List.getD_cons_succ, go_sem]
  have hb : (decide (0 ≤ n) && decide (n ≤ 1)) = true := by simp; omega
  simp (disch := omega) only [hb, g1, exC_mk, go_sem]
  refine W_retC c154_ok rfl (Conv.drop _ hle) ⟨?_, rfl⟩
  simp only [look, ev, V.bool.injEq, V.int.injEq, V.str.injEq, V.tup.injEq, V.agg.injEq, V.isl.injEq, List.cons.injEq, true_and, and_true, Nat.reduceEqDiff, Nat.reduceAdd, Nat.reduceSub, Nat.reduceMul, Nat.reducePow, Nat.reduceDiv, Nat.reduceMod, Int.reduceToNat, Nat.reduceLeDiff, Nat.reduceLT, Int.reduceEq, Int.reduceLT, Int.reduceLE, Int.reduceGT, Int.reduceGE, Int.reduceNeg, Int.reduceSub, Int.reduceAdd, Int.reduceMul, Int.reducePow, ne_eq, reduceCtorEq, ↓reduceIte]
 rw [numOK, if_neg k1, if_neg k2, decide_eq_true_eq] at hn
 subst hn
 have hkk : k = 3 ∨ k = 4 ∨ k = 5 ∨ k = 6 ∨ k = 7 := by
  unfold arity at hk
  rw [if_neg (by omega)] at hk
  by_cases k3 : k = 3
  ·exact .inl k3
  rw [if_neg k3] at hk
  by_cases k4 : k = 4 ∨ k = 5 ∨ k = 6
  ·omega
  rw [if_neg k4] at hk
  by_cases k7 : k = 7
  ·omega
  ·rw [if_neg k7] at hk; omega
 rcases hkk with rfl | rfl | rfl | rfl | rfl
 all_goals
  simp [arity] at hk
  have hnl : ¬ ((0 : Int) ≠ 0) := by omega
  simp (disch := omega) only [g1, exC_mk, go_sem]
  refine W_loopC (α := Nat) (fun i => i ≤ ks.length) (fun i => [(1, .ptr b1 0), (3, .int .i64 ks.length), (4, .int .i64 (i : Nat))]) (fun _ => upd σ b1 _) (fun i => ks.length - i) 0 (by omega) (by simp (disch := omega) only [subT, Int.natCast_add, Int.cast_ofNat_Int, hk, go_sem] <;> (repeat' apply And.intro) <;> first | rfl | (congr 1; omega) | assumption) rfl ?_
  intro i hi ih2
  simp (disch := omega) only [go_sem]
  first | refine iteW_dec (fun hq => ?_) (fun hq => ?_) | refine iteW_of (fun hq => ?_) (fun hq => ?_)
  ·have he := getD_mem default (by omega : i < ks.length)
   have hsz2 := sizeL_mem he
   simp (disch := omega) only [g1, exC_mk, go_sem]
   refine SRun.callR (ih _ he (hall _ he) (by omega)) ⟨[], rfl, rfl⟩ rfl ?_
   simp (disch := omega) only [List.getD_cons_zero, List.getD_cons_succ, go_sem]
   exact ih2 (i + 1) _ _ (by omega) (by omega) (by simp (disch := omega) only [subT, Int.natCast_add, Int.cast_ofNat_Int, go_sem] <;> (repeat' apply And.intro) <;> first | rfl | (congr 1; omega) | assumption) rfl
  ·simp (disch := omega) only [go_sem]
   exact W_retC c154_ok rfl (Conv.drop _ hle) ⟨rfl, rfl⟩
end
section
attribute [local irreducible] SRun DS DRun
variable {Γ : St} {σ σ0 : St}
theorem stepK_eqa2 {σ : St} {K : V → St → Prop} (a b c d : Int) : stepK (.eqa false [0, 0] (.c (.agg [.int .i64 a, .int .i64 b])) (.c (.agg [.int .i64 c, .int .i64 d]))) σ K = K (.bool (decide (a = c ∧ b = d))) σ := by
 rw [stepK_eqa]
 have : (a == c && (b == d && true)) = decide (a = c ∧ b = d) := by rw [Bool.eq_iff_iff]; simp
 simp [pureK, pureI, ev, eqK]
 exact Iff.rfl
attribute [go_sem] stepK_eqa2
end
end Go.Proofs.Ytlidjjjpjndneaa.Lg
