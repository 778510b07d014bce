/- Expressions: their variables, their values. -/
import Derived.Test.YtlidjjjpjndneaaEd
set_option linter.unusedSimpArgs false
set_option linter.unusedVariables false
namespace Go.Proofs.Ytlidjjjpjndneaa.Lg
open Go
attribute [local irreducible] SRun DS DRun
variable {Γ : St} {σ σ0 : St}
def bools (xs : List Bool) : List V := xs.map V.bool
def boolsV (xs : List Bool) : V := .isl false 1 (bools xs)
theorem bools_one (xs : List Bool) : ∀ c ∈ bools xs, c.one = true := by
  intro c hc; simp only [bools, List.mem_map] at hc; obtain ⟨x, _, rfl⟩ := hc; rfl
theorem bools_len (xs : List Bool) : (bools xs).length = xs.length := by simp [bools]
theorem one1 {α : Type} {l : List α} (h : (l.length : Int) = 1) : ∃ a, l = [a] := by
  match l, h with
  | [a], _ => exact ⟨a, rfl⟩
  | [], h => simp at h
  | a :: b :: r, h => simp only [List.length_cons] at h; omega
theorem one2 {α : Type} {l : List α} (h : (l.length : Int) = 2) : ∃ a b, l = [a, b] := by
  match l, h with
  | [a, b], _ => exact ⟨a, b, rfl⟩
  | [], h => simp at h
  | [a], h => simp at h
  | a :: b :: c :: r, h => simp only [List.length_cons] at h; omega
theorem one3 {α : Type} {l : List α} (h : (l.length : Int) = 3) : ∃ a b c, l = [a, b, c] := by
  match l, h with
  | [a, b, c], _ => exact ⟨a, b, c, rfl⟩
  | [], h => simp at h
  | [a], h => simp at h
  | [a, b], h => simp at h
  | a :: b :: c :: d :: r, h => simp only [List.length_cons] at h; omega
theorem sets_exC (x y z : V) (e : Ex) : sets [x, y, z] 0 (exC e) = exC e := by obtain ⟨k, n, ks⟩ := e; rfl
attribute [go_sem] sets_exC
/-- The ways of being right. -/
theorem right_cases {p : Ex → Prop} (hv : ∀ n, 0 ≤ n → n ≤ 11 → p (.mk 1 n [])) (hc : ∀ n, n = 0 ∨ n = 1 → p (.mk 2 n [])) (h3 : ∀ a, rightE a = true → p a → p (.mk 3 0 [a]))
    (h4 : ∀ a b, rightE a = true → rightE b = true → p a → p b → p (.mk 4 0 [a, b])) (h5 : ∀ a b, rightE a = true → rightE b = true → p a → p b → p (.mk 5 0 [a, b])) (h6 : ∀ a b, rightE a = true → rightE b = true → p a → p b → p (.mk 6 0 [a, b]))
    (h7 : ∀ a b c, rightE a = true → rightE b = true → rightE c = true → p a → p b → p c → p (.mk 7 0 [a, b, c])) : ∀ e, rightE e = true → p e := by
  refine Ex.ind fun k n ks ih hr => ?_
  simp only [rightE, Bool.and_eq_true, decide_eq_true_eq] at hr
  obtain ⟨⟨hn, hl⟩, hk⟩ := hr
  by_cases k1 : k = 1
  · subst k1
    simp only [numOK, arity] at hn hl
    simp at hn hl
    subst hl
    exact hv n hn.1 hn.2
  by_cases k2 : k = 2
  · subst k2
    simp only [numOK, arity] at hn hl
    simp at hn hl
    subst hl
    exact hc n (by omega)
  rw [numOK, if_neg k1, if_neg k2, decide_eq_true_eq] at hn
  subst hn
  by_cases k3 : k = 3
  · subst k3
    simp only [arity] at hl
    obtain ⟨a, rfl⟩ := one1 (l := ks) (by simpa using hl)
    simp only [rightL, Bool.and_true] at hk
    exact h3 a hk (ih a (by simp) hk)
  by_cases k4 : k = 4
  · subst k4
    obtain ⟨a, b, rfl⟩ := one2 (l := ks) (by rw [hl]; rfl)
    simp only [rightL, Bool.and_true, Bool.and_eq_true] at hk
    exact h4 a b hk.1 hk.2 (ih a (by simp) hk.1) (ih b (by simp) hk.2)
  by_cases k5 : k = 5
  · subst k5
    obtain ⟨a, b, rfl⟩ := one2 (l := ks) (by rw [hl]; rfl)
    simp only [rightL, Bool.and_true, Bool.and_eq_true] at hk
    exact h5 a b hk.1 hk.2 (ih a (by simp) hk.1) (ih b (by simp) hk.2)
  by_cases k6 : k = 6
  · subst k6
    obtain ⟨a, b, rfl⟩ := one2 (l := ks) (by rw [hl]; rfl)
    simp only [rightL, Bool.and_true, Bool.and_eq_true] at hk
    exact h6 a b hk.1 hk.2 (ih a (by simp) hk.1) (ih b (by simp) hk.2)
  by_cases k7 : k = 7
  · subst k7
    obtain ⟨a, b, c, rfl⟩ := one3 (l := ks) (by rw [hl]; rfl)
    simp only [rightL, Bool.and_true, Bool.and_eq_true] at hk
    exact h7 a b c hk.1 hk.2.1 hk.2.2 (ih a (by simp) hk.1) (ih b (by simp) hk.2.1) (ih c (by simp) hk.2.2)
  · exfalso
    unfold arity at hl
    rw [if_neg (by omega), if_neg k3, if_neg (by omega), if_neg k7] at hl
    omega
theorem evalEx_ok {ex : Bool} {bs : List Bool} (hl : bs.length ≤ 4096) : ∀ e, rightE e = true → ∀ {Γ σ : St}, mostE e < bs.length → Ret Try.prog Γ 71 [exV e, .isl ex 1 (bools bs)] σ (.bool (evE bs e)) σ := by
  have pre : ∀ k n ks, ∀ c ∈ (V.agg [V.int .i64 k, V.int .i64 n, V.isl false 3 (exsV ks)]).cells, c.one = true := by intro k n ks; simp [V.cells, V.one]
  refine right_cases ?_ ?_ ?_ ?_ ?_ ?_ ?_
  · intro n h0 h1 Γ σ hm
    simp only [mostE, mostL] at hm
    rw [if_pos trivial] at hm
    refine ret_of c71_ok rfl ?_
    simp (disch := omega) only [c71, exV_mk, go_sem, ↓if_pos, ne_eq, ↓reduceIte]
    refine SRun.boxR (pre _ _ _) ?_
    intro b2 hb2
    have hb : (bools bs).length = bs.length := bools_len bs
    simp (disch := omega) only [bools, go_sem, ↓if_pos, ne_eq, ↓reduceIte]
    refine W_retC c71_ok rfl (Conv.drop _ (le_upd hb2)) ⟨?_, rfl⟩
    simp only [look, ev, V.bool.injEq, V.int.injEq, V.str.injEq, V.tup.injEq, V.agg.injEq, V.isl.injEq, List.cons.injEq, true_and, and_true, evE, evL, Nat.reduceEqDiff, Nat.reduceAdd, Nat.reduceSub, Nat.reduceMul, Nat.reducePow, Nat.reduceDiv, Nat.reduceMod, Int.reduceToNat, Nat.reduceLeDiff, Nat.reduceLT, Int.reduceEq, Int.reduceLT, Int.reduceLE, Int.reduceGT, Int.reduceGE, Int.reduceNeg, Int.reduceSub, Int.reduceAdd, Int.reduceMul, Int.reducePow, ne_eq, reduceCtorEq, ↓reduceIte]
    rfl
  · intro n hn Γ σ hm
    refine ret_of c71_ok rfl ?_
    simp (disch := omega) only [c71, exV_mk, go_sem, ↓if_pos, ne_eq, ↓reduceIte]
    refine SRun.boxR (pre _ _ _) ?_
    intro b2 hb2
    simp (disch := omega) only [go_sem, ↓if_pos, ne_eq, ↓reduceIte]
    refine W_retC c71_ok rfl (Conv.drop _ (le_upd hb2)) ⟨?_, rfl⟩
    simp only [look, ev, V.bool.injEq, V.int.injEq, V.str.injEq, V.tup.injEq, V.agg.injEq, V.isl.injEq, List.cons.injEq, true_and, and_true, evE, evL, Nat.reduceEqDiff, Nat.reduceAdd, Nat.reduceSub, Nat.reduceMul, Nat.reducePow, Nat.reduceDiv, Nat.reduceMod, Int.reduceToNat, Nat.reduceLeDiff, Nat.reduceLT, Int.reduceEq, Int.reduceLT, Int.reduceLE, Int.reduceGT, Int.reduceGE, Int.reduceNeg, Int.reduceSub, Int.reduceAdd, Int.reduceMul, Int.reducePow, ne_eq, reduceCtorEq, ↓reduceIte]
  · intro a ra iha Γ σ hm
    simp only [mostE, mostL] at hm
    have hks : ([a] : List Ex).length = 1 := rfl
    refine ret_of c71_ok rfl ?_
    simp (disch := omega) only [c71, exV_mk, go_sem, ↓if_pos, ne_eq, ↓reduceIte]
    refine SRun.boxR (pre _ _ _) ?_
    intro b2 hb2
    simp (disch := omega) only [go_sem, ↓if_pos, ne_eq, ↓reduceIte]
    refine SRun.callR (iha (by omega)) ⟨[], rfl, rfl⟩ rfl ?_
    simp (disch := omega) only [List.getD_cons_zero, List.getD_cons_succ, go_sem, ↓if_pos, ne_eq, ↓reduceIte]
    refine W_retC c71_ok rfl (Conv.drop _ (le_upd hb2)) ⟨?_, rfl⟩
    simp only [look, ev, V.bool.injEq, V.int.injEq, V.str.injEq, V.tup.injEq, V.agg.injEq, V.isl.injEq, List.cons.injEq, true_and, and_true, evE, evL, List.getD_cons_zero, Nat.reduceEqDiff, Nat.reduceAdd, Nat.reduceSub, Nat.reduceMul, Nat.reducePow, Nat.reduceDiv, Nat.reduceMod, Int.reduceToNat, Nat.reduceLeDiff, Nat.reduceLT, Int.reduceEq, Int.reduceLT, Int.reduceLE, Int.reduceGT, Int.reduceGE, Int.reduceNeg, Int.reduceSub, Int.reduceAdd, Int.reduceMul, Int.reducePow, ne_eq, reduceCtorEq, ↓reduceIte]
  · intro a b ra rb iha ihb Γ σ hm
    simp only [mostE, mostL] at hm
    have hks : ([a, b] : List Ex).length = 2 := rfl
    refine ret_of c71_ok rfl ?_
    simp (disch := omega) only [c71, exV_mk, go_sem, ↓if_pos, ne_eq, ↓reduceIte]
    refine SRun.boxR (pre _ _ _) ?_
    intro b2 hb2
    simp (disch := omega) only [go_sem, ↓if_pos, ne_eq, ↓reduceIte]
    refine SRun.callR (iha (by omega)) ⟨[], rfl, rfl⟩ rfl ?_
    simp (disch := omega) only [List.getD_cons_zero, List.getD_cons_succ, go_sem, ↓if_pos, ne_eq, ↓reduceIte]
    cases hva : evE bs a with
    | true =>
      simp (disch := omega) only [go_sem, ↓if_pos, ne_eq, ↓reduceIte]
      refine SRun.callR (ihb (by omega)) ⟨[], rfl, rfl⟩ rfl ?_
      simp (disch := omega) only [List.getD_cons_zero, List.getD_cons_succ, go_sem, ↓if_pos, ne_eq, ↓reduceIte]
      refine W_retC c71_ok rfl (Conv.drop _ (le_upd hb2)) ⟨?_, rfl⟩
      simp only [look, ev, V.bool.injEq, V.int.injEq, V.str.injEq, V.tup.injEq, V.agg.injEq, V.isl.injEq, List.cons.injEq, true_and, and_true, evE, evL, List.getD_cons_zero, List.getD_cons_succ, hva, Bool.true_and, Bool.true_or, Nat.reduceEqDiff, Nat.reduceAdd, Nat.reduceSub, Nat.reduceMul, Nat.reducePow, Nat.reduceDiv, Nat.reduceMod, Int.reduceToNat, Nat.reduceLeDiff, Nat.reduceLT, Int.reduceEq, Int.reduceLT, Int.reduceLE, Int.reduceGT, Int.reduceGE, Int.reduceNeg, Int.reduceSub, Int.reduceAdd, Int.reduceMul, Int.reducePow, ne_eq, reduceCtorEq, ↓reduceIte]
    | false =>
      simp (disch := omega) only [go_sem, ↓if_pos, ne_eq, ↓reduceIte]
      skip
      refine W_retC c71_ok rfl (Conv.drop _ (le_upd hb2)) ⟨?_, rfl⟩
      simp only [look, ev, V.bool.injEq, V.int.injEq, V.str.injEq, V.tup.injEq, V.agg.injEq, V.isl.injEq, List.cons.injEq, true_and, and_true, evE, evL, List.getD_cons_zero, List.getD_cons_succ, hva, Bool.false_and, Bool.false_or, Nat.reduceEqDiff, Nat.reduceAdd, Nat.reduceSub, Nat.reduceMul, Nat.reducePow, Nat.reduceDiv, Nat.reduceMod, Int.reduceToNat, Nat.reduceLeDiff, Nat.reduceLT, Int.reduceEq, Int.reduceLT, Int.reduceLE, Int.reduceGT, Int.reduceGE, Int.reduceNeg, Int.reduceSub, Int.reduceAdd, Int.reduceMul, Int.reducePow, ne_eq, reduceCtorEq, ↓reduceIte]
  · intro a b ra rb iha ihb Γ σ hm
    simp only [mostE, mostL] at hm
    have hks : ([a, b] : List Ex).length = 2 := rfl
    refine ret_of c71_ok rfl ?_
    simp (disch := omega) only [c71, exV_mk, go_sem, ↓if_pos, ne_eq, ↓reduceIte]
    refine SRun.boxR (pre _ _ _) ?_
    intro b2 hb2
    simp (disch := omega) only [go_sem, ↓if_pos, ne_eq, ↓reduceIte]
    refine SRun.callR (iha (by omega)) ⟨[], rfl, rfl⟩ rfl ?_
    simp (disch := omega) only [List.getD_cons_zero, List.getD_cons_succ, go_sem, ↓if_pos, ne_eq, ↓reduceIte]
    cases hva : evE bs a with
    | true =>
      simp (disch := omega) only [go_sem, ↓if_pos, ne_eq, ↓reduceIte]
      skip
      refine W_retC c71_ok rfl (Conv.drop _ (le_upd hb2)) ⟨?_, rfl⟩
      simp only [look, ev, V.bool.injEq, V.int.injEq, V.str.injEq, V.tup.injEq, V.agg.injEq, V.isl.injEq, List.cons.injEq, true_and, and_true, evE, evL, List.getD_cons_zero, List.getD_cons_succ, hva, Bool.true_and, Bool.true_or, Nat.reduceEqDiff, Nat.reduceAdd, Nat.reduceSub, Nat.reduceMul, Nat.reducePow, Nat.reduceDiv, Nat.reduceMod, Int.reduceToNat, Nat.reduceLeDiff, Nat.reduceLT, Int.reduceEq, Int.reduceLT, Int.reduceLE, Int.reduceGT, Int.reduceGE, Int.reduceNeg, Int.reduceSub, Int.reduceAdd, Int.reduceMul, Int.reducePow, ne_eq, reduceCtorEq, ↓reduceIte]
    | false =>
      simp (disch := omega) only [go_sem, ↓if_pos, ne_eq, ↓reduceIte]
      refine SRun.callR (ihb (by omega)) ⟨[], rfl, rfl⟩ rfl ?_
      simp (disch := omega) only [List.getD_cons_zero, List.getD_cons_succ, go_sem, ↓if_pos, ne_eq, ↓reduceIte]
      refine W_retC c71_ok rfl (Conv.drop _ (le_upd hb2)) ⟨?_, rfl⟩
      simp only [look, ev, V.bool.injEq, V.int.injEq, V.str.injEq, V.tup.injEq, V.agg.injEq, V.isl.injEq, List.cons.injEq, true_and, and_true, evE, evL, List.getD_cons_zero, List.getD_cons_succ, hva, Bool.false_and, Bool.false_or, Nat.reduceEqDiff, Nat.reduceAdd, Nat.reduceSub, Nat.reduceMul, Nat.reducePow, Nat.reduceDiv, Nat.reduceMod, Int.reduceToNat, Nat.reduceLeDiff, Nat.reduceLT, Int.reduceEq, Int.reduceLT, Int.reduceLE, Int.reduceGT, Int.reduceGE, Int.reduceNeg, Int.reduceSub, Int.reduceAdd, Int.reduceMul, Int.reducePow, ne_eq, reduceCtorEq, ↓reduceIte]
  · intro a b ra rb iha ihb Γ σ hm
    simp only [mostE, mostL] at hm
    have hks : ([a, b] : List Ex).length = 2 := rfl
    refine ret_of c71_ok rfl ?_
    simp (disch := omega) only [c71, exV_mk, go_sem, ↓if_pos, ne_eq, ↓reduceIte]
    refine SRun.boxR (pre _ _ _) ?_
    intro b2 hb2
    simp (disch := omega) only [go_sem, ↓if_pos, ne_eq, ↓reduceIte]
    refine SRun.callR (iha (by omega)) ⟨[], rfl, rfl⟩ rfl ?_
    simp (disch := omega) only [List.getD_cons_zero, List.getD_cons_succ, go_sem, ↓if_pos, ne_eq, ↓reduceIte]
    refine SRun.callR (ihb (by omega)) ⟨[], rfl, rfl⟩ rfl ?_
    simp (disch := omega) only [List.getD_cons_zero, List.getD_cons_succ, go_sem, ↓if_pos, ne_eq, ↓reduceIte]
    refine W_retC c71_ok rfl (Conv.drop _ (le_upd hb2)) ⟨?_, rfl⟩
    simp only [look, ev, V.bool.injEq, V.int.injEq, V.str.injEq, V.tup.injEq, V.agg.injEq, V.isl.injEq, List.cons.injEq, true_and, and_true, evE, evL, List.getD_cons_zero, List.getD_cons_succ, Nat.reduceEqDiff, Nat.reduceAdd, Nat.reduceSub, Nat.reduceMul, Nat.reducePow, Nat.reduceDiv, Nat.reduceMod, Int.reduceToNat, Nat.reduceLeDiff, Nat.reduceLT, Int.reduceEq, Int.reduceLT, Int.reduceLE, Int.reduceGT, Int.reduceGE, Int.reduceNeg, Int.reduceSub, Int.reduceAdd, Int.reduceMul, Int.reducePow, ne_eq, reduceCtorEq, ↓reduceIte]
    rfl
  · intro a b c ra rb rc iha ihb ihc Γ σ hm
    simp only [mostE, mostL] at hm
    have hks : ([a, b, c] : List Ex).length = 3 := rfl
    refine ret_of c71_ok rfl ?_
    simp (disch := omega) only [c71, exV_mk, go_sem, ↓if_pos, ne_eq, ↓reduceIte]
    refine SRun.boxR (pre _ _ _) ?_
    intro b2 hb2
    simp (disch := omega) only [go_sem, ↓if_pos, ne_eq, ↓reduceIte]
    refine SRun.callR (iha (by omega)) ⟨[], rfl, rfl⟩ rfl ?_
    simp (disch := omega) only [List.getD_cons_zero, List.getD_cons_succ, go_sem, ↓if_pos, ne_eq, ↓reduceIte]
    cases hva : evE bs a with
    | true =>
      simp (disch := omega) only [go_sem, ↓if_pos, ne_eq, ↓reduceIte]
      refine SRun.callR (ihb (by omega)) ⟨[], rfl, rfl⟩ rfl ?_
      simp (disch := omega) only [List.getD_cons_zero, List.getD_cons_succ, go_sem, ↓if_pos, ne_eq, ↓reduceIte]
      refine W_retC c71_ok rfl (Conv.drop _ (le_upd hb2)) ⟨?_, rfl⟩
      simp only [look, ev, V.bool.injEq, V.int.injEq, V.str.injEq, V.tup.injEq, V.agg.injEq, V.isl.injEq, List.cons.injEq, true_and, and_true, evE, evL, List.getD_cons_zero, List.getD_cons_succ, hva, Nat.reduceEqDiff, Nat.reduceAdd, Nat.reduceSub, Nat.reduceMul, Nat.reducePow, Nat.reduceDiv, Nat.reduceMod, Int.reduceToNat, Nat.reduceLeDiff, Nat.reduceLT, Int.reduceEq, Int.reduceLT, Int.reduceLE, Int.reduceGT, Int.reduceGE, Int.reduceNeg, Int.reduceSub, Int.reduceAdd, Int.reduceMul, Int.reducePow, ne_eq, reduceCtorEq, ↓reduceIte]
    | false =>
      simp (disch := omega) only [go_sem, ↓if_pos, ne_eq, ↓reduceIte]
      refine SRun.callR (ihc (by omega)) ⟨[], rfl, rfl⟩ rfl ?_
      simp (disch := omega) only [List.getD_cons_zero, List.getD_cons_succ, go_sem, ↓if_pos, ne_eq, ↓reduceIte]
      refine W_retC c71_ok rfl (Conv.drop _ (le_upd hb2)) ⟨?_, rfl⟩
      simp only [look, ev, V.bool.injEq, V.int.injEq, V.str.injEq, V.tup.injEq, V.agg.injEq, V.isl.injEq, List.cons.injEq, true_and, and_true, evE, evL, List.getD_cons_zero, List.getD_cons_succ, hva, Nat.reduceEqDiff, Nat.reduceAdd, Nat.reduceSub, Nat.reduceMul, Nat.reducePow, Nat.reduceDiv, Nat.reduceMod, Int.reduceToNat, Nat.reduceLeDiff, Nat.reduceLT, Int.reduceEq, Int.reduceLT, Int.reduceLE, Int.reduceGT, Int.reduceGE, Int.reduceNeg, Int.reduceSub, Int.reduceAdd, Int.reduceMul, Int.reducePow, ne_eq, reduceCtorEq, ↓reduceIte]
theorem mostL_drop {ks : List Ex} {i : Nat} (h : i < ks.length) : mostL (ks.drop i) = max (mostE (ks.getD i default)) (mostL (ks.drop (i + 1))) := by
  rw [drop_cons default h]; rfl
theorem mostVar_ok : ∀ e, ∀ {Γ σ : St}, rightE e = true → sizeE e ≤ 1000000 → Ret Try.prog Γ 70 [exV e] σ (.int .i64 (mostE e)) σ := by
  refine Ex.ind fun k n ks ih Γ σ hr hsz => ?_
  have hlen := sizeL_len ks
  simp only [sizeE] at hsz
  refine ret_of c70_ok rfl ?_
  simp (disch := omega) only [c70, exV_mk, go_sem, ↓if_pos, ne_eq, ↓reduceIte]
  refine SRun.boxR (by simp [ev, look, V.cells, V.one]) ?_
  intro b1 hb1
  have hr' := hr
  simp only [rightE, Bool.and_eq_true, decide_eq_true_eq, rightL_all, List.all_eq_true] at hr'
  have g1 : upd σ b1 [.int .i64 k, .int .i64 n, .isl false 3 (exsV ks)] b1 = some [.int .i64 k, .int .i64 n, .isl false 3 (exsV ks)] := upd_same _ _ _
  have hle : ∀ d x, σ d = some x → upd σ b1 [.int .i64 k, .int .i64 n, .isl false 3 (exsV ks)] d = some x := le_upd hb1
  have hmost : max (if k = 1 then n else -1) (mostL ks) = mostE (.mk k n ks) := rfl
  simp (disch := omega) only [g1, exC_mk, go_sem, ↓if_pos, ne_eq, ↓reduceIte]
  generalize hτ : upd σ b1 [.int .i64 k, .int .i64 n, .isl false 3 (exsV ks)] = τ at *
  have h0 : -1 ≤ (if k = 1 then n else -1) := by
    by_cases hk : k = 1
    · subst hk
      have := hr'.1.1
      simp [numOK] at this
      simp; omega
    · simp [hk]
  first | refine iteW_dec (fun h1 => ?_) (fun h1 => ?_) | refine iteW_of (fun h1 => ?_) (fun h1 => ?_)
  all_goals
    simp (disch := omega) only [g1, exC_mk, go_sem, ↓if_pos, ne_eq, ↓reduceIte]
    refine W_loopC (α := Nat × Int × St) (fun p => p.1 ≤ ks.length ∧ max p.2.1 (mostL (ks.drop p.1)) = mostE (.mk k n ks) ∧ -1 ≤ p.2.1 ∧ ∀ d x, τ d = some x → p.2.2 d = some x) (fun p => [(3, .int .i64 p.2.1), (12, .isl false 3 (exsV ks)), (13, .int .i64 ks.length), (14, .int .i64 (p.1 : Nat))]) (fun p => p.2.2) (fun p => ks.length - p.1) (0, (if k = 1 then n else -1), τ) ⟨by omega, by simpa using hmost, h0, fun _ _ h => h⟩ (by simp (disch := omega) only [subT, Int.natCast_add, Int.cast_ofNat_Int, h1, go_sem, ↓if_pos, ne_eq, ↓reduceIte] <;> (repeat' apply And.intro) <;> first | rfl | (congr 1; omega) | assumption) rfl ?_
    rintro ⟨i, a, s⟩ ⟨hi, hmx, ha, hs⟩ ih2
    dsimp only at hi hmx ha hs
    simp (disch := omega) only [go_sem, ↓if_pos, ne_eq, ↓reduceIte]
    first | refine iteW_dec (fun hq => ?_) (fun hq => ?_) | refine iteW_of (fun hq => ?_) (fun hq => ?_)
    · have he := getD_mem default (by omega : i < ks.length)
      have hsz2 := sizeL_mem he
      have hc1 := exC_one (ks.getD i default)
      rw [mostL_drop (by omega)] at hmx
      simp (disch := omega) only [go_sem, ↓if_pos, ne_eq, ↓reduceIte]
      refine SRun.allocR ?_
      intro b5 hb5
      simp (disch := omega) only [hc1, go_sem, ↓if_pos, ne_eq, ↓reduceIte]
      refine SRun.callR (ih _ he (hr'.2 _ he) (by omega)) ⟨[], rfl, rfl⟩ rfl ?_
      simp (disch := omega) only [List.getD_cons_zero, List.getD_cons_succ, go_sem, ↓if_pos, ne_eq, ↓reduceIte]
      exact ih2 (i + 1, max a (mostE (ks.getD i default)), _) _ _ ⟨by simp only; omega, by simp only; omega, by simp only; omega, fun d x h => le_upd hb5 _ _ (hs _ _ h)⟩ (by simp only; omega) (by simp (disch := omega) only [subT, Int.natCast_add, Int.cast_ofNat_Int, go_sem, ↓if_pos, ne_eq, ↓reduceIte] <;> (repeat' apply And.intro) <;> first | rfl | (congr 1; omega) | assumption) rfl
    · obtain rfl : i = ks.length := by omega
      rw [List.drop_length] at hmx
      simp only [mostL] at hmx
      simp (disch := omega) only [go_sem, ↓if_pos, ne_eq, ↓reduceIte]
      refine W_retC c70_ok rfl (Conv.drop _ fun d x h => hs _ _ (hle _ _ h)) ⟨?_, rfl⟩
      simp only [look, ev, V.bool.injEq, V.int.injEq, V.str.injEq, V.tup.injEq, V.agg.injEq, V.isl.injEq, List.cons.injEq, true_and, and_true, Nat.reduceEqDiff, Nat.reduceAdd, Nat.reduceSub, Nat.reduceMul, Nat.reducePow, Nat.reduceDiv, Nat.reduceMod, Int.reduceToNat, Nat.reduceLeDiff, Nat.reduceLT, Int.reduceEq, Int.reduceLT, Int.reduceLE, Int.reduceGT, Int.reduceGE, Int.reduceNeg, Int.reduceSub, Int.reduceAdd, Int.reduceMul, Int.reducePow, ne_eq, reduceCtorEq, ↓reduceIte]
      omega
theorem l04Most_ok : ∀ e, ∀ {Γ σ : St}, rightE e = true → sizeE e ≤ 1000000 → Ret Try.prog Γ 76 [exV e] σ (.int .i64 (mostE e)) σ := by
  refine Ex.ind fun k n ks ih Γ σ hr hsz => ?_
  have hlen := sizeL_len ks
  simp only [sizeE] at hsz
  refine ret_of c76_ok rfl ?_
  simp (disch := omega) only [c76, exV_mk, go_sem, ↓if_pos, ne_eq, ↓reduceIte]
  refine SRun.boxR (by simp [ev, look, V.cells, V.one]) ?_
  intro b1 hb1
  have hr' := hr
  simp only [rightE, Bool.and_eq_true, decide_eq_true_eq, rightL_all, List.all_eq_true] at hr'
  have g1 : upd σ b1 [.int .i64 k, .int .i64 n, .isl false 3 (exsV ks)] b1 = some [.int .i64 k, .int .i64 n, .isl false 3 (exsV ks)] := upd_same _ _ _
  have hle : ∀ d x, σ d = some x → upd σ b1 [.int .i64 k, .int .i64 n, .isl false 3 (exsV ks)] d = some x := le_upd hb1
  simp (disch := omega) only [g1, exC_mk, go_sem, ↓if_pos, ne_eq, ↓reduceIte]
  first | refine iteW_dec (fun h1 => ?_) (fun h1 => ?_) | refine iteW_of (fun h1 => ?_) (fun h1 => ?_)
  · subst h1
    have hk0 : ks = [] := by
      have := hr'.1.2
      simpa [arity] using this
    have hn0 := hr'.1.1
    simp [numOK] at hn0
    subst hk0
    simp (disch := omega) only [g1, exC_mk, go_sem, ↓if_pos, ne_eq, ↓reduceIte]
    refine W_retC c76_ok rfl (Conv.drop _ hle) ⟨?_, rfl⟩
    simp only [look, ev, V.bool.injEq, V.int.injEq, V.str.injEq, V.tup.injEq, V.agg.injEq, V.isl.injEq, List.cons.injEq, true_and, and_true, mostE, mostL, Nat.reduceEqDiff, Nat.reduceAdd, Nat.reduceSub, Nat.reduceMul, Nat.reducePow, Nat.reduceDiv, Nat.reduceMod, Int.reduceToNat, Nat.reduceLeDiff, Nat.reduceLT, Int.reduceEq, Int.reduceLT, Int.reduceLE, Int.reduceGT, Int.reduceGE, Int.reduceNeg, Int.reduceSub, Int.reduceAdd, Int.reduceMul, Int.reducePow, ne_eq, reduceCtorEq, ↓reduceIte]
    omega
  · generalize hτ : upd σ b1 [.int .i64 k, .int .i64 n, .isl false 3 (exsV ks)] = τ at *
    simp (disch := omega) only [g1, exC_mk, go_sem, ↓if_pos, ne_eq, ↓reduceIte]
    refine W_loopC (α := Nat × Int) (fun p => p.1 ≤ ks.length ∧ max p.2 (mostL (ks.drop p.1)) = mostE (.mk k n ks) ∧ -1 ≤ p.2) (fun p => [(1, .ptr b1 0), (3, .int .i64 p.2), (4, .int .i64 (p.1 : Nat))]) (fun p => τ) (fun p => ks.length - p.1) (0, -1) ⟨by omega, by simp [mostE, h1], by simp⟩ (by simp (disch := omega) only [subT, Int.natCast_add, Int.cast_ofNat_Int, h1, go_sem, ↓if_pos, ne_eq, ↓reduceIte] <;> (repeat' apply And.intro) <;> first | rfl | (congr 1; omega) | assumption) rfl ?_
    rintro ⟨i, a⟩ ⟨hi, hmx, ha⟩ ih2
    dsimp only at hi hmx ha
    simp (disch := omega) only [g1, exC_mk, go_sem, ↓if_pos, ne_eq, ↓reduceIte]
    first | refine iteW_dec (fun hq => ?_) (fun hq => ?_) | refine iteW_of (fun hq => ?_) (fun hq => ?_)
    · have he := getD_mem default (by omega : i < ks.length)
      have hsz2 := sizeL_mem he
      rw [mostL_drop (by omega)] at hmx
      simp (disch := omega) only [g1, exC_mk, go_sem, ↓if_pos, ne_eq, ↓reduceIte]
      refine SRun.callR (ih _ he (hr'.2 _ he) (by omega)) ⟨[], rfl, rfl⟩ rfl ?_
      simp (disch := omega) only [List.getD_cons_zero, List.getD_cons_succ, go_sem, ↓if_pos, ne_eq, ↓reduceIte]
      exact ih2 (i + 1, max a (mostE (ks.getD i default))) _ _ ⟨by simp only; omega, by simp only; omega, by simp only; omega⟩ (by simp only; omega) (by simp (disch := omega) only [subT, Int.natCast_add, Int.cast_ofNat_Int, go_sem, ↓if_pos, ne_eq, ↓reduceIte] <;> (repeat' apply And.intro) <;> first | rfl | (congr 1; omega) | assumption) rfl
    · obtain rfl : i = ks.length := by omega
      rw [List.drop_length] at hmx
      simp only [mostL] at hmx
      simp (disch := omega) only [go_sem, ↓if_pos, ne_eq, ↓reduceIte]
      refine W_retC c76_ok rfl (Conv.drop _ hle) ⟨?_, rfl⟩
      simp only [look, ev, V.bool.injEq, V.int.injEq, V.str.injEq, V.tup.injEq, V.agg.injEq, V.isl.injEq, List.cons.injEq, true_and, and_true, Nat.reduceEqDiff, Nat.reduceAdd, Nat.reduceSub, Nat.reduceMul, Nat.reducePow, Nat.reduceDiv, Nat.reduceMod, Int.reduceToNat, Nat.reduceLeDiff, Nat.reduceLT, Int.reduceEq, Int.reduceLT, Int.reduceLE, Int.reduceGT, Int.reduceGE, Int.reduceNeg, Int.reduceSub, Int.reduceAdd, Int.reduceMul, Int.reducePow, ne_eq, reduceCtorEq, ↓reduceIte]
      omega
end Go.Proofs.Ytlidjjjpjndneaa.Lg
