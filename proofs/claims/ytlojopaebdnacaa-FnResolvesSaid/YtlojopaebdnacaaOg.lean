/- The program's Resolve. -/
import Derived.Test.YtlojopaebdnacaaOf
set_option linter.unusedSimpArgs false
set_option linter.unusedVariables false
namespace Go.Proofs.Ytlojopaebdnacaa.Lg
open Go
attribute [local irreducible] SRun DS DRun
variable {Γ : St} {σ σ0 : St}
theorem isTautology1_ok {ys : List Int} {x : Int} {b : Nat} (hb : σ b = some [intsV ys]) (hl : ys.length ≤ 1000000) (hx : -1000000 ≤ x ∧ x ≤ 1000000) : Ret Try.prog Γ 114 [.int .i64 x, .ptr b 0] σ (.bool (ys.contains (-x))) σ := by
  have hneg : (0 : Int) - x = -x := by omega
  refine ret_of c114_ok rfl ?_
  simp (disch := omega) only [c114, hb, intsV, go_sem]
  simp (disch := omega) only [hneg, go_sem]
  refine SRun.callR (containsI_ok (ex := false) (xs := ys) (y := -x) (by omega)) ⟨[], rfl, rfl⟩ rfl ?_
  simp (disch := omega) only [go_sem]
  exact W_retR c114_ok rfl ⟨rfl, rfl⟩
theorem isTautology_ok {ys : List Int} (hl : ys.length ≤ 1000000) (hx : smallL ys) : Ret Try.prog Γ 74 [intsV ys] σ (.bool (tautP ys)) σ := by
  refine ret_of c74_ok rfl ?_
  simp (disch := omega) only [c74, intsV, go_sem]
  refine SRun.boxR (by simp [ev, look, V.cells, V.one]) ?_
  intro b1 hb1
  have g1 := upd_same σ b1 [intsV ys]
  simp (disch := omega) only [go_sem]
  refine SRun.callR (containsFuncI_ok (p := fun v => match v with | .int _ x => ys.contains (-x) | _ => false) (cell_ints ys) (by rw [ints_len]; omega) ?_) ⟨[], rfl, rfl⟩ rfl ?_
  · intro v hv
    simp only [ints, List.mem_map] at hv
    obtain ⟨x, hxm, rfl⟩ := hv
    exact isTautology1_ok g1 hl (hx x hxm)
  simp (disch := omega) only [go_sem]
  refine W_retC c74_ok rfl (Conv.drop _ (le_upd hb1)) ⟨?_, rfl⟩
  simp only [look, ev, V.bool.injEq, V.int.injEq, V.str.injEq, V.tup.injEq, V.agg.injEq, V.isl.injEq, List.cons.injEq, true_and, and_true, any_ints, tautP, Nat.reduceEqDiff, Nat.reduceAdd, Nat.reduceSub, Nat.reduceMul, Nat.reducePow, Nat.reduceDiv, Nat.reduceMod, Int.reduceToNat, Nat.reduceLeDiff, Nat.reduceLT, Int.reduceEq, Int.reduceLT, Int.reduceLE, Int.reduceGT, Int.reduceGE, Int.reduceNeg, Int.reduceSub, Int.reduceAdd, Int.reduceMul, Int.reducePow, ne_eq, reduceCtorEq, ↓reduceIte]
/-- What is asked of the two clauses. -/
def resQ (a b : List Int) (v : Int) : List Int := a.filter (fun x => decide (¬ x = v)) ++ b.filter (fun x => decide (¬ x = -v))
theorem litB_small {xs : List Int} (h : clauseB 40 xs = true) : smallL xs := fun x hx => by
  simp only [clauseB, Bool.and_eq_true, List.all_eq_true] at h
  have := litB_iff.1 (h.2 x hx)
  obtain ⟨_, h1, h2⟩ := this
  omega
theorem clsV2 (a b : List Int) : [V.isl false 1 (ints a), V.isl false 1 (ints b)] = clsV [a, b] := rfl
set_option maxHeartbeats 1000000 in
theorem Resolve_ok {ex ex2 : Bool} {a b : List Int} {v : Int} (ha : clauseB 40 a = true) (hb : clauseB 40 b = true) (hv : 1 ≤ v ∧ v ≤ 40) (hav : a.contains v = true) (hbv : b.contains (-v) = true) (hal : a.length ≤ 12) (hbl : b.length ≤ 12) :
    ACalls Try.prog Γ 29 [.isl ex 1 (ints a), .isl ex2 1 (ints b), .int .i64 v] σ fun r s => ∃ ys, OrdOf (resQ a b v) ys ∧ r = .tup [intsV (if tautP ys then [] else ys), .int .i64 (if tautP ys then 8 else 0)] ∧ s = σ := by
  have hneg : (0 : Int) - v = -v := by omega
  have hq : smallL (resQ a b v) := fun x hx => by
    rcases List.mem_append.1 hx with h | h
    · exact litB_small ha x (List.mem_filter.1 h).1
    · exact litB_small hb x (List.mem_filter.1 h).1
  have hql : (resQ a b v).length ≤ 24 := by
    have h1 := List.length_filter_le (fun x => decide (¬ x = v)) a
    have h2 := List.length_filter_le (fun x => decide (¬ x = -v)) b
    unfold resQ; rw [List.length_append]; omega
  have d1 : decide ((a.length : Int) > 4096) = false := decide_eq_false (by omega)
  have d2 : decide ((b.length : Int) > 4096) = false := decide_eq_false (by omega)
  refine acalls_W c29_ok rfl ?_
  simp (disch := omega) only [c29, go_sem]
  simp (disch := omega) only [d1, d2, go_sem]
  refine SRun.callR (isClause_ok (ex := ex) (xs := a) (vars := 40) (by omega) (by omega)) ⟨[], rfl, rfl⟩ rfl ?_
  rw [ha]
  simp (disch := omega) only [go_sem]
  refine SRun.callR (isClause_ok (ex := ex2) (xs := b) (vars := 40) (by omega) (by omega)) ⟨[], rfl, rfl⟩ rfl ?_
  rw [hb]
  simp (disch := omega) only [go_sem]
  refine SRun.callR (within_ok v 1 40) ⟨[], rfl, rfl⟩ rfl ?_
  rw [decide_eq_true (by omega : (1 : Int) ≤ v), decide_eq_true (by omega : v ≤ 40)]
  simp (disch := omega) only [go_sem]
  refine SRun.callR (containsI_ok (ex := ex) (xs := a) (y := v) (by omega)) ⟨[], rfl, rfl⟩ rfl ?_
  rw [hav]
  simp (disch := omega) only [hneg, go_sem]
  refine SRun.callR (containsI_ok (ex := ex2) (xs := b) (y := -v) (by omega)) ⟨[], rfl, rfl⟩ rfl ?_
  rw [hbv]
  simp (disch := omega) only [go_sem]
  refine SRun.callR (without_ok (ex := ex) (c := a) (x := v) (by omega)) ⟨[], rfl, rfl⟩ rfl ?_
  simp (disch := omega) only [hneg, go_sem]
  refine SRun.callR (without_ok (ex := ex2) (c := b) (x := -v) (by omega)) ⟨[], rfl, rfl⟩ rfl ?_
  simp (disch := omega) only [intsV, go_sem]
  refine SRun.callR (concatI_ok (ex := true) (ls := [a.filter (fun x => decide (¬ x = v)), b.filter (fun x => decide (¬ x = -v))]) (by simp) (by
    intro c hc
    simp only [List.mem_cons, List.not_mem_nil, or_false] at hc
    rcases hc with rfl | rfl
    · have := List.length_filter_le (fun x => decide (¬ x = v)) a; omega
    · have := List.length_filter_le (fun x => decide (¬ x = -v)) b; omega)) ⟨[], rfl, rfl⟩ rfl ?_
  have hfl : [a.filter (fun x => decide (¬ x = v)), b.filter (fun x => decide (¬ x = -v))].flatten = resQ a b v := by simp [resQ]
  rw [hfl]
  simp (disch := omega) only [intsV, go_sem]
  refine SRun.callQ (inOrder_ok (ex := false) (c := resQ a b v) (by omega) hq) ⟨[], rfl, rfl⟩ rfl ?_
  rintro r s ⟨ys, ho, rfl, hs⟩
  obtain rfl := hs.symm
  have hys : smallL ys := fun x hx => hq x ((ho.2 x).1 hx)
  have hyl : ys.length ≤ 24 := Nat.le_trans (strict_len ho.1 fun x hx => (ho.2 x).1 hx) hql
  simp (disch := omega) only [go_sem]
  refine SRun.callR (isTautology_ok (by omega) hys) ⟨[], rfl, rfl⟩ rfl ?_
  cases ht : tautP ys with
  | true =>
    simp (disch := omega) only [go_sem]
    exact W_retC c29_ok (r := .tup [.isl true 0 [], .int .i64 8]) (r' := .tup [intsV [], .int .i64 8]) (σ' := _) rfl ⟨fun _ _ h => h, frz_tup (by exact ⟨.isl0 _ _ _ _ (fun h => by cases h), .refl _, trivial⟩)⟩ ⟨ys, ho, by simp [ht, intsV], rfl⟩
  | false =>
    simp (disch := omega) only [go_sem]
    exact W_retR c29_ok rfl ⟨ys, ho, by simp [ht, look, intsV], rfl⟩
end Go.Proofs.Ytlojopaebdnacaa.Lg
