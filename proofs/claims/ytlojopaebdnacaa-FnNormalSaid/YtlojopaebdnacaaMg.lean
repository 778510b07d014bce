/- The program's functions, one by one: rows that are joined, rows without a number, clauses that are RUP or RAT. -/
import Derived.Test.YtlojopaebdnacaaSc
set_option linter.unusedSimpArgs false
set_option linter.unusedVariables false
namespace Go.Proofs.Ytlojopaebdnacaa.Lg
open Go
attribute [local irreducible] SRun DS DRun
variable {Γ : St} {σ σ0 : St}
/-- The first place of a number, in a row that came in. -/
theorem indexIs_ok {ex : Bool} {xs : List Int} {y : Int} (hl : xs.length ≤ 1000000000) : Ret Try.prog Γ 106 [.isl ex 1 (ints xs), .int .i64 y] σ (.int .i64 (findZ xs y)) σ := by
  refine ret_of c106_ok rfl ?_
  simp (disch := omega) only [c106, go_sem]
  refine W_loopC (fun i : Nat => i ≤ xs.length ∧ ∀ j, j < i → xs.getD j 0 ≠ y) (fun i => [(0, .isl ex 1 (ints xs)), (1, .int .i64 y), (7, .int .i64 xs.length), (8, .int .i64 i)]) (fun _ => σ) (fun i => xs.length - i) 0 ⟨by omega, fun j hj => by omega⟩ (by simp (disch := omega) only [subT, Int.natCast_add, Int.cast_ofNat_Int, go_sem] <;> (repeat' apply And.intro) <;> first | rfl | (congr 1; omega) | assumption) rfl ?_
  rintro i ⟨hi, hno⟩ ih
  simp (disch := omega) only [go_sem]
  first | refine iteW_dec (fun hq => ?_) (fun hq => ?_) | refine iteW_of (fun hq => ?_) (fun hq => ?_)
  · simp (disch := omega) only [go_sem]
    first | refine iteW_dec (fun h1 => ?_) (fun h1 => ?_) | refine iteW_of (fun h1 => ?_) (fun h1 => ?_)
    · simp (disch := omega) only [go_sem]
      refine W_retR c106_ok rfl ⟨?_, rfl⟩
      have : xs.findIdx? (· == y) = some i := by
        rw [List.findIdx?_eq_some_iff_getElem]
        refine ⟨by omega, by simpa [List.getD, (by omega : i < xs.length)] using h1.symm, fun j hj => ?_⟩
        have := hno j hj
        simpa [List.getD, (by omega : j < xs.length)] using this
      simp only [findZ, this]; rfl
    · simp (disch := omega) only [go_sem]
      refine ih (i + 1) _ _ ⟨by omega, fun j hj => ?_⟩ (by omega) (by simp (disch := omega) only [subT, Int.natCast_add, Int.cast_ofNat_Int, go_sem] <;> (repeat' apply And.intro) <;> first | rfl | (congr 1; omega) | assumption) rfl
      by_cases hji : j = i
      · subst hji; exact fun e => h1 e.symm
      · exact hno j (by omega)
  · simp (disch := omega) only [go_sem]
    refine W_retR c106_ok rfl ⟨?_, rfl⟩
    have : xs.findIdx? (· == y) = none := by
      rw [List.findIdx?_eq_none_iff]
      intro x hx
      obtain ⟨j, hj, rfl⟩ := List.getElem_of_mem hx
      have := hno j (by omega)
      simpa [List.getD, hj] using this
    simp only [findZ, this]; rfl
theorem findZ_contains (xs : List Int) (y : Int) : decide (findZ xs y ≥ 0) = xs.contains y := by
  unfold findZ
  cases h : xs.findIdx? (· == y) with
  | some i =>
    obtain ⟨hi, hp, _⟩ := List.findIdx?_eq_some_iff_getElem.1 h
    have hm : y ∈ xs := by have := List.getElem_mem hi; rw [beq_iff_eq.1 hp] at this; exact this
    rw [List.contains_iff_mem.2 hm]
    exact decide_eq_true (by simp only; omega)
  | none =>
    rw [List.findIdx?_eq_none_iff] at h
    have hm : xs.contains y = false := by
      rw [Bool.eq_false_iff]; intro e
      have := h y (List.contains_iff_mem.1 e); simp at this
    rw [hm]; rfl
theorem containsI_ok {ex : Bool} {xs : List Int} {y : Int} (hl : xs.length ≤ 1000000000) : Ret Try.prog Γ 70 [.isl ex 1 (ints xs), .int .i64 y] σ (.bool (xs.contains y)) σ := by
  refine ret_of c70_ok rfl ?_
  simp (disch := omega) only [c70, go_sem]
  refine SRun.callR (indexIs_ok (ex := ex) (xs := xs) (y := y) hl) ⟨[], rfl, rfl⟩ rfl ?_
  simp (disch := omega) only [List.getD_cons_zero, List.getD_cons_succ, go_sem]
  refine W_retR c70_ok rfl ⟨?_, rfl⟩
  simp only [look, ev, V.bool.injEq, V.int.injEq, V.str.injEq, V.tup.injEq, V.agg.injEq, V.isl.injEq, List.cons.injEq, true_and, and_true, findZ_contains, Nat.reduceEqDiff, Nat.reduceAdd, Nat.reduceSub, Nat.reduceMul, Nat.reducePow, Nat.reduceDiv, Nat.reduceMod, Int.reduceToNat, Nat.reduceLeDiff, Nat.reduceLT, Int.reduceEq, Int.reduceLT, Int.reduceLE, Int.reduceGT, Int.reduceGE, Int.reduceNeg, Int.reduceSub, Int.reduceAdd, Int.reduceMul, Int.reducePow, ne_eq, reduceCtorEq, ↓reduceIte]
end Go.Proofs.Ytlojopaebdnacaa.Lg
