/- The reference's order of literals. -/
import Derived.Test.YtlojopaebdnacaaOg
import Derived.Test.YtlojopaebdnacaaOh
set_option linter.unusedSimpArgs false
set_option linter.unusedVariables false
namespace Go.Proofs.Ytlojopaebdnacaa.Lg
open Go
attribute [local irreducible] SRun DS DRun
variable {Γ : St} {σ σ0 : St}
def litN (x : Int) : Prop := x ≠ 0 ∧ -1000000 ≤ x ∧ x ≤ 1000000
theorem l01Before_ok {x y : Int} (hx : litN x) (hy : litN y) : Ret Try.prog Γ 115 [.int .i64 x, .int .i64 y] σ (.bool (decide (rankP x < rankP y))) σ := by
  obtain ⟨x0, x1, x2⟩ := hx
  obtain ⟨y0, y1, y2⟩ := hy
  have r1 : rankP x = if x < 0 then 1 - 2 * x else 2 * x := rfl
  have r2 : rankP y = if y < 0 then 1 - 2 * y else 2 * y := rfl
  have hA := fun Γ σ => l01Abs_ok (Γ := Γ) (σ := σ) (x := x) ⟨x1, x2⟩
  have hB := fun Γ σ => l01Abs_ok (Γ := Γ) (σ := σ) (x := y) ⟨y1, y2⟩
  generalize rankP x = p at *
  generalize rankP y = q at *
  refine ret_of c115_ok rfl ?_
  simp (disch := omega) only [c115, go_sem]
  refine SRun.callR (hA _ _) ⟨[], rfl, rfl⟩ rfl ?_
  simp (disch := omega) only [go_sem]
  refine SRun.callR (hB _ _) ⟨[], rfl, rfl⟩ rfl ?_
  simp (disch := omega) only [go_sem]
  by_cases h1 : (x.natAbs : Int) = y.natAbs
  · have d1 : (decide ¬ (x.natAbs : Int) = y.natAbs) = false := decide_eq_false (fun h => h h1)
    simp (disch := omega) only [d1, go_sem]
    refine W_retR c115_ok rfl ⟨?_, rfl⟩
    have : (y < x) = (p < q) := by
      apply propext
      split at r1 <;> split at r2 <;> omega
    simp [look, this]
  · have d1 : (decide ¬ (x.natAbs : Int) = y.natAbs) = true := decide_eq_true h1
    simp (disch := omega) only [d1, go_sem]
    refine SRun.callR (hA _ _) ⟨[], rfl, rfl⟩ rfl ?_
    simp (disch := omega) only [go_sem]
    refine SRun.callR (hB _ _) ⟨[], rfl, rfl⟩ rfl ?_
    simp (disch := omega) only [go_sem]
    refine W_retR c115_ok rfl ⟨?_, rfl⟩
    have : ((x.natAbs : Int) < y.natAbs) = (p < q) := by
      apply propext
      split at r1 <;> split at r2 <;> omega
    simp only [look, this]
    rfl
end Go.Proofs.Ytlojopaebdnacaa.Lg
