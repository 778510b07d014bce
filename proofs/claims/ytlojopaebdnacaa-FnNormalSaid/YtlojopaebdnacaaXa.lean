/- The law FnImplied over its code: what it answers, told of the plain functions. -/
import Derived.Test.YtlojopaebdnacaaSa
set_option linter.unusedSimpArgs false
set_option linter.unusedVariables false
namespace Go.Proofs.Ytlojopaebdnacaa.Lg
open Go
attribute [local irreducible] SRun DS DRun
variable {Γ : St} {σ σ0 : St}
theorem cnfB_of {vars : Int} {cls : List (List Int)} (h : Drawn vars cls) : cnfB vars cls = true := by
  obtain ⟨h1, h2, h3, h4⟩ := h
  simp only [cnfB, Bool.and_eq_true, decide_eq_true_eq, List.all_eq_true, clauseB]
  refine ⟨⟨⟨by omega, by omega⟩, by omega⟩, fun c hc => ⟨by have := (h4 c hc).1; omega, fun x hx => ?_⟩⟩
  exact litB_iff.2 ((h4 c hc).2 x hx)
end Go.Proofs.Ytlojopaebdnacaa.Lg
