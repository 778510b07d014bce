/- The program's functions, one by one: what is implied. -/
import Derived.Test.YtlojopaebdnacaaMd
set_option linter.unusedSimpArgs false
set_option linter.unusedVariables false
namespace Go.Proofs.Ytlojopaebdnacaa.Lg
open Go
attribute [local irreducible] SRun DS DRun
variable {Γ : St} {σ σ0 : St}
theorem litB_iff {vars x : Int} : litB vars x = true ↔ litOK vars x := by simp [litB, litOK]
theorem clsOK_of {vars : Int} {cls : List (List Int)} (h : cnfB vars cls = true) : ClsOK vars cls ∧ 0 ≤ vars ∧ vars ≤ 40 ∧ cls.length ≤ 300 := by
  simp only [cnfB, Bool.and_eq_true, decide_eq_true_eq, List.all_eq_true, clauseB] at h
  exact ⟨⟨⟨by omega, fun c hc => by have := (h.2 c hc).1; omega⟩, fun c hc x hx => litB_iff.1 ((h.2 c hc).2 x hx)⟩, h.1.1.1, h.1.1.2, h.1.2⟩
end Go.Proofs.Ytlojopaebdnacaa.Lg
