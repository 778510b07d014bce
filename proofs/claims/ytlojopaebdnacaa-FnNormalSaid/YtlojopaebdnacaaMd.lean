/- The program's functions, one by one: the least model as values, and what is implied. -/
import Derived.Test.YtlojopaebdnacaaMc
set_option linter.unusedSimpArgs false
set_option linter.unusedVariables false
namespace Go.Proofs.Ytlojopaebdnacaa.Lg
open Go
attribute [local irreducible] SRun DS DRun
variable {Γ : St} {σ σ0 : St}
def bools (xs : List Bool) : List V := xs.map V.bool
def boolsV (xs : List Bool) : V := .isl false 1 (bools xs)
theorem bools_one (xs : List Bool) : ∀ c ∈ bools xs, c.one = true := by
  intro c hc; simp only [bools, List.mem_map] at hc; obtain ⟨x, _, rfl⟩ := hc; rfl
end Go.Proofs.Ytlojopaebdnacaa.Lg
