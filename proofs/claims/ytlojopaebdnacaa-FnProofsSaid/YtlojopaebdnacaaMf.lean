/- The program's functions, one by one: counting models. -/
import Derived.Test.YtlojopaebdnacaaPb
import Derived.Test.YtlojopaebdnacaaLgL
set_option linter.unusedSimpArgs false
set_option linter.unusedVariables false
namespace Go.Proofs.Ytlojopaebdnacaa.Lg
open Go
attribute [local irreducible] SRun DS DRun
variable {Γ : St} {σ σ0 : St}
/-- What is said of a least model, or of none. -/
def leastA : Option (List Int) → List Bool × Int
  | none => ([], 6)
  | some v => (valsB v, 0)
end Go.Proofs.Ytlojopaebdnacaa.Lg
