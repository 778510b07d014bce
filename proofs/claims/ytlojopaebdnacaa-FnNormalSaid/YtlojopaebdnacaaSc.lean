/- The functions of propagation at the face, of the reference and of the program; what is implied. -/
import Derived.Test.YtlojopaebdnacaaSb
set_option linter.unusedSimpArgs false
set_option linter.unusedVariables false
namespace Go.Proofs.Ytlojopaebdnacaa.Lg
open Go
attribute [local irreducible] SRun DS DRun
variable {Γ : St} {σ σ0 : St}
end Go.Proofs.Ytlojopaebdnacaa.Lg
