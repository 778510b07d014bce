/- The plain law of FnModels: the model that is found is the least one, and models are as many whichever way they are counted. No program is in sight here. -/
import Derived.Test.YtlojopaebdnacaaPa
set_option linter.unusedSimpArgs false
set_option linter.unusedVariables false
namespace Go.Proofs.Ytlojopaebdnacaa.Lg
open Go

end Go.Proofs.Ytlojopaebdnacaa.Lg
