/- The own logic: a slice that is written down is owned. It holds for every program. -/
import Derived.Test.YtjibkkhgejcjeaaGreatDoorLgJ
set_option linter.unusedSimpArgs false
set_option linter.unusedVariables false
namespace Go.Proofs.YtjibkkhgejcjeaaGreatDoor.Lg
open Go
variable {P : Program} {Γ : St}
section
variable {f : FuncId} {n : Nat} {k : List It} {T : Ts} {σ : St} {Q : V → St → Prop} {d : Option Nat} {l : List GI}
end
end Go.Proofs.YtjibkkhgejcjeaaGreatDoor.Lg
