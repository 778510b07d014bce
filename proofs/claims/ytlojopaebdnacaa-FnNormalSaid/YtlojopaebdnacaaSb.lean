/- The reference's functions, one by one: propagation and least models. -/
import Derived.Test.YtlojopaebdnacaaMf
set_option linter.unusedSimpArgs false
set_option linter.unusedVariables false
namespace Go.Proofs.Ytlojopaebdnacaa.Lg
open Go
attribute [local irreducible] SRun DS DRun
variable {Γ : St} {σ σ0 : St}
/-- What is known, in a slice that is owned. -/
structure VAt (σ : St) (vars : Int) (vals : List Int) (bv n cap : Nat) : Prop where
  vl : σ bv = some (ints vals)
  len : (vals.length : Int) = vars + 1
  n : n = vals.length
section
variable {P : Program} {f : FuncId} {n : Nat} {Q : V → St → Prop} {k : List It} {T : Ts} {g : GI} {l : List GI}
theorem stepW_iaddr_cls {ex : Bool} {cls : List (List Int)} {kk : IntKind} {m : Int} (h0 : 0 ≤ m) (h1 : m < cls.length) : stepW P Γ f n Q (.iaddr 1 (.c (.isl ex 1 (clsV cls))) (.c (.int kk m))) g l k T σ = W P Γ f n Q (.ops l :: k) (putT T g.d (.iptr [intsV (cls.getD m.toNat [])])) σ := stepW_iaddr_map h0 h1
theorem stepK_iaddr_cls {K : V → St → Prop} {ex : Bool} {cls : List (List Int)} {kk : IntKind} {m : Int} (h0 : 0 ≤ m) (h1 : m < cls.length) : stepK (.iaddr 1 (.c (.isl ex 1 (clsV cls))) (.c (.int kk m))) σ K = K (.iptr [intsV (cls.getD m.toNat [])]) σ := stepK_iaddr_map h0 h1
end
attribute [go_sem] stepW_iaddr_cls stepK_iaddr_cls clsV_len
end Go.Proofs.Ytlojopaebdnacaa.Lg
