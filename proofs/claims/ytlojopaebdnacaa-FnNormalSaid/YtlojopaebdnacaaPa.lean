/- The plain law of FnImplied: what is found by propagation and by cases is right. No program is in sight here. -/
import Derived.Test.YtlojopaebdnacaaXa
set_option linter.unusedSimpArgs false
set_option linter.unusedVariables false
namespace Go.Proofs.Ytlojopaebdnacaa.Lg
open Go

theorem litV_neg {bs : List Bool} {x : Int} (h : x ≠ 0) : litV bs (-x) = !litV bs x := by
  unfold litV
  rw [Int.natAbs_neg]
  by_cases hx : x > 0
  · rw [decide_eq_true hx, decide_eq_false (by omega)]
    cases bs.getD (x.natAbs - 1) false <;> rfl
  · rw [decide_eq_false hx, decide_eq_true (by omega)]
    cases bs.getD (x.natAbs - 1) false <;> rfl
/-! One clause -/
/-! All clauses -/
/-! All values are told by numbers -/
end Go.Proofs.Ytlojopaebdnacaa.Lg
