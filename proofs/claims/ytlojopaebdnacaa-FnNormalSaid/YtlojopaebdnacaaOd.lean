/- The order of literals, called as the kit's sort calls it. -/
import Derived.Test.YtlojopaebdnacaaChecked
import Derived.Test.YtlojopaebdnacaaOc
import Derived.Test.YtlojopaebdnacaaOa
import Derived.WalkKit
import Derived.Deep.Draws
set_option linter.unusedSimpArgs false
set_option linter.unusedVariables false
namespace Go.Proofs.Ytlojopaebdnacaa.Lg
open Go
theorem compareLiterals_calls {x y : Int} (hx : -1000000 ≤ x ∧ x ≤ 1000000) (hy : -1000000 ≤ y ∧ y ≤ 1000000) (W : World) : Calls Try.prog 109 #[.int .i64 x, .int .i64 y] W fun e w' => e = .returned (.int .i64 (rankP x - rankP y)) ∧ ∃ q, w' = W.drewN q := by
  have a1 : rankP x = if x < 0 then 1 - 2 * x else 2 * x := rfl
  have a2 : rankP y = if y < 0 then 1 - 2 * y else 2 * y := rfl
  generalize rankP x = r1 at *
  generalize rankP y = r2 at *
  obtain ⟨hx1, hx2⟩ := hx
  obtain ⟨hy1, hy2⟩ := hy
  by_cases c1 : x < 0 <;> by_cases c2 : y < 0
  all_goals
    simp only [c1, c2, if_true, if_false] at a1 a2
    subst a1 a2
    go_enter Try.func109, Try.ntmps109
    go_wp2
    go_ret
    refine ⟨?_, 0, rfl⟩
    simp
end Go.Proofs.Ytlojopaebdnacaa.Lg
