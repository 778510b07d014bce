/- Two properties that are the same. -/
import Derived.Test.YtjibkkhgejcjeaaGreatDoorYf
set_option linter.unusedSimpArgs false
set_option linter.unusedVariables false
namespace Go.Proofs.YtjibkkhgejcjeaaGreatDoor.Lg
open Go Go.Lib
attribute [local irreducible] SRun DS DRun
variable {Γ : St} {σ σ0 : St}
theorem eqProperty_same (a b c d : Int) : Ret Tryz.prog Γ 10 [.agg (prop4 a b c d), .agg (prop4 a b c d)] σ (.bool true) σ := by
  have h0 : ∀ x : Int, (decide ¬ (x = x)) = false := fun x => by simp
  unfold prop4
  refine ret_of c10_ok rfl ?_
  simp (disch := omega) only [c10, go_sem]
  refine SRun.boxR (by simp [ev, look, V.cells, V.one]) ?_
  intro b1 hb1
  have g1 := upd_same σ b1 [V.int .i64 a, V.int .i64 b, V.int .i64 c, V.int .i64 d]
  have hσ : ∀ d' x, σ d' = some x → upd σ b1 [V.int .i64 a, V.int .i64 b, V.int .i64 c, V.int .i64 d] d' = some x := le_upd hb1
  change W _ _ _ _ _ _ _ (upd σ b1 [V.int .i64 a, V.int .i64 b, V.int .i64 c, V.int .i64 d])
  generalize upd σ b1 [V.int .i64 a, V.int .i64 b, V.int .i64 c, V.int .i64 d] = s1 at *
  simp (disch := omega) only [go_sem]
  refine SRun.boxR (by simp [ev, look, V.cells, V.one]) ?_
  intro b2 hb2
  have g2 := upd_same s1 b2 [V.int .i64 a, V.int .i64 b, V.int .i64 c, V.int .i64 d]
  have e12 : b1 ≠ b2 := fun e => by subst e; rw [hb2] at g1; cases g1
  have g1 : upd s1 b2 [V.int .i64 a, V.int .i64 b, V.int .i64 c, V.int .i64 d] b1 = some [V.int .i64 a, V.int .i64 b, V.int .i64 c, V.int .i64 d] := by rw [upd_ne _ _ e12]; exact g1
  have hσ : ∀ d' x, σ d' = some x → upd s1 b2 [V.int .i64 a, V.int .i64 b, V.int .i64 c, V.int .i64 d] d' = some x := fun d' x hd => le_upd hb2 d' x (hσ d' x hd)
  change W _ _ _ _ _ _ _ (upd s1 b2 [V.int .i64 a, V.int .i64 b, V.int .i64 c, V.int .i64 d])
  generalize upd s1 b2 [V.int .i64 a, V.int .i64 b, V.int .i64 c, V.int .i64 d] = s2 at *
  simp (disch := omega) only [g1, g2, h0, go_sem]
  exact W_retC c10_ok rfl (Conv.drop _ hσ) ⟨rfl, rfl⟩
end Go.Proofs.YtjibkkhgejcjeaaGreatDoor.Lg
