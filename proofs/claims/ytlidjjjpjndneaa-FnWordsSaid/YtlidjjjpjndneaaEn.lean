/- Circuits: the values of their literals. -/
import Derived.Test.YtlidjjjpjndneaaEm
set_option linter.unusedSimpArgs false
set_option linter.unusedVariables false
namespace Go.Proofs.Ytlidjjjpjndneaa.Lg
open Go
attribute [local irreducible] SRun DS DRun
variable {Γ : St} {σ σ0 : St}
/-- The value of a literal, of nodes' values. -/
def valP (ns : List Bool) (x : Int) : Bool := ns.getD (x / 2).toNat false != decide (x % 2 = 1)
/-- A row of bools that is read in memory. -/
def RowB (σ : St) (t : V) (ns : List Bool) : Prop := ∃ bq cap, t = .msl bq 1 0 ns.length cap ∧ ns.length ≤ cap ∧ σ bq = some (bools ns)
theorem RowB.of {σ1 : St} {t : V} {ns : List Bool} (ho : OwnL σ1 1 (bools ns) t σ) (hn : ns ≠ []) : RowB σ t ns := by
  obtain ⟨bq, cap, h1, hbq, hcap, _, _⟩ := ho.at (fun e => hn (List.eq_nil_of_length_eq_zero (by rw [← bools_len, e]; rfl)))
  rw [flat_one (bools_one ns)] at hbq
  rw [bools_len] at h1 hcap
  exact ⟨bq, cap, h1, hcap, hbq⟩
theorem RowB.le {t : V} {ns : List Bool} (h : RowB σ t ns) (hle : ∀ d x, σ d = some x → σ0 d = some x) : RowB σ0 t ns := by
  obtain ⟨bq, cap, h1, h2, h3⟩ := h
  exact ⟨bq, cap, h1, h2, hle _ _ h3⟩
theorem evalAig1_ok {b : Nat} {t : V} {ns : List Bool} {x : Int} (hb : σ b = some [t]) (ho : RowB σ t ns) (hx : 0 ≤ x ∧ x ≤ 1000000) (hn : (x / 2).toNat < ns.length) : Ret Try.prog Γ 160 [.int .i64 x, .ptr b 0] σ (.bool (valP ns x)) σ := by
  have t1 : x.tdiv 2 = x / 2 := Int.tdiv_eq_ediv_of_nonneg (by omega)
  have t2 : x.tmod 2 = x % 2 := Int.tmod_eq_emod_of_nonneg (by omega)
  have hbl := bools_len ns
  obtain ⟨bq, cap, rfl, hcap, hbq⟩ := ho
  have hget : (bools ns)[(x / 2).toNat]? = some (.bool (ns.getD (x / 2).toNat false)) := by simp [bools, List.getD, hn]
  refine ret_of c160_ok rfl ?_
  simp (disch := omega) only [c160, hb, t1, t2, hbq, hget, go_sem, ↓if_pos, ne_eq, ↓reduceIte]
  refine W_retR c160_ok rfl ⟨?_, rfl⟩
  simp only [look, ev, V.bool.injEq, V.int.injEq, V.str.injEq, V.tup.injEq, V.agg.injEq, V.isl.injEq, List.cons.injEq, true_and, and_true, valP, Nat.reduceEqDiff, Nat.reduceAdd, Nat.reduceSub, Nat.reduceMul, Nat.reducePow, Nat.reduceDiv, Nat.reduceMod, Int.reduceToNat, Nat.reduceLeDiff, Nat.reduceLT, Int.reduceEq, Int.reduceLT, Int.reduceLE, Int.reduceGT, Int.reduceGE, Int.reduceNeg, Int.reduceSub, Int.reduceAdd, Int.reduceMul, Int.reducePow, ne_eq, reduceCtorEq, ↓reduceIte]
  rfl
/-- Nodes' values, gate by gate. -/
def nodesP (vs : List Bool) (gs : List (Int × Int)) : List Bool := gs.foldl (fun ns g => ns ++ [valP ns g.1 && valP ns g.2]) (false :: vs)
theorem nodesP_len (vs : List Bool) (gs : List (Int × Int)) : (nodesP vs gs).length = 1 + vs.length + gs.length := by
  unfold nodesP
  have : ∀ (gs : List (Int × Int)) (a : List Bool), (gs.foldl (fun ns g => ns ++ [valP ns g.1 && valP ns g.2]) a).length = a.length + gs.length := by
    intro gs
    induction gs with
    | nil => intro a; rfl
    | cons g r ih => intro a; rw [List.foldl_cons, ih]; simp only [List.length_append, List.length_cons, List.length_nil]; omega
  rw [this]; simp only [List.length_cons]; omega
theorem nodesP_succ {vs : List Bool} {gs : List (Int × Int)} {i : Nat} (h : i < gs.length) : nodesP vs (gs.take (i + 1)) = nodesP vs (gs.take i) ++ [valP (nodesP vs (gs.take i)) (gs.getD i default).1 && valP (nodesP vs (gs.take i)) (gs.getD i default).2] := by
  rw [take_succ default h]; simp only [nodesP, List.foldl_append, List.foldl_cons, List.foldl_nil]
theorem bools_ok (xs : List Bool) : ∀ y ∈ bools xs, y.cells.length = 1 ∧ ∀ c ∈ y.cells, c.one = true := by
  intro y hy; simp only [bools, List.mem_map] at hy; obtain ⟨b, _, rfl⟩ := hy; simp [V.cells, V.one]
theorem bools_app (xs : List Bool) (b : Bool) : bools xs ++ [.bool b] = bools (xs ++ [b]) := by simp [bools]
end Go.Proofs.Ytlidjjjpjndneaa.Lg
