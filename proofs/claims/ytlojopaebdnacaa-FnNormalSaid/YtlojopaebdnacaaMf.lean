/- The program's functions, one by one: counting models. -/
import Derived.Test.YtlojopaebdnacaaPb
import Derived.Test.YtlojopaebdnacaaLgL
set_option linter.unusedSimpArgs false
set_option linter.unusedVariables false
namespace Go.Proofs.Ytlojopaebdnacaa.Lg
open Go
attribute [local irreducible] SRun DS DRun
variable {Γ : St} {σ σ0 : St}
theorem abs_ok {x : Int} (hx : -1000000 ≤ x ∧ x ≤ 1000000) : Ret Try.prog Γ 102 [.int .i64 x] σ (.int .i64 (x.natAbs : Int)) σ := by
  refine ret_of c102_ok rfl ?_
  simp (disch := omega) only [c102, go_sem]
  refine W_retR c102_ok rfl ⟨?_, rfl⟩
  simp only [look, ev, V.bool.injEq, V.int.injEq, V.str.injEq, V.tup.injEq, V.agg.injEq, V.isl.injEq, List.cons.injEq, true_and, and_true, Nat.reduceEqDiff, Nat.reduceAdd, Nat.reduceSub, Nat.reduceMul, Nat.reducePow, Nat.reduceDiv, Nat.reduceMod, Int.reduceToNat, Nat.reduceLeDiff, Nat.reduceLT, Int.reduceEq, Int.reduceLT, Int.reduceLE, Int.reduceGT, Int.reduceGE, Int.reduceNeg, Int.reduceSub, Int.reduceAdd, Int.reduceMul, Int.reducePow, ne_eq, reduceCtorEq, ↓reduceIte]
  split <;> omega
theorem isModel11_ok {x : Int} {b : Nat} {ex : Bool} {bs : List Bool} (hb : σ b = some [.isl ex 1 (bools bs)]) (hx : 1 ≤ x.natAbs ∧ x.natAbs ≤ bs.length) (hl : bs.length ≤ 1000) : Ret Try.prog Γ 101 [.int .i64 x, .ptr b 0] σ (.bool (litV bs x)) σ := by
  refine ret_of c101_ok rfl ?_
  simp (disch := omega) only [c101, go_sem]
  rw [W_draw]
  refine DRun.start (DRun.mixE rfl ?_)
  simp (disch := omega) only [hb, go_sem]
  refine DS.callQ (abs_ok (x := x) (by omega)) ⟨[], rfl, rfl⟩ rfl ?_
  rintro r s ⟨rfl, rfl⟩ _
  simp (disch := omega) only [bools, go_sem]
  refine W_retR c101_ok rfl ⟨?_, rfl⟩
  simp only [look, ev, V.bool.injEq, V.int.injEq, V.str.injEq, V.tup.injEq, V.agg.injEq, V.isl.injEq, List.cons.injEq, true_and, and_true, Nat.reduceEqDiff, Nat.reduceAdd, Nat.reduceSub, Nat.reduceMul, Nat.reducePow, Nat.reduceDiv, Nat.reduceMod, Int.reduceToNat, Nat.reduceLeDiff, Nat.reduceLT, Int.reduceEq, Int.reduceLT, Int.reduceLE, Int.reduceGT, Int.reduceGE, Int.reduceNeg, Int.reduceSub, Int.reduceAdd, Int.reduceMul, Int.reducePow, ne_eq, reduceCtorEq, ↓reduceIte]
  have : ((x.natAbs : Int) - 1).toNat = x.natAbs - 1 := by omega
  rw [this]; rfl
theorem isModel1_ok {c : List Int} {b : Nat} {ex : Bool} {bs : List Bool} (hb : σ b = some [.isl ex 1 (bools bs)]) (hc : ∀ x ∈ c, litOK bs.length x) (hl : bs.length ≤ 1000) (hs : c.length ≤ 1000000) : Ret Try.prog Γ 100 [intsV c, .ptr b 0] σ (.bool (!c.any (litV bs))) σ := by
  refine ret_of c100_ok rfl ?_
  simp (disch := omega) only [c100, intsV, go_sem]
  refine SRun.callR (containsFuncI_ok (p := fun v => litV bs (unInt v)) (cell_ints c) (by rw [ints_len]; omega) (fun y hy => by
    simp only [ints, List.mem_map] at hy; obtain ⟨x, hx, rfl⟩ := hy
    have := hc x hx
    exact isModel11_ok hb ⟨by have := this.1; omega, by have := this.2; omega⟩ hl)) ⟨[], rfl, rfl⟩ rfl ?_
  simp (disch := omega) only [List.getD_cons_zero, List.getD_cons_succ, go_sem]
  refine W_retR c100_ok rfl ⟨?_, rfl⟩
  simp only [look, ev, V.bool.injEq, V.int.injEq, V.str.injEq, V.tup.injEq, V.agg.injEq, V.isl.injEq, List.cons.injEq, true_and, and_true, any_ints, unInt, Nat.reduceEqDiff, Nat.reduceAdd, Nat.reduceSub, Nat.reduceMul, Nat.reducePow, Nat.reduceDiv, Nat.reduceMod, Int.reduceToNat, Nat.reduceLeDiff, Nat.reduceLT, Int.reduceEq, Int.reduceLT, Int.reduceLE, Int.reduceGT, Int.reduceGE, Int.reduceNeg, Int.reduceSub, Int.reduceAdd, Int.reduceMul, Int.reducePow, ne_eq, reduceCtorEq, ↓reduceIte]
theorem isModel_ok {ex : Bool} {vars : Int} {cls : List (List Int)} {bs : List Bool} (hc : ClsOK vars cls) (hl : (bs.length : Int) = vars) (hv : vars ≤ 1000) : Ret Try.prog Γ 52 [cnfV vars cls, .isl ex 1 (bools bs)] σ (.bool (evalB cls bs)) σ := by
  refine ret_of c52_ok rfl ?_
  simp (disch := omega) only [c52, cnfV, go_sem]
  refine SRun.boxR (by simp [ev, look, V.cells, V.one]) ?_
  intro b1 hb1
  simp (disch := omega) only [go_sem]
  refine SRun.boxR (by simp [ev, look, V.cells, V.one]) ?_
  intro b2 hb2
  have hn := upd_none.1 hb2
  simp (disch := omega) only [go_sem]
  refine SRun.callR (containsFuncL_ok (p := fun v => !(unInts v).any (litV bs)) (cell_cls cls) (by rw [clsV_len]; have := hc.1.1; omega) (fun y hy => by
    simp only [clsV, List.mem_map] at hy; obtain ⟨x, hx, rfl⟩ := hy
    rw [unInts_intsV]
    exact isModel1_ok (ex := ex) (upd_same _ _ _) (fun z hz => by rw [hl]; exact hc.2 x hx z hz) (by omega) (hc.1.2 x hx))) ⟨[], rfl, rfl⟩ rfl ?_
  simp (disch := omega) only [List.getD_cons_zero, List.getD_cons_succ, go_sem]
  refine W_retC c52_ok rfl (Conv.drop _ fun c x h => le_upd hb2 _ _ (le_upd hb1 _ _ h)) ⟨?_, rfl⟩
  simp only [look, ev, V.bool.injEq, V.int.injEq, V.str.injEq, V.tup.injEq, V.agg.injEq, V.isl.injEq, List.cons.injEq, true_and, and_true, any_cls, unInts_intsV, evalB, Nat.reduceEqDiff, Nat.reduceAdd, Nat.reduceSub, Nat.reduceMul, Nat.reducePow, Nat.reduceDiv, Nat.reduceMod, Int.reduceToNat, Nat.reduceLeDiff, Nat.reduceLT, Int.reduceEq, Int.reduceLT, Int.reduceLE, Int.reduceGT, Int.reduceGE, Int.reduceNeg, Int.reduceSub, Int.reduceAdd, Int.reduceMul, Int.reducePow, ne_eq, reduceCtorEq, ↓reduceIte]
  rw [List.all_eq_not_any_not]
theorem pow_small {N : Nat} (h6 : N ≤ 6) : ∃ M : Nat, 2 ^ N = M ∧ M ≤ 64 ∧ (1 : Int) * 2 ^ min N 64 = (M : Int) :=
  ⟨_, rfl, Nat.pow_le_pow_right (n := 2) (by omega) h6, by rw [show min N 64 = N from Nat.min_eq_left (by omega)]; simp⟩
end Go.Proofs.Ytlojopaebdnacaa.Lg
