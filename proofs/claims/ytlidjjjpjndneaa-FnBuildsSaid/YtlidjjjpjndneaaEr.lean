/- The law FnBuilds over its code. -/
import Derived.Test.YtlidjjjpjndneaaEp
import Derived.Test.YtlidjjjpjndneaaEq
set_option linter.unusedSimpArgs false
set_option linter.unusedVariables false
namespace Go.Proofs.Ytlidjjjpjndneaa.Lg
open Go
attribute [local irreducible] SRun DS DRun
variable {Γ : St} {σ σ0 : St}
set_option maxHeartbeats 1000000 in
theorem fnBuilds_ok {ex ex2 : Bool} {code more : List UInt8} (hl1 : code.length ≤ 140737488355328) (hl2 : more.length ≤ 140737488355328) : Ret Try.prog Γ 4 [codeV ex code, codeV ex2 more] σ (.bool true) σ := by
  refine ret_of c4_ok rfl ?_
  simp (disch := omega) only [c4, codeV, go_sem, ↓if_pos, ne_eq, ↓reduceIte]
  first | refine guardW_dec (fun h => ?_) (fun h => ?_) | refine guardW_by (fun h => ?_) (fun h => ?_)
  · simp (disch := omega) only [go_sem, ↓if_pos, ne_eq, ↓reduceIte]
    refine W_retR c4_ok rfl ⟨?_, rfl⟩
    simp only [look, ev, V.bool.injEq, V.int.injEq, V.str.injEq, V.tup.injEq, V.agg.injEq, V.isl.injEq, List.cons.injEq, true_and, and_true, Nat.reduceEqDiff, Nat.reduceAdd, Nat.reduceSub, Nat.reduceMul, Nat.reducePow, Nat.reduceDiv, Nat.reduceMod, Int.reduceToNat, Nat.reduceLeDiff, Nat.reduceLT, Int.reduceEq, Int.reduceLT, Int.reduceLE, Int.reduceGT, Int.reduceGE, Int.reduceNeg, Int.reduceSub, Int.reduceAdd, Int.reduceMul, Int.reducePow, ne_eq, reduceCtorEq, ↓reduceIte]
  simp (disch := omega) only [go_sem, ↓if_pos, ne_eq, ↓reduceIte]
  first | refine iteW_dec (fun h2 => ?_) (fun h2 => ?_) | refine iteW_of (fun h2 => ?_) (fun h2 => ?_)
  · simp (disch := omega) only [go_sem, ↓if_pos, ne_eq, ↓reduceIte]
    refine W_retR c4_ok rfl ⟨?_, rfl⟩
    simp only [look, ev, V.bool.injEq, V.int.injEq, V.str.injEq, V.tup.injEq, V.agg.injEq, V.isl.injEq, List.cons.injEq, true_and, and_true, Nat.reduceEqDiff, Nat.reduceAdd, Nat.reduceSub, Nat.reduceMul, Nat.reducePow, Nat.reduceDiv, Nat.reduceMod, Int.reduceToNat, Nat.reduceLeDiff, Nat.reduceLT, Int.reduceEq, Int.reduceLT, Int.reduceLE, Int.reduceGT, Int.reduceGE, Int.reduceNeg, Int.reduceSub, Int.reduceAdd, Int.reduceMul, Int.reducePow, ne_eq, reduceCtorEq, ↓reduceIte]
  simp (disch := omega) only [go_sem, ↓if_pos, ne_eq, ↓reduceIte]
  refine SRun.callQ (ExOf_ok (ex := ex) (code := code) hl1) ⟨[], rfl, rfl⟩ rfl ?_
  rintro r s ⟨e, he, rfl, hs⟩
  obtain rfl := hs.symm
  have he1 := exC_one e
  simp (disch := omega) only [go_sem, ↓if_pos, ne_eq, ↓reduceIte]
  refine SRun.allocR ?_
  intro b5 hb5
  simp (disch := omega) only [he1, go_sem, ↓if_pos, ne_eq, ↓reduceIte]
  have hst : ∀ e : Ex, sets [V.int IntKind.i64 0, V.int IntKind.i64 0, V.isl true 0 []] 0 (exC e) = exC e := by intro e; obtain ⟨k, n, ks⟩ := e; rfl
  refine SRun.callQ (ExOf_ok (ex := ex2) (code := more) hl2) ⟨[], rfl, rfl⟩ rfl ?_
  rintro r s ⟨g, hg, rfl, hs⟩
  obtain rfl := hs.symm
  have hg1 := exC_one g
  simp (disch := omega) only [hst, go_sem, ↓if_pos, ne_eq, ↓reduceIte]
  refine SRun.allocR ?_
  intro b6 hb6
  simp (disch := omega) only [hg1, hst, go_sem, ↓if_pos, ne_eq, ↓reduceIte]
  have n65 : b6 ≠ b5 := (upd_none.1 hb6).1
  have hσ : ∀ d x, σ d = some x → upd (upd σ b5 (exC e)) b6 (exC g) d = some x := fun d x h => le_upd hb6 _ _ (le_upd hb5 _ _ h)
  have g5 : upd (upd σ b5 (exC e)) b6 (exC g) b5 = some (exC e) := by rw [upd_ne _ _ n65.symm, upd_same]
  have g6 : upd (upd σ b5 (exC e)) b6 (exC g) b6 = some (exC g) := upd_same _ _ _
  generalize upd (upd σ b5 (exC e)) b6 (exC g) = s1 at *
  obtain ⟨l1, l2, gs, hm, hgo, hgl, hlit, hval⟩ := builds_plain he hg
  have hfit := he.fit hg
  have B1 := fun Γ σ => BuildAig_ok (Γ := Γ) (σ := σ) (inp := 4) (by omega) (ex := true) hfit
  have B2 := fun Γ σ => BuildAigs_ok (Γ := Γ) (σ := σ) (inp := 4) (by omega) (ex := true) hfit
  rw [hm] at B1 B2
  simp (disch := omega) only [g5, g6, go_sem, ↓if_pos, ne_eq, ↓reduceIte]
  refine ⟨⟨he1, hg1, he1⟩, ?_⟩
  refine SRun.callR (B1 _ _) ⟨[], rfl, rfl⟩ rfl ?_
  simp (disch := omega) only [aigV, go_sem, ↓if_pos, ne_eq, ↓reduceIte]
  refine SRun.allocR ?_
  intro b7 hb7
  simp (disch := omega) only [go_sem, ↓if_pos, ne_eq, ↓reduceIte]
  have gI : ∀ d x, σ d = some x → upd s1 b7 [.int .i64 4, .isl false 2 (gsV gs)] d = some x := fun d x h => le_upd hb7 _ _ (hσ _ _ h)
  have g5' := le_upd (cs := [.int .i64 4, .isl false 2 (gsV gs)]) hb7 _ _ g5
  have g6' := le_upd (cs := [.int .i64 4, .isl false 2 (gsV gs)]) hb7 _ _ g6
  have g7' := upd_same s1 b7 [.int .i64 4, .isl false 2 (gsV gs)]
  generalize upd s1 b7 [.int .i64 4, .isl false 2 (gsV gs)] = s2 at *
  simp (disch := omega) only [g5', g6', go_sem, ↓if_pos, ne_eq, ↓reduceIte]
  refine ⟨⟨he1, hg1, he1⟩, ?_⟩
  refine SRun.callR (B2 _ _) ⟨[], rfl, rfl⟩ rfl ?_
  simp (disch := omega) only [aigV, go_sem, ↓if_pos, ne_eq, ↓reduceIte]
  refine SRun.allocR ?_
  intro b10 hb10
  simp (disch := omega) only [go_sem, ↓if_pos, ne_eq, ↓reduceIte]
  have gI2 : ∀ d x, σ d = some x → upd s2 b10 [.int .i64 4, .isl false 2 (gsV gs)] d = some x := fun d x h => le_upd hb10 _ _ (gI _ _ h)
  have k5 := le_upd (cs := [.int .i64 4, .isl false 2 (gsV gs)]) hb10 _ _ g5'
  have k6 := le_upd (cs := [.int .i64 4, .isl false 2 (gsV gs)]) hb10 _ _ g6'
  have k7 := le_upd (cs := [.int .i64 4, .isl false 2 (gsV gs)]) hb10 _ _ g7'
  have k10 := upd_same s2 b10 [.int .i64 4, .isl false 2 (gsV gs)]
  generalize upd s2 b10 [.int .i64 4, .isl false 2 (gsV gs)] = s3 at *
  have h3 : ((List.length [l1, l2, l1] : Nat) : Int) = 3 := rfl
  have hb3 : (decide ¬ (3 : Int) = 3) = false := by decide
  refine W_drawW ?_
  simp (disch := omega) only [intsV, h3, hb3, go_sem, ↓if_pos, ne_eq, ↓reduceIte]
  refine DRun.callG (sameInts_ok (ex := false) (ex2 := false) (xs := [l1, l2, l1]) (ys := [l1, l2, l1]) (by simp)) ⟨[], rfl, rfl⟩ rfl ?_
  rintro r s ⟨rfl, hs⟩
  obtain rfl := hs.symm
  have hbeq : ([l1, l2, l1] == [l1, l2, l1]) = true := by simp
  have hng : decide (¬ ((gs.length : Nat) : Int) = (gs.length : Nat)) = false := by simp
  have hgl2 := gsV_len gs
  simp (disch := omega) only [hbeq, k7, k10, hgl2, hng, go_sem, ↓if_pos, ne_eq, ↓reduceIte]
  refine DRun.callG (AigOK_ok (inp := 4) (gs := gs) (by omega) hgl hgo) ⟨[], rfl, rfl⟩ rfl ?_
  rintro r s ⟨rfl, hs⟩
  obtain rfl := hs.symm
  have hl11 : decide (¬ l1 = l1) = false := by simp
  simp (disch := omega) only [hl11, k5, go_sem, ↓if_pos, ne_eq, ↓reduceIte]
  refine DRun.callG (ExOKi_ok (e := e) (by have := he.size; have := szB_le (d := 5) (by omega); omega)) ⟨[], rfl, rfl⟩ rfl ?_
  rintro r s ⟨rfl, hs⟩
  obtain rfl := hs.symm
  have hok := he.ok
  have hok2 := hg.ok
  have hm1 := he.most
  have hm2 := hg.most
  simp (disch := omega) only [hok, go_sem, ↓if_pos, ne_eq, ↓reduceIte]
  refine W_loopC (α := Nat) (fun i => i ≤ 16) (fun i => [(5, .ptr b5 0), (6, .ptr b6 0), (7, .ptr b7 0), (8, .isl false 1 (ints [l1, l2, l1])), (13, .int .i64 (i : Nat))]) (fun _ => s3) (fun i => 16 - i) 0 (by omega) (by simp (disch := omega) only [subT, Int.natCast_add, Int.cast_ofNat_Int, go_sem, ↓if_pos, ne_eq, ↓reduceIte] <;> (repeat' apply And.intro) <;> first | rfl | (congr 1; omega) | assumption) rfl ?_
  intro i hi ih
  simp (disch := omega) only [go_sem, ↓if_pos, ne_eq, ↓reduceIte]
  first | refine iteW_dec (fun hq => ?_) (fun hq => ?_) | refine iteW_of (fun hq => ?_) (fun hq => ?_)
  · simp (disch := omega) only [go_sem, ↓if_pos, ne_eq, ↓reduceIte]
    refine SRun.callR (values_ok (a := (i : Int)) (many := 4) (by omega)) ⟨[], rfl, rfl⟩ rfl ?_
    simp (disch := omega) only [List.getD_cons_zero, List.getD_cons_succ, go_sem, ↓if_pos, ne_eq, ↓reduceIte]
    have hvl := valuesP_len (i : Int) 4
    have hv := hval (valuesP i 4) hvl
    generalize valuesP (i : Int) 4 = vs at *
    simp (disch := omega) only [k5, boolsV, go_sem, ↓if_pos, ne_eq, ↓reduceIte]
    refine SRun.callR (EvalEx_ok (e := e) (ex := false) (bs := vs) hok (by omega) (by omega)) ⟨[], rfl, rfl⟩ rfl ?_
    simp (disch := omega) only [List.getD_cons_zero, List.getD_cons_succ, go_sem, ↓if_pos, ne_eq, ↓reduceIte]
    simp (disch := omega) only [k6, go_sem, ↓if_pos, ne_eq, ↓reduceIte]
    refine SRun.callR (EvalEx_ok (e := g) (ex := false) (bs := vs) hok2 (by omega) (by omega)) ⟨[], rfl, rfl⟩ rfl ?_
    simp (disch := omega) only [List.getD_cons_zero, List.getD_cons_succ, go_sem, ↓if_pos, ne_eq, ↓reduceIte]
    simp (disch := omega) only [k7, go_sem, ↓if_pos, ne_eq, ↓reduceIte]
    refine SRun.callR (EvalAig_ok (inp := 4) (gs := gs) (ex := false) (ex2 := false) (lits := [l1, l2, l1]) (vs := vs) (by omega) hgl hgo (by omega) (fun h => by rw [h] at hvl; cases hvl) hlit (by simp)) ⟨[], rfl, rfl⟩ rfl ?_
    rw [hv]
    simp (disch := omega) only [k5, boolsV, go_sem, ↓if_pos, ne_eq, ↓reduceIte]
    refine SRun.callR (EvalExs_ok (e := e) (ex := false) (bs := vs) hok (by omega) (by omega)) ⟨[], rfl, rfl⟩ rfl ?_
    simp (disch := omega) only [List.getD_cons_zero, List.getD_cons_succ, go_sem, ↓if_pos, ne_eq, ↓reduceIte]
    have heq : (!(evE vs e == evE vs e)) = false := by simp
    simp (disch := omega) only [heq, go_sem, ↓if_pos, ne_eq, ↓reduceIte]
    refine SRun.callR (sameBools_ok (ex := false) (ex2 := true) (xs := [evE vs e, evE vs g, evE vs e]) (bs := [evE vs e, evE vs g, evE vs e]) (by simp)) ⟨[], rfl, rfl⟩ rfl ?_
    have heq2 : ([evE vs e, evE vs g, evE vs e] == [evE vs e, evE vs g, evE vs e]) = true := by simp
    simp (disch := omega) only [heq2, go_sem, ↓if_pos, ne_eq, ↓reduceIte]
    exact ih (i + 1) _ _ (by omega) (by omega) (by simp (disch := omega) only [subT, Int.natCast_add, Int.cast_ofNat_Int, go_sem, ↓if_pos, ne_eq, ↓reduceIte] <;> (repeat' apply And.intro) <;> first | rfl | (congr 1; omega) | assumption) rfl
  · simp (disch := omega) only [go_sem, ↓if_pos, ne_eq, ↓reduceIte]
    exact W_retC c4_ok rfl (Conv.drop _ gI2) ⟨rfl, rfl⟩
end Go.Proofs.Ytlidjjjpjndneaa.Lg
