/- FnNormal over its code. -/
import Derived.Test.YtlojopaebdnacaaNf
set_option linter.unusedSimpArgs false
set_option linter.unusedVariables false
namespace Go.Proofs.Ytlojopaebdnacaa.Lg
open Go
attribute [local irreducible] SRun DS DRun
variable {Γ : St} {σ σ0 : St}
theorem sameCnf_ok {vars : Int} {cls : List (List Int)} (hs : Small cls) : Ret Try.prog Γ 33 [cnfV vars cls, cnfV vars cls] σ (.bool true) σ := by
  have hl1 := hs.1
  have hv : (decide ¬ vars = vars) = false := by simp
  have hn : (decide ¬ ((cls.length : Nat) : Int) = (cls.length : Nat)) = false := by simp
  refine ret_of c33_ok rfl ?_
  simp (disch := omega) only [c33, cnfV, go_sem]
  refine SRun.boxR (by simp [ev, look, V.cells, V.one]) ?_
  intro b2 hb2
  simp (disch := omega) only [go_sem]
  refine SRun.boxR (by simp [ev, look, V.cells, V.one]) ?_
  intro b3 hb3
  simp (disch := omega) only [go_sem]
  have n32 := (upd_none.1 hb3).1
  have g3 := upd_same (upd σ b2 [.int .i64 vars, .isl false 1 (clsV cls)]) b3 [.int .i64 vars, .isl false 1 (clsV cls)]
  have g2 : upd (upd σ b2 [.int .i64 vars, .isl false 1 (clsV cls)]) b3 [.int .i64 vars, .isl false 1 (clsV cls)] b2 = some [.int .i64 vars, .isl false 1 (clsV cls)] := by rw [upd_ne _ _ n32.symm, upd_same]
  have hσ : ∀ d x, σ d = some x → upd (upd σ b2 [.int .i64 vars, .isl false 1 (clsV cls)]) b3 [.int .i64 vars, .isl false 1 (clsV cls)] d = some x := fun d x h => le_upd hb3 _ _ (le_upd hb2 _ _ h)
  generalize upd (upd σ b2 [.int .i64 vars, .isl false 1 (clsV cls)]) b3 [.int .i64 vars, .isl false 1 (clsV cls)] = s1 at *
  simp (disch := omega) only [g2, g3, hv, hn, go_sem]
  refine W_loopC (α := Nat) (fun i => i ≤ cls.length) (fun i => [(2, .ptr b2 0), (3, .ptr b3 0), (5, .int .i64 (i : Nat))]) (fun _ => s1) (fun i => cls.length - i) 0 (by omega) (by simp (disch := omega) only [subT, Int.natCast_add, Int.cast_ofNat_Int, go_sem] <;> (repeat' apply And.intro) <;> first | rfl | (congr 1; omega) | assumption) rfl ?_
  intro i hi ih
  simp (disch := omega) only [g2, go_sem]
  first | refine iteW_dec (fun hq => ?_) (fun hq => ?_) | refine iteW_of (fun hq => ?_) (fun hq => ?_)
  · have hsm := hs.2 _ (getD_mem [] (by omega : i < cls.length))
    simp (disch := omega) only [go_sem]
    refine W_drawW ?_
    simp (disch := omega) only [g2, g3, intsV, go_sem]
    generalize cls.getD i [] = c at *
    refine DRun.callQ (sameIntsP_ok (ex := false) (ex2 := false) (xs := c) (ys := c) (by omega)) ⟨[], rfl, rfl⟩ ?_
    rintro r s ⟨rfl, hs'⟩
    obtain rfl := hs'.symm
    have hbe : (c == c) = true := by simp
    simp (disch := omega) only [hbe, go_sem]
    exact ih (i + 1) _ _ (by omega) (by omega) (by simp (disch := omega) only [subT, Int.natCast_add, Int.cast_ofNat_Int, go_sem] <;> (repeat' apply And.intro) <;> first | rfl | (congr 1; omega) | assumption) rfl
  · simp (disch := omega) only [go_sem]
    exact W_retC c33_ok rfl (Conv.drop _ hσ) ⟨rfl, rfl⟩
theorem EvalCnf_ok {ex : Bool} {cls : List (List Int)} {bs : List Bool} {vars : Int} (hb : cnfB vars cls = true) (hl : (bs.length : Int) = vars) : Ret Try.prog Γ 34 [cnfV vars cls, .isl ex 1 (bools bs)] σ (.tup [.bool (evalB cls bs), .int .i64 0]) σ := by
  obtain ⟨hc, hv0, hv40, hcl⟩ := clsOK_of hb
  have c0 : decide ((bs.length : Int) > 4096) = false := decide_eq_false (by omega)
  have c1 : (decide ¬ (bs.length : Int) = vars) = false := decide_eq_false (fun h => h hl)
  refine ret_of c34_ok rfl ?_
  simp (disch := omega) only [c34, cnfV, go_sem]
  refine SRun.boxR (by simp [ev, look, V.cells, V.one]) ?_
  intro b2 hb2
  simp (disch := omega) only [bools_len, c0, go_sem]
  refine SRun.callR (isCnf_ok hc.1) ⟨[], rfl, rfl⟩ rfl ?_
  rw [hb]
  simp (disch := omega) only [bools_len, c1, go_sem]
  refine SRun.callR (isModel_ok hc hl (by omega)) ⟨[], rfl, rfl⟩ rfl ?_
  simp (disch := omega) only [go_sem]
  exact W_retC c34_ok rfl (Conv.drop _ (le_upd hb2)) ⟨rfl, rfl⟩
theorem norm_eval {vars : Int} {cls ys : List (List Int)} {bs : List Bool} (h : NormOf cls ys) (hb : cnfB vars cls = true) : evalB ys bs = evalB cls bs :=
  h.eval fun c hc x hx => litV_neg ((rows_of hb c hc).2.1 x hx).1
set_option maxHeartbeats 1000000 in
theorem fnNormal_ok {ex : Bool} {code : List UInt8} (hl1 : code.length ≤ 140737488355328) : Ret Try.prog Γ 8 [codeV ex code] σ (.bool true) σ := by
  refine ret_of c8_ok rfl ?_
  simp (disch := omega) only [c8, codeV, go_sem]
  first | refine iteW_dec (fun h => ?_) (fun h => ?_) | refine iteW_of (fun h => ?_) (fun h => ?_)
  · simp (disch := omega) only [go_sem]
    refine W_retR c8_ok rfl ⟨?_, rfl⟩
    simp only [look, ev, V.bool.injEq, V.int.injEq, V.str.injEq, V.tup.injEq, V.agg.injEq, V.isl.injEq, List.cons.injEq, true_and, and_true, Nat.reduceEqDiff, Nat.reduceAdd, Nat.reduceSub, Nat.reduceMul, Nat.reducePow, Nat.reduceDiv, Nat.reduceMod, Int.reduceToNat, Nat.reduceLeDiff, Nat.reduceLT, Int.reduceEq, Int.reduceLT, Int.reduceLE, Int.reduceGT, Int.reduceGE, Int.reduceNeg, Int.reduceSub, Int.reduceAdd, Int.reduceMul, Int.reducePow, ne_eq, reduceCtorEq, ↓reduceIte]
  simp (disch := omega) only [go_sem]
  refine SRun.callQ (cnfOf_ok (ex := ex) (code := code) hl1) ⟨[], rfl, rfl⟩ rfl ?_
  rintro r s ⟨vars, cls, hd, rfl, hs⟩
  obtain rfl := hs.symm
  obtain ⟨N, rfl⟩ : ∃ N : Nat, vars = N := ⟨vars.toNat, by have := hd.1; omega⟩
  have hN6 : N ≤ 6 := by have := hd.2.1; omega
  have hb := cnfB_of hd
  obtain ⟨hc, hv0, hv40, hcl⟩ := clsOK_of hb
  obtain ⟨M, hM, hM64, e1⟩ := pow_small hN6
  simp (disch := omega) only [go_sem]
  refine SRun.allocR ?_
  intro b3 hb3
  simp (disch := omega) only [cnfV, go_sem]
  refine SRun.callQ (NormalCnf_ok hb) ⟨[], rfl, rfl⟩ rfl ?_
  rintro _ s ⟨ys, hn, rfl, hs⟩
  obtain rfl := hs.symm
  have hby := hn.cnf hb
  have hcy := (clsOK_of hby).1
  have g3 := upd_same σ b3 [.int .i64 N, .isl false 1 (clsV cls)]
  have hσ : ∀ d x, σ d = some x → upd σ b3 [.int .i64 N, .isl false 1 (clsV cls)] d = some x := le_upd hb3
  generalize upd σ b3 [.int .i64 N, .isl false 1 (clsV cls)] = s1 at *
  simp (disch := omega) only [cnfV, go_sem]
  refine SRun.allocR ?_
  intro b4 hb4
  simp (disch := omega) only [go_sem]
  have g4 := upd_same s1 b4 [.int .i64 N, .isl false 1 (clsV ys)]
  have g34 := le_upd (cs := [.int .i64 N, .isl false 1 (clsV ys)]) hb4 _ _ g3
  have hσ4 : ∀ d x, σ d = some x → upd s1 b4 [.int .i64 N, .isl false 1 (clsV ys)] d = some x := fun d x h => le_upd hb4 _ _ (hσ _ _ h)
  generalize upd s1 b4 [.int .i64 N, .isl false 1 (clsV ys)] = s2 at *
  simp (disch := omega) only [g34, go_sem]
  refine SRun.callQ (specNormalCnf_ok hb) ⟨[], rfl, rfl⟩ rfl ?_
  rintro _ s ⟨ys2, hn2, rfl, hs⟩
  obtain rfl := hs.symm
  obtain rfl := hn.same hn2
  simp (disch := omega) only [cnfV, go_sem]
  refine SRun.allocR ?_
  intro b6 hb6
  simp (disch := omega) only [go_sem]
  have g6 := upd_same s2 b6 [.int .i64 N, .isl false 1 (clsV ys)]
  have g36 := le_upd (cs := [.int .i64 N, .isl false 1 (clsV ys)]) hb6 _ _ g34
  have g46 := le_upd (cs := [.int .i64 N, .isl false 1 (clsV ys)]) hb6 _ _ g4
  have hσ6 : ∀ d x, σ d = some x → upd s2 b6 [.int .i64 N, .isl false 1 (clsV ys)] d = some x := fun d x h => le_upd hb6 _ _ (hσ4 _ _ h)
  generalize upd s2 b6 [.int .i64 N, .isl false 1 (clsV ys)] = s3 at *
  simp (disch := omega) only [g46, go_sem]
  refine SRun.callQ (NormalCnf_ok hby) ⟨[], rfl, rfl⟩ rfl ?_
  rintro _ s ⟨zs, hz, rfl, hs⟩
  obtain rfl := hs.symm
  obtain rfl := hn.again hz
  simp (disch := omega) only [cnfV, go_sem]
  refine SRun.allocR ?_
  intro b8 hb8
  simp (disch := omega) only [go_sem]
  have g8 := upd_same s3 b8 [.int .i64 N, .isl false 1 (clsV zs)]
  have g38 := le_upd (cs := [.int .i64 N, .isl false 1 (clsV zs)]) hb8 _ _ g36
  have g48 := le_upd (cs := [.int .i64 N, .isl false 1 (clsV zs)]) hb8 _ _ g46
  have g68 := le_upd (cs := [.int .i64 N, .isl false 1 (clsV zs)]) hb8 _ _ g6
  have hσ8 : ∀ d x, σ d = some x → upd s3 b8 [.int .i64 N, .isl false 1 (clsV zs)] d = some x := fun d x h => le_upd hb8 _ _ (hσ6 _ _ h)
  generalize upd s3 b8 [.int .i64 N, .isl false 1 (clsV zs)] = s4 at *
  simp (disch := omega) only [g48, g68, go_sem]
  refine SRun.callR (sameCnf_ok hcy.1) ⟨[], rfl, rfl⟩ rfl ?_
  simp (disch := omega) only [g48, g8, go_sem]
  refine SRun.callR (sameCnf_ok hcy.1) ⟨[], rfl, rfl⟩ rfl ?_
  simp (disch := omega) only [go_sem]
  refine W_loopC (α := Nat) (fun i => i ≤ M) (fun i => [(3, .ptr b3 0), (4, .ptr b4 0), (10, .int .i64 (i : Nat))]) (fun _ => s4) (fun i => M - i) 0 (by omega) (by simp (disch := omega) only [subT, Int.natCast_add, Int.cast_ofNat_Int, go_sem] <;> (repeat' apply And.intro) <;> first | rfl | (congr 1; omega) | assumption) rfl ?_
  intro i hi ih
  simp (disch := omega) only [g38, e1, go_sem]
  first | refine iteW_dec (fun hq => ?_) (fun hq => ?_) | refine iteW_of (fun hq => ?_) (fun hq => ?_)
  · simp (disch := omega) only [g38, go_sem]
    refine SRun.callQ (values_ok (a := (i : Int)) (many := N) (by omega)) ⟨[], rfl, rfl⟩ rfl ?_
    rintro _ s ⟨rfl, hs⟩
    obtain rfl := hs.symm
    have hvl : ((valuesP (i : Int) N).length : Int) = (N : Int) := by simp [valuesP]
    generalize valuesP (i : Int) N = vs at *
    simp (disch := omega) only [g38, boolsV, go_sem]
    refine SRun.callR (EvalCnf_ok (ex := false) hb hvl) ⟨[], rfl, rfl⟩ rfl ?_
    simp (disch := omega) only [g48, go_sem]
    refine SRun.callR (EvalCnf_ok (ex := false) hby hvl) ⟨[], rfl, rfl⟩ rfl ?_
    have hev := norm_eval (bs := vs) hn hb
    rw [hev]
    have hbe : (!(evalB cls vs == evalB cls vs)) = false := by simp
    simp (disch := omega) only [hbe, beq_self_eq_true, Bool.not_true, go_sem]
    exact ih (i + 1) _ _ (by omega) (by omega) (by simp (disch := omega) only [subT, Int.natCast_add, Int.cast_ofNat_Int, go_sem] <;> (repeat' apply And.intro) <;> first | rfl | (congr 1; omega) | assumption) rfl
  · simp (disch := omega) only [go_sem]
    exact W_retC c8_ok rfl (Conv.drop _ hσ8) ⟨rfl, rfl⟩
end Go.Proofs.Ytlojopaebdnacaa.Lg
