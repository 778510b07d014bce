/- The law FnPropagates over its code. -/
import Derived.Test.YtlojopaebdnacaaPc
set_option linter.unusedSimpArgs false
set_option linter.unusedVariables false
namespace Go.Proofs.Ytlojopaebdnacaa.Lg
open Go
attribute [local irreducible] SRun DS DRun
variable {Γ : St} {σ σ0 : St}
theorem sameInts_ok {ex ex2 : Bool} {xs ys : List Int} (hl : xs.length ≤ 1000000000) : Ret Try.prog Γ 20 [.isl ex 1 (ints xs), .isl ex2 1 (ints ys)] σ (.bool (xs == ys)) σ := by
  refine ret_of c20_ok rfl ?_
  simp (disch := omega) only [c20, go_sem, ↓if_pos, ne_eq, ↓reduceIte]
  first | refine iteW_dec (fun h => ?_) (fun h => ?_) | refine iteW_of (fun h => ?_) (fun h => ?_)
  · simp (disch := omega) only [go_sem, ↓if_pos, ne_eq, ↓reduceIte]
    refine W_retR c20_ok rfl ⟨?_, rfl⟩
    simp only [look, ev, V.bool.injEq, V.int.injEq, V.str.injEq, V.tup.injEq, V.agg.injEq, V.isl.injEq, List.cons.injEq, true_and, and_true, Nat.reduceEqDiff, Nat.reduceAdd, Nat.reduceSub, Nat.reduceMul, Nat.reducePow, Nat.reduceDiv, Nat.reduceMod, Int.reduceToNat, Nat.reduceLeDiff, Nat.reduceLT, Int.reduceEq, Int.reduceLT, Int.reduceLE, Int.reduceGT, Int.reduceGE, Int.reduceNeg, Int.reduceSub, Int.reduceAdd, Int.reduceMul, Int.reducePow, ne_eq, reduceCtorEq, ↓reduceIte]
    symm; rw [beq_eq_false_iff_ne]; intro e; exact h (by rw [e])
  · simp (disch := omega) only [go_sem, ↓if_pos, ne_eq, ↓reduceIte]
    have hlen : xs.length = ys.length := by omega
    refine W_loopC (fun i : Nat => i ≤ xs.length ∧ xs.take i = ys.take i) (fun i => [(0, .isl ex 1 (ints xs)), (1, .isl ex2 1 (ints ys)), (5, .int .i64 i)]) (fun _ => σ) (fun i => xs.length - i) 0 ⟨by omega, rfl⟩ (by simp (disch := omega) only [subT, Int.natCast_add, Int.cast_ofNat_Int, go_sem, ↓if_pos, ne_eq, ↓reduceIte] <;> (repeat' apply And.intro) <;> first | rfl | (congr 1; omega) | assumption) rfl ?_
    rintro i ⟨hi, ht⟩ ih
    simp (disch := omega) only [go_sem, ↓if_pos, ne_eq, ↓reduceIte]
    first | refine iteW_dec (fun h2 => ?_) (fun h2 => ?_) | refine iteW_of (fun h2 => ?_) (fun h2 => ?_)
    · simp (disch := omega) only [go_sem, ↓if_pos, ne_eq, ↓reduceIte]
      refine W_drawW ?_
      simp (disch := omega) only [go_sem, ↓if_pos, ne_eq, ↓reduceIte]
      first | refine iteW_dec (fun h3 => ?_) (fun h3 => ?_) | refine iteW_of (fun h3 => ?_) (fun h3 => ?_)
      · simp (disch := omega) only [go_sem, ↓if_pos, ne_eq, ↓reduceIte]
        refine W_retR c20_ok rfl ⟨?_, rfl⟩
        simp only [look, ev, V.bool.injEq, V.int.injEq, V.str.injEq, V.tup.injEq, V.agg.injEq, V.isl.injEq, List.cons.injEq, true_and, and_true, Nat.reduceEqDiff, Nat.reduceAdd, Nat.reduceSub, Nat.reduceMul, Nat.reducePow, Nat.reduceDiv, Nat.reduceMod, Int.reduceToNat, Nat.reduceLeDiff, Nat.reduceLT, Int.reduceEq, Int.reduceLT, Int.reduceLE, Int.reduceGT, Int.reduceGE, Int.reduceNeg, Int.reduceSub, Int.reduceAdd, Int.reduceMul, Int.reducePow, ne_eq, reduceCtorEq, ↓reduceIte]
        symm; rw [beq_eq_false_iff_ne]; intro e; subst e; exact h3 rfl
      · simp (disch := omega) only [go_sem, ↓if_pos, ne_eq, ↓reduceIte]
        refine ih (i + 1) _ _ ⟨by omega, ?_⟩ (by omega) (by simp (disch := omega) only [subT, Int.natCast_add, Int.cast_ofNat_Int, go_sem, ↓if_pos, ne_eq, ↓reduceIte] <;> (repeat' apply And.intro) <;> first | rfl | (congr 1; omega) | assumption) rfl
        rw [take_succ 0 (by omega), take_succ 0 (by omega), ht]
        have h3' : xs.getD i 0 = ys.getD i 0 := by omega
        rw [h3']
    · simp (disch := omega) only [go_sem, ↓if_pos, ne_eq, ↓reduceIte]
      refine W_retR c20_ok rfl ⟨?_, rfl⟩
      simp only [look, ev, V.bool.injEq, V.int.injEq, V.str.injEq, V.tup.injEq, V.agg.injEq, V.isl.injEq, List.cons.injEq, true_and, and_true, Nat.reduceEqDiff, Nat.reduceAdd, Nat.reduceSub, Nat.reduceMul, Nat.reducePow, Nat.reduceDiv, Nat.reduceMod, Int.reduceToNat, Nat.reduceLeDiff, Nat.reduceLT, Int.reduceEq, Int.reduceLT, Int.reduceLE, Int.reduceGT, Int.reduceGE, Int.reduceNeg, Int.reduceSub, Int.reduceAdd, Int.reduceMul, Int.reducePow, ne_eq, reduceCtorEq, ↓reduceIte]
      symm; rw [beq_iff_eq]
      rw [List.take_of_length_le (by omega), List.take_of_length_le (by omega)] at ht; exact ht
theorem all_ok {ex ex2 : Bool} {xs : List Int} {bs : List Bool} (hl : xs.length ≤ 1000000000) (hb : bs.length ≤ 1000) (hx : ∀ x ∈ xs, litOK bs.length x) : Ret Try.prog Γ 21 [.isl ex 1 (ints xs), .isl ex2 1 (bools bs)] σ (.bool (xs.all (litV bs))) σ := by
  refine ret_of c21_ok rfl ?_
  simp (disch := omega) only [c21, bools, go_sem, ↓if_pos, ne_eq, ↓reduceIte]
  refine W_loopC (fun i : Nat => i ≤ xs.length ∧ (xs.take i).all (litV bs) = true) (fun i => [(0, .isl ex 1 (ints xs)), (1, .isl ex2 1 (bs.map V.bool)), (5, .int .i64 i)]) (fun _ => σ) (fun i => xs.length - i) 0 ⟨by omega, rfl⟩ (by simp (disch := omega) only [subT, Int.natCast_add, Int.cast_ofNat_Int, go_sem, ↓if_pos, ne_eq, ↓reduceIte] <;> (repeat' apply And.intro) <;> first | rfl | (congr 1; omega) | assumption) rfl ?_
  rintro i ⟨hi, ht⟩ ih
  simp (disch := omega) only [go_sem, ↓if_pos, ne_eq, ↓reduceIte]
  first | refine iteW_dec (fun h2 => ?_) (fun h2 => ?_) | refine iteW_of (fun h2 => ?_) (fun h2 => ?_)
  · have hlit := hx _ (getD_mem 0 (by omega : i < xs.length))
    have hsome := getD_some 0 (by omega : i < xs.length)
    simp (disch := omega) only [go_sem, ↓if_pos, ne_eq, ↓reduceIte]
    refine W_drawW ?_
    simp (disch := omega) only [go_sem, ↓if_pos, ne_eq, ↓reduceIte]
    generalize xs.getD i 0 = x at hlit hsome
    obtain ⟨hx0, hx1, hx2⟩ := hlit
    have hab : (if 0 - x > x then 0 - x else x) = (x.natAbs : Int) := by split <;> omega
    have hlv : litV bs x = (bs.getD (x.natAbs - 1) default == decide (x > 0)) := rfl
    have hnn : ((x.natAbs : Int) - 1).toNat = x.natAbs - 1 := by omega
    simp (disch := omega) only [hab, hnn, go_sem, ↓if_pos, ne_eq, ↓reduceIte]
    rw [← hlv]
    first | refine iteW_dec (fun h3 => ?_) (fun h3 => ?_) | refine iteW_of (fun h3 => ?_) (fun h3 => ?_)
    · simp (disch := omega) only [go_sem, ↓if_pos, ne_eq, ↓reduceIte]
      refine W_retR c21_ok rfl ⟨?_, rfl⟩
      simp only [look, ev, V.bool.injEq, V.int.injEq, V.str.injEq, V.tup.injEq, V.agg.injEq, V.isl.injEq, List.cons.injEq, true_and, and_true, Nat.reduceEqDiff, Nat.reduceAdd, Nat.reduceSub, Nat.reduceMul, Nat.reducePow, Nat.reduceDiv, Nat.reduceMod, Int.reduceToNat, Nat.reduceLeDiff, Nat.reduceLT, Int.reduceEq, Int.reduceLT, Int.reduceLE, Int.reduceGT, Int.reduceGE, Int.reduceNeg, Int.reduceSub, Int.reduceAdd, Int.reduceMul, Int.reducePow, ne_eq, reduceCtorEq, ↓reduceIte]
      symm
      exact all_false hsome (by simpa using h3)
    · simp (disch := omega) only [go_sem, ↓if_pos, ne_eq, ↓reduceIte]
      refine ih (i + 1) _ _ ⟨by omega, all_take ht hsome (by simpa using h3)⟩ (by omega) (by simp (disch := omega) only [subT, Int.natCast_add, Int.cast_ofNat_Int, go_sem, ↓if_pos, ne_eq, ↓reduceIte] <;> (repeat' apply And.intro) <;> first | rfl | (congr 1; omega) | assumption) rfl
  · rw [List.take_of_length_le (by omega)] at ht
    simp (disch := omega) only [go_sem, ↓if_pos, ne_eq, ↓reduceIte]
    refine W_retR c21_ok rfl ⟨?_, rfl⟩
    simp only [look, ev, V.bool.injEq, V.int.injEq, V.str.injEq, V.tup.injEq, V.agg.injEq, V.isl.injEq, List.cons.injEq, true_and, and_true, Nat.reduceEqDiff, Nat.reduceAdd, Nat.reduceSub, Nat.reduceMul, Nat.reducePow, Nat.reduceDiv, Nat.reduceMod, Int.reduceToNat, Nat.reduceLeDiff, Nat.reduceLT, Int.reduceEq, Int.reduceLT, Int.reduceLE, Int.reduceGT, Int.reduceGE, Int.reduceNeg, Int.reduceSub, Int.reduceAdd, Int.reduceMul, Int.reducePow, ne_eq, reduceCtorEq, ↓reduceIte]
    exact ht.symm
theorem fnPropagates_ok {ex ex2 : Bool} {code more : List UInt8} (hl1 : code.length ≤ 140737488355328) (hl2 : more.length ≤ 140737488355328) : Ret Try.prog Γ 5 [codeV ex code, codeV ex2 more] σ (.bool true) σ := by
  refine ret_of c5_ok rfl ?_
  simp (disch := omega) only [c5, codeV, go_sem, ↓if_pos, ne_eq, ↓reduceIte]
  first | refine guardW_dec (fun h => ?_) (fun h => ?_) | refine guardW_by (fun h => ?_) (fun h => ?_)
  · simp (disch := omega) only [go_sem, ↓if_pos, ne_eq, ↓reduceIte]
    refine W_retR c5_ok rfl ⟨?_, rfl⟩
    simp only [look, ev, V.bool.injEq, V.int.injEq, V.str.injEq, V.tup.injEq, V.agg.injEq, V.isl.injEq, List.cons.injEq, true_and, and_true, Nat.reduceEqDiff, Nat.reduceAdd, Nat.reduceSub, Nat.reduceMul, Nat.reducePow, Nat.reduceDiv, Nat.reduceMod, Int.reduceToNat, Nat.reduceLeDiff, Nat.reduceLT, Int.reduceEq, Int.reduceLT, Int.reduceLE, Int.reduceGT, Int.reduceGE, Int.reduceNeg, Int.reduceSub, Int.reduceAdd, Int.reduceMul, Int.reducePow, ne_eq, reduceCtorEq, ↓reduceIte]
  · simp (disch := omega) only [go_sem, ↓if_pos, ne_eq, ↓reduceIte]
    first | refine iteW_dec (fun h2 => ?_) (fun h2 => ?_) | refine iteW_of (fun h2 => ?_) (fun h2 => ?_)
    · simp (disch := omega) only [go_sem, ↓if_pos, ne_eq, ↓reduceIte]
      refine W_retR c5_ok rfl ⟨?_, rfl⟩
      simp only [look, ev, V.bool.injEq, V.int.injEq, V.str.injEq, V.tup.injEq, V.agg.injEq, V.isl.injEq, List.cons.injEq, true_and, and_true, Nat.reduceEqDiff, Nat.reduceAdd, Nat.reduceSub, Nat.reduceMul, Nat.reducePow, Nat.reduceDiv, Nat.reduceMod, Int.reduceToNat, Nat.reduceLeDiff, Nat.reduceLT, Int.reduceEq, Int.reduceLT, Int.reduceLE, Int.reduceGT, Int.reduceGE, Int.reduceNeg, Int.reduceSub, Int.reduceAdd, Int.reduceMul, Int.reducePow, ne_eq, reduceCtorEq, ↓reduceIte]
    · simp (disch := omega) only [go_sem, ↓if_pos, ne_eq, ↓reduceIte]
      refine SRun.callQ (cnfOf_ok (ex := ex) (code := code) hl1) ⟨[], rfl, rfl⟩ rfl ?_
      rintro r s ⟨vars, cls, hd, rfl, hs⟩
      obtain rfl := hs.symm
      obtain ⟨N, rfl⟩ : ∃ N : Nat, vars = N := ⟨vars.toNat, by have := hd.1; omega⟩
      have hN1 : 1 ≤ N := by have := hd.1; omega
      have hN6 : N ≤ 6 := by have := hd.2.1; omega
      have hb := cnfB_of hd
      obtain ⟨hc, hv0, hv40, hcl⟩ := clsOK_of hb
      obtain ⟨M, hM, hM64, e1⟩ := pow_small hN6
      have c0 : (0 : Int) ≤ (N : Int) := by omega
      simp (disch := omega) only [go_sem, ↓if_pos, ne_eq, ↓reduceIte]
      refine SRun.allocR ?_
      intro b5 hb5
      simp (disch := omega) only [cnfV, go_sem, ↓if_pos, ne_eq, ↓reduceIte]
      refine SRun.callQ (clauseOf_frz (ex := ex2) (code := more) (vars := N) hl2 (by omega)) ⟨[], rfl, rfl⟩ rfl ?_
      rintro r s ⟨xs, hx3, hxl, rfl, hs⟩
      obtain rfl := hs.symm
      simp (disch := omega) only [intsV, go_sem, ↓if_pos, ne_eq, ↓reduceIte]
      refine SRun.callR (Propagate_ok (ex2 := false) (vars := N) (cls := cls) (c := xs) hb hxl (by omega)) ⟨[], rfl, rfl⟩ rfl ?_
      simp (disch := omega) only [List.getD_cons_zero, List.getD_cons_succ, go_sem, ↓if_pos, ne_eq, ↓reduceIte]
      simp (disch := omega) only [intsV, go_sem, ↓if_pos, ne_eq, ↓reduceIte]
      refine SRun.callR (specPropagate_ok (ex2 := false) (vars := N) (cls := cls) (c := xs) hb hxl (by omega)) ⟨[], rfl, rfl⟩ rfl ?_
      simp (disch := omega) only [List.getD_cons_zero, List.getD_cons_succ, go_sem, ↓if_pos, ne_eq, ↓reduceIte]
      obtain ⟨hcode, hlits, hlaw⟩ := propA_law (vars := N) (by omega) hc hxl
      have hol := propA_len (c := xs) (by omega) hc
      generalize propA N cls xs = A at hcode hlits hlaw hol
      obtain ⟨out, bad, cc⟩ := A
      dsimp only at hcode hlits hlaw hol ⊢
      simp (disch := omega) only [intsV, go_sem, ↓if_pos, ne_eq, ↓reduceIte]
      refine SRun.callR (sameInts_ok (ex := false) (ex2 := false) (xs := out) (ys := out) (by omega)) ⟨[], rfl, rfl⟩ rfl ?_
      simp (disch := omega) only [List.getD_cons_zero, List.getD_cons_succ, go_sem, ↓if_pos, ne_eq, ↓reduceIte]
      have hself : (out == out) = true := by simp
      rcases hcode with rfl | rfl
      · simp (disch := omega) only [hself, go_sem, ↓if_pos, ne_eq, ↓reduceIte]
        exact W_retC c5_ok rfl (Conv.drop _ (le_upd hb5)) ⟨rfl, rfl⟩
      · simp (disch := omega) only [hself, go_sem, ↓if_pos, ne_eq, ↓reduceIte]
        refine W_loopC (fun i : Nat => i ≤ M) (fun i => [(5, .ptr b5 0), (6, .isl false 1 (ints xs)), (7, .isl false 1 (ints out)), (8, .int .i64 bad), (9, .int .i64 0), (13, .int .i64 i)])
          (fun _ => upd σ b5 [.int .i64 N, .isl false 1 (clsV cls)]) (fun i => M - i) 0 (by omega) (by simp (disch := omega) only [subT, Int.natCast_add, Int.cast_ofNat_Int, go_sem, ↓if_pos, ne_eq, ↓reduceIte] <;> (repeat' apply And.intro) <;> first | rfl | (congr 1; omega) | assumption) rfl ?_
        intro i hi ih
        simp (disch := omega) only [e1, go_sem, ↓if_pos, ne_eq, ↓reduceIte]
        first | refine iteW_dec (fun h3 => ?_) (fun h3 => ?_) | refine iteW_of (fun h3 => ?_) (fun h3 => ?_)
        · simp (disch := omega) only [go_sem, ↓if_pos, ne_eq, ↓reduceIte]
          refine SRun.callQ (values_ok (a := i) (many := N) (by omega)) ⟨[], rfl, rfl⟩ rfl ?_
          rintro r s ⟨rfl, hs⟩
          obtain rfl := hs.symm
          have hvl : (valuesP i N).length = N := by simp [valuesP]
          simp (disch := omega) only [boolsV, go_sem, ↓if_pos, ne_eq, ↓reduceIte]
          refine SRun.callR (evalCnf_ok (ex := false) hb (by omega)) ⟨[], rfl, rfl⟩ rfl ?_
          simp (disch := omega) only [List.getD_cons_zero, List.getD_cons_succ, go_sem, ↓if_pos, ne_eq, ↓reduceIte]
          first | refine guardW_dec (fun h4 => ?_) (fun h4 => ?_) | refine guardW_by (fun h4 => ?_) (fun h4 => ?_)
          · simp (disch := omega) only [h4, go_sem, ↓if_pos, ne_eq, ↓reduceIte]
            exact ih (i + 1) _ _ (by omega) (by omega) (by simp (disch := omega) only [subT, Int.natCast_add, Int.cast_ofNat_Int, go_sem, ↓if_pos, ne_eq, ↓reduceIte] <;> (repeat' apply And.intro) <;> first | rfl | (congr 1; omega) | assumption) rfl
          · simp (disch := omega) only [h4, go_sem, ↓if_pos, ne_eq, ↓reduceIte]
            refine SRun.callR (all_ok (ex := false) (ex2 := false) (xs := xs) (bs := valuesP i N) (by omega) (by omega) (fun x hx => by rw [hvl]; exact hxl x hx)) ⟨[], rfl, rfl⟩ rfl ?_
            simp (disch := omega) only [List.getD_cons_zero, List.getD_cons_succ, go_sem, ↓if_pos, ne_eq, ↓reduceIte]
            first | refine iteW_dec (fun h5 => ?_) (fun h5 => ?_) | refine iteW_of (fun h5 => ?_) (fun h5 => ?_)
            · simp (disch := omega) only [h4, go_sem, ↓if_pos, ne_eq, ↓reduceIte]
              exact ih (i + 1) _ _ (by omega) (by omega) (by simp (disch := omega) only [subT, Int.natCast_add, Int.cast_ofNat_Int, go_sem, ↓if_pos, ne_eq, ↓reduceIte] <;> (repeat' apply And.intro) <;> first | rfl | (congr 1; omega) | assumption) rfl
            · have h5' : xs.all (litV (valuesP i N)) = true := by simpa using h5
              obtain ⟨hbad, hout⟩ := hlaw rfl _ (by simpa using h4) h5'
              have hbd : decide (bad ≥ 0) = false := decide_eq_false (by omega)
              simp (disch := omega) only [h4, hbd, go_sem, ↓if_pos, ne_eq, ↓reduceIte]
              refine SRun.callR (all_ok (ex := false) (ex2 := false) (xs := out) (bs := valuesP i N) (by omega) (by omega) (fun x hx => by rw [hvl]; exact hlits x hx)) ⟨[], rfl, rfl⟩ rfl ?_
              simp (disch := omega) only [List.getD_cons_zero, List.getD_cons_succ, go_sem, ↓if_pos, ne_eq, ↓reduceIte]
              simp (disch := omega) only [hout, go_sem, ↓if_pos, ne_eq, ↓reduceIte]
              exact ih (i + 1) _ _ (by omega) (by omega) (by simp (disch := omega) only [subT, Int.natCast_add, Int.cast_ofNat_Int, go_sem, ↓if_pos, ne_eq, ↓reduceIte] <;> (repeat' apply And.intro) <;> first | rfl | (congr 1; omega) | assumption) rfl
        · simp (disch := omega) only [go_sem, ↓if_pos, ne_eq, ↓reduceIte]
          exact W_retC c5_ok rfl (Conv.drop _ (le_upd hb5)) ⟨rfl, rfl⟩
end Go.Proofs.Ytlojopaebdnacaa.Lg
