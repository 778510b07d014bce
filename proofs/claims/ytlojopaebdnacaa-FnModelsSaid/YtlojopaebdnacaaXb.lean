/- The law FnModels over its code. -/
import Derived.Test.YtlojopaebdnacaaMf
set_option linter.unusedSimpArgs false
set_option linter.unusedVariables false
namespace Go.Proofs.Ytlojopaebdnacaa.Lg
open Go
attribute [local irreducible] SRun DS DRun
variable {Γ : St} {σ σ0 : St}
theorem sameBools_ok {ex ex2 : Bool} {xs bs : List Bool} (hl : xs.length ≤ 1000000000) : Ret Try.prog Γ 17 [.isl ex 1 (bools xs), .isl ex2 1 (bools bs)] σ (.bool (xs == bs)) σ := by
  refine ret_of c17_ok rfl ?_
  simp (disch := omega) only [c17, bools, go_sem, ↓if_pos, ne_eq, ↓reduceIte]
  first | refine iteW_dec (fun h => ?_) (fun h => ?_) | refine iteW_of (fun h => ?_) (fun h => ?_)
  · simp (disch := omega) only [go_sem, ↓if_pos, ne_eq, ↓reduceIte]
    refine W_retR c17_ok rfl ⟨?_, rfl⟩
    simp only [look, ev, V.bool.injEq, V.int.injEq, V.str.injEq, V.tup.injEq, V.agg.injEq, V.isl.injEq, List.cons.injEq, true_and, and_true, Nat.reduceEqDiff, Nat.reduceAdd, Nat.reduceSub, Nat.reduceMul, Nat.reducePow, Nat.reduceDiv, Nat.reduceMod, Int.reduceToNat, Nat.reduceLeDiff, Nat.reduceLT, Int.reduceEq, Int.reduceLT, Int.reduceLE, Int.reduceGT, Int.reduceGE, Int.reduceNeg, Int.reduceSub, Int.reduceAdd, Int.reduceMul, Int.reducePow, ne_eq, reduceCtorEq, ↓reduceIte]
    symm; rw [beq_eq_false_iff_ne]; intro e; exact h (by rw [e])
  · simp (disch := omega) only [go_sem, ↓if_pos, ne_eq, ↓reduceIte]
    have hlen : xs.length = bs.length := by omega
    refine W_loopC (fun i : Nat => i ≤ xs.length ∧ xs.take i = bs.take i) (fun i => [(0, .isl ex 1 (xs.map V.bool)), (1, .isl ex2 1 (bs.map V.bool)), (5, .int .i64 i)]) (fun _ => σ) (fun i => xs.length - i) 0 ⟨by omega, rfl⟩ (by simp (disch := omega) only [subT, Int.natCast_add, Int.cast_ofNat_Int, go_sem, ↓if_pos, ne_eq, ↓reduceIte] <;> (repeat' apply And.intro) <;> first | rfl | (congr 1; omega) | assumption) rfl ?_
    rintro i ⟨hi, ht⟩ ih
    simp (disch := omega) only [go_sem, ↓if_pos, ne_eq, ↓reduceIte]
    first | refine iteW_dec (fun h2 => ?_) (fun h2 => ?_) | refine iteW_of (fun h2 => ?_) (fun h2 => ?_)
    · simp (disch := omega) only [go_sem, ↓if_pos, ne_eq, ↓reduceIte]
      refine W_drawW ?_
      simp (disch := omega) only [go_sem, ↓if_pos, ne_eq, ↓reduceIte]
      first | refine iteW_dec (fun h3 => ?_) (fun h3 => ?_) | refine iteW_of (fun h3 => ?_) (fun h3 => ?_)
      · simp (disch := omega) only [go_sem, ↓if_pos, ne_eq, ↓reduceIte]
        refine W_retR c17_ok rfl ⟨?_, rfl⟩
        simp only [look, ev, V.bool.injEq, V.int.injEq, V.str.injEq, V.tup.injEq, V.agg.injEq, V.isl.injEq, List.cons.injEq, true_and, and_true, Nat.reduceEqDiff, Nat.reduceAdd, Nat.reduceSub, Nat.reduceMul, Nat.reducePow, Nat.reduceDiv, Nat.reduceMod, Int.reduceToNat, Nat.reduceLeDiff, Nat.reduceLT, Int.reduceEq, Int.reduceLT, Int.reduceLE, Int.reduceGT, Int.reduceGE, Int.reduceNeg, Int.reduceSub, Int.reduceAdd, Int.reduceMul, Int.reducePow, ne_eq, reduceCtorEq, ↓reduceIte]
        symm; rw [beq_eq_false_iff_ne]; intro e; subst e; simp at h3
      · simp (disch := omega) only [go_sem, ↓if_pos, ne_eq, ↓reduceIte]
        refine ih (i + 1) _ _ ⟨by omega, ?_⟩ (by omega) (by simp (disch := omega) only [subT, Int.natCast_add, Int.cast_ofNat_Int, go_sem, ↓if_pos, ne_eq, ↓reduceIte] <;> (repeat' apply And.intro) <;> first | rfl | (congr 1; omega) | assumption) rfl
        rw [take_succ default (by omega), take_succ default (by omega), ht]
        simp at h3; simp [h3]
    · simp (disch := omega) only [go_sem, ↓if_pos, ne_eq, ↓reduceIte]
      refine W_retR c17_ok rfl ⟨?_, rfl⟩
      simp only [look, ev, V.bool.injEq, V.int.injEq, V.str.injEq, V.tup.injEq, V.agg.injEq, V.isl.injEq, List.cons.injEq, true_and, and_true, Nat.reduceEqDiff, Nat.reduceAdd, Nat.reduceSub, Nat.reduceMul, Nat.reducePow, Nat.reduceDiv, Nat.reduceMod, Int.reduceToNat, Nat.reduceLeDiff, Nat.reduceLT, Int.reduceEq, Int.reduceLT, Int.reduceLE, Int.reduceGT, Int.reduceGE, Int.reduceNeg, Int.reduceSub, Int.reduceAdd, Int.reduceMul, Int.reducePow, ne_eq, reduceCtorEq, ↓reduceIte]
      symm; rw [beq_iff_eq]
      rw [List.take_of_length_le (by omega), List.take_of_length_le (by omega)] at ht; exact ht
/-- The first of the models. -/
def firstH (N : Nat) : List Nat → List Bool
  | [] => []
  | j :: _ => hiP j N
theorem modelsH_succ (N : Nat) (cls : List (List Int)) (i : Nat) : modelsH N cls (i + 1) = modelsH N cls i ++ if evalB cls (hiP i N) then [i] else [] := by
  simp only [modelsH, List.range_succ, List.filter_append, List.filter_cons, List.filter_nil]
theorem modelsH_le (N : Nat) (cls : List (List Int)) (i : Nat) : (modelsH N cls i).length ≤ i := by
  have := List.length_filter_le (fun j : Nat => evalB cls (hiP j N)) (List.range i)
  simpa [modelsH] using this
theorem bools_ok (xs : List Bool) : ∀ y ∈ bools xs, y.cells.length = 1 ∧ ∀ c ∈ y.cells, c.one = true := by
  intro y hy; simp only [bools, List.mem_map] at hy; obtain ⟨x, _, rfl⟩ := hy; exact ⟨rfl, by simp [V.cells, V.one]⟩
theorem fnModels_ok {ex : Bool} {code : List UInt8} (hl1 : code.length ≤ 140737488355328) : Ret Try.prog Γ 4 [codeV ex code] σ (.bool true) σ := by
  refine ret_of c4_ok rfl ?_
  simp (disch := omega) only [c4, codeV, go_sem, ↓if_pos, ne_eq, ↓reduceIte]
  first | refine iteW_dec (fun h => ?_) (fun h => ?_) | refine iteW_of (fun h => ?_) (fun h => ?_)
  · simp (disch := omega) only [go_sem, ↓if_pos, ne_eq, ↓reduceIte]
    refine W_retR c4_ok rfl ⟨?_, rfl⟩
    simp only [look, ev, V.bool.injEq, V.int.injEq, V.str.injEq, V.tup.injEq, V.agg.injEq, V.isl.injEq, List.cons.injEq, true_and, and_true, Nat.reduceEqDiff, Nat.reduceAdd, Nat.reduceSub, Nat.reduceMul, Nat.reducePow, Nat.reduceDiv, Nat.reduceMod, Int.reduceToNat, Nat.reduceLeDiff, Nat.reduceLT, Int.reduceEq, Int.reduceLT, Int.reduceLE, Int.reduceGT, Int.reduceGE, Int.reduceNeg, Int.reduceSub, Int.reduceAdd, Int.reduceMul, Int.reducePow, ne_eq, reduceCtorEq, ↓reduceIte]
  · simp (disch := omega) only [go_sem, ↓if_pos, ne_eq, ↓reduceIte]
    refine SRun.callQ (cnfOf_ok (ex := ex) (code := code) hl1) ⟨[], rfl, rfl⟩ rfl ?_
    rintro r s ⟨vars, cls, hd, rfl, hs⟩
    obtain rfl := hs.symm
    obtain ⟨N, rfl⟩ : ∃ N : Nat, vars = N := ⟨vars.toNat, by have := hd.1; omega⟩
    have hN1 : 1 ≤ N := by have := hd.1; omega
    have hN6 : N ≤ 6 := by have := hd.2.1; omega
    have hb := cnfB_of hd
    obtain ⟨hc, hv0, hv40, hcl⟩ := clsOK_of hb
    obtain ⟨M, hM, hM64, e1⟩ := pow_small hN6
    have hcount := count_same hN6 cls
    have hlaw := models_law hN6 hc
    rw [hM] at hcount hlaw
    simp (disch := omega) only [go_sem, ↓if_pos, ne_eq, ↓reduceIte]
    refine SRun.allocR ?_
    intro b3 hb3
    simp (disch := omega) only [cnfV, go_sem, ↓if_pos, ne_eq, ↓reduceIte]
    refine SRun.callR (LeastModel_ok (vars := N) (cls := cls) hb (by omega)) ⟨[], rfl, rfl⟩ rfl ?_
    have hlaw2 : ((modelsH N cls M = [] ∧ (leastA (modelP N cls)).2 = 6 ∧ (leastA (modelP N cls)).1 = []) ∨ (modelsH N cls M ≠ [] ∧ (leastA (modelP N cls)).2 = 0 ∧ (leastA (modelP N cls)).1 = firstH N (modelsH N cls M))) := by
      cases h1 : modelP N cls with
      | none => exact .inl ⟨hlaw.1 h1, rfl, rfl⟩
      | some v =>
        obtain ⟨j, q, g1, g2⟩ := hlaw.2 v h1
        exact .inr ⟨by rw [g1]; simp, rfl, by rw [g1]; exact g2.symm⟩
    generalize leastA (modelP N cls) = A at hlaw2
    obtain ⟨mv, cc⟩ := A
    dsimp only at hlaw2 ⊢
    simp (disch := omega) only [List.getD_cons_zero, List.getD_cons_succ, boolsV, go_sem, ↓if_pos, ne_eq, ↓reduceIte]
    refine SRun.callR (CountModels_ok (N := N) (cls := cls) hb hN6) ⟨[], rfl, rfl⟩ rfl ?_
    simp (disch := omega) only [List.getD_cons_zero, List.getD_cons_succ, go_sem, ↓if_pos, ne_eq, ↓reduceIte]
    rw [hM, hcount]
    have hml := modelsH_le N cls M
    refine W_loopC (fun p : Nat × Bool => p.1 ≤ M) (fun p => [(3, .ptr b3 0), (4, .isl false 1 (bools mv)), (5, .int .i64 cc), (6, .int .i64 ((modelsH N cls M).length : Nat)), (7, .int .i64 0), (8, .int .i64 ((modelsH N cls p.1).length : Nat)), (9, .isl p.2 1 (bools (firstH N (modelsH N cls p.1)))), (10, .int .i64 p.1)])
      (fun p => upd σ b3 [.int .i64 N, .isl false 1 (clsV cls)]) (fun p => M - p.1) (0, true) (by simp) (by simp (disch := omega) only [subT, Int.natCast_add, Int.cast_ofNat_Int, go_sem, ↓if_pos, ne_eq, ↓reduceIte] <;> (repeat' apply And.intro) <;> first | rfl | (congr 1; omega) | assumption) rfl ?_
    rintro ⟨i, ex9⟩ hi ih
    dsimp only at hi ⊢
    have c0 : (0 : Int) ≤ (N : Int) := by omega
    simp (disch := omega) only [e1, go_sem, ↓if_pos, ne_eq, ↓reduceIte]
    first | refine iteW_dec (fun h2 => ?_) (fun h2 => ?_) | refine iteW_of (fun h2 => ?_) (fun h2 => ?_)
    · simp (disch := omega) only [go_sem, ↓if_pos, ne_eq, ↓reduceIte]
      refine W_loopC (fun p : Nat × V × St => p.1 ≤ N ∧ OwnL (upd σ b3 [.int .i64 N, .isl false 1 (clsV cls)]) 1 (bools ((hiP i N).take p.1)) p.2.1 p.2.2) (fun p => [(3, .ptr b3 0), (4, .isl false 1 (bools mv)), (5, .int .i64 cc), (6, .int .i64 ((modelsH N cls M).length : Nat)), (7, .int .i64 0), (8, .int .i64 ((modelsH N cls i).length : Nat)), (9, .isl ex9 1 (bools (firstH N (modelsH N cls i)))), (10, .int .i64 i), (11, p.2.1), (12, .int .i64 ((N : Int) - 1 - p.1))])
        (fun p => p.2.2) (fun p => N - p.1) (0, _, _) ⟨by omega, OwnL.nil 1 1⟩ (by simp (disch := omega) only [subT, Int.natCast_add, Int.cast_ofNat_Int, go_sem, ↓if_pos, ne_eq, ↓reduceIte] <;> (repeat' apply And.intro) <;> first | rfl | (congr 1; omega) | assumption) rfl ?_
      rintro ⟨t, r11, σ1⟩ ⟨ht, ho⟩ ih2
      dsimp only at ht ho ⊢
      simp (disch := omega) only [go_sem, ↓if_pos, ne_eq, ↓reduceIte]
      first | refine iteW_dec (fun h3 => ?_) (fun h3 => ?_) | refine iteW_of (fun h3 => ?_) (fun h3 => ?_)
      · have ek : ((N : Int) - 1 - t).toNat = N - 1 - t := by omega
        have hlt : (hiP i N).length = N := by simp [hiP]
        simp (disch := omega) only [ek, go_sem, ↓if_pos, ne_eq, ↓reduceIte]
        refine SRun.appL ho rfl (by simp [V.cells, V.one]) (by simp [bools]; omega) ?_
        intro r σ4 ho4
        simp (disch := omega) only [go_sem, ↓if_pos, ne_eq, ↓reduceIte]
        refine ih2 (t + 1, r, σ4) _ _ ⟨by omega, ?_⟩ (by simp only; omega) (by simp (disch := omega) only [subT, Int.natCast_add, Int.cast_ofNat_Int, go_sem, ↓if_pos, ne_eq, ↓reduceIte] <;> (repeat' apply And.intro) <;> first | rfl | (congr 1; omega) | assumption) rfl
        have e2 : bools ((hiP i N).take (t + 1)) = bools ((hiP i N).take t) ++ [.bool (bitP (i : Int) (N - 1 - t))] := by
          rw [take_succ false (by omega)]
          simp [bools, hiP, List.getD, (by omega : t < N)]
        rw [e2]; exact ho4
      · obtain rfl : t = N := by omega
        have hlt : (hiP i t).length = t := by simp [hiP]
        rw [List.take_of_length_le (by omega)] at ho
        simp (disch := omega) only [ho.get (upd_same σ b3 _), go_sem, ↓if_pos, ne_eq, ↓reduceIte]
        refine SRun.freeze (T' := [(3, .ptr b3 0), (4, .isl false 1 (bools mv)), (5, .int .i64 cc), (6, .int .i64 ((modelsH t cls M).length : Nat)), (7, .int .i64 0), (8, .int .i64 ((modelsH t cls i).length : Nat)), (9, .isl ex9 1 (bools (firstH t (modelsH t cls i)))), (10, .int .i64 i), (11, .isl false 1 (bools (hiP i t))), (57, cnfV t cls), (58, .isl false 1 (bools (hiP i t)))])
          (σ' := upd σ b3 [.int .i64 t, .isl false 1 (clsV cls)]) ho.le ⟨.refl _, .refl _, .refl _, .refl _, .refl _, .refl _, .refl _, .refl _, ho.conv.2, .refl _, ho.conv.2, trivial⟩ ?_
        refine SRun.callR (evalCnf_ok (ex := false) hb (by omega)) ⟨[], rfl, rfl⟩ rfl ?_
        simp (disch := omega) only [List.getD_cons_zero, List.getD_cons_succ, go_sem, ↓if_pos, ne_eq, ↓reduceIte]
        have hsucc := modelsH_succ t cls i
        have hle := modelsH_le t cls i
        first | refine iteW_dec (fun h4 => ?_) (fun h4 => ?_) | refine iteW_of (fun h4 => ?_) (fun h4 => ?_)
        · rw [h4] at hsucc
          simp only [if_true] at hsucc
          simp (disch := omega) only [go_sem, ↓if_pos, ne_eq, ↓reduceIte]
          first | refine iteW_dec (fun h5 => ?_) (fun h5 => ?_) | refine iteW_of (fun h5 => ?_) (fun h5 => ?_)
          · have h5' : modelsH t cls i = [] := List.eq_nil_of_length_eq_zero (by omega)
            simp (disch := omega) only [go_sem, ↓if_pos, ne_eq, ↓reduceIte]
            refine ih (i + 1, false) _ _ (by simp only; omega) (by simp only; omega) ?_ rfl
            rw [hsucc, h5']
            exact ⟨rfl, rfl, rfl, rfl, rfl, rfl, rfl, rfl, trivial⟩
          · simp (disch := omega) only [go_sem, ↓if_pos, ne_eq, ↓reduceIte]
            refine ih (i + 1, ex9) _ _ (by simp only; omega) (by simp only; omega) ?_ rfl
            have hne : modelsH t cls i ≠ [] := fun e => by rw [e] at h5; simp at h5
            obtain ⟨a, q, hq⟩ := List.exists_cons_of_ne_nil hne
            rw [hsucc, hq]
            refine ⟨rfl, rfl, rfl, rfl, rfl, ?_, rfl, rfl, trivial⟩
            simp only [look, hq]; simp
        · rw [h4] at hsucc
          simp at hsucc
          simp (disch := omega) only [go_sem, ↓if_pos, ne_eq, ↓reduceIte]
          refine ih (i + 1, ex9) _ _ (by simp only; omega) (by simp only; omega) ?_ rfl
          rw [hsucc]
          exact ⟨rfl, rfl, rfl, rfl, rfl, rfl, rfl, rfl, trivial⟩
    · obtain rfl : i = M := by omega
      simp (disch := omega) only [go_sem, ↓if_pos, ne_eq, ↓reduceIte]
      rcases hlaw2 with ⟨g1, rfl, rfl⟩ | ⟨g1, rfl, rfl⟩
      · rw [g1]
        simp (disch := omega) only [bools, go_sem, ↓if_pos, ne_eq, ↓reduceIte]
        exact W_retC c4_ok rfl (Conv.drop _ (le_upd hb3)) ⟨rfl, rfl⟩
      · have hne : ¬ ((modelsH N cls i).length : Int) = 0 := fun e => g1 (List.eq_nil_of_length_eq_zero (by omega))
        have hfl : (firstH N (modelsH N cls i)).length ≤ 1000000000 := by
          obtain ⟨a, q, hq⟩ := List.exists_cons_of_ne_nil g1
          rw [hq]; simp [firstH, hiP]; omega
        simp (disch := omega) only [go_sem, ↓if_pos, ne_eq, ↓reduceIte]
        refine SRun.callR (sameBools_ok (ex := false) (ex2 := ex9) hfl) ⟨[], rfl, rfl⟩ rfl ?_
        simp (disch := omega) only [List.getD_cons_zero, List.getD_cons_succ, go_sem, ↓if_pos, ne_eq, ↓reduceIte]
        refine W_retC c4_ok rfl (Conv.drop _ (le_upd hb3)) ⟨?_, rfl⟩
        simp only [look, ev, V.bool.injEq, V.int.injEq, V.str.injEq, V.tup.injEq, V.agg.injEq, V.isl.injEq, List.cons.injEq, true_and, and_true, Nat.reduceEqDiff, Nat.reduceAdd, Nat.reduceSub, Nat.reduceMul, Nat.reducePow, Nat.reduceDiv, Nat.reduceMod, Int.reduceToNat, Nat.reduceLeDiff, Nat.reduceLT, Int.reduceEq, Int.reduceLT, Int.reduceLE, Int.reduceGT, Int.reduceGE, Int.reduceNeg, Int.reduceSub, Int.reduceAdd, Int.reduceMul, Int.reducePow, ne_eq, reduceCtorEq, ↓reduceIte]
        simp
end Go.Proofs.Ytlojopaebdnacaa.Lg
