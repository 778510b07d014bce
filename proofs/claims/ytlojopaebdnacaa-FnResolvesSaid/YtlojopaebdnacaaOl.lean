/- The law FnResolves over its code. -/
import Derived.Test.YtlojopaebdnacaaOk
set_option linter.unusedSimpArgs false
set_option linter.unusedVariables false
namespace Go.Proofs.Ytlojopaebdnacaa.Lg
open Go
attribute [local irreducible] SRun DS DRun
variable {Γ : St} {σ σ0 : St}
theorem byte_in (c : UInt8) : 0 ≤ (c.toNat : Int) ∧ (c.toNat : Int) ≤ 255 := by have := c.toNat_lt; omega
theorem at_ok {ex : Bool} {code : List UInt8} {i n : Int} (hl : code.length ≤ 140737488355328) (hi : 0 ≤ i ∧ i ≤ 1000000) (hn : 2 ≤ n ∧ n ≤ 1000000) : ACalls Try.prog Γ 28 [codeV ex code, .int .i64 i, .int .i64 n] σ fun r σ' => ∃ v : Int, 0 ≤ v ∧ v < n ∧ r = .int .i64 v ∧ σ' = σ := by
  have hlen : (code.map fun c => V.int .u8 (c.toNat : Int)).length = code.length := by simp
  refine acalls_W c28_ok rfl ?_
  simp (disch := omega) only [c28, codeV, go_sem]
  first | refine iteW_dec (fun h0 => ?_) (fun h0 => ?_) | refine iteW_of (fun h0 => ?_) (fun h0 => ?_)
  · have hz : 0 ≤ i * 7 := by omega
    simp (disch := omega) only [go_sem]
    exact W_retR c28_ok rfl ⟨(i * 7).tmod n, Int.tmod_nonneg _ hz, Int.tmod_lt_of_pos _ (by omega), rfl, rfl⟩
  · have hp : 0 < (code.length : Int) := by omega
    have m1 := tmod_in (a := i) (n := code.length) hi.1 hp
    have m2 := tmod_in (a := i + 1) (n := code.length) (by omega) hp
    have d1 : 0 ≤ i.tdiv code.length ∧ i.tdiv code.length ≤ 1000000 := by
      rw [Int.tdiv_eq_ediv_of_nonneg hi.1]
      exact ⟨Int.ediv_nonneg hi.1 (by omega), Int.le_trans (Int.ediv_le_self _ hi.1) hi.2⟩
    simp (disch := omega) only [go_sem]
    refine W_drawW ?_
    have b1 := byte_in (code.getD (i.tmod code.length).toNat default)
    have b2 := byte_in (code.getD ((i + 1).tmod code.length).toNat default)
    simp (disch := omega) only [go_sem]
    exact W_retR c28_ok rfl ⟨_, Int.tmod_nonneg _ (by omega), Int.tmod_lt_of_pos _ (by omega), rfl, rfl⟩
theorem sameInts_ok {ex ex2 : Bool} {xs ys : List Int} (hl : xs.length ≤ 1000000000) : Ret Try.prog Γ 20 [.isl ex 1 (ints xs), .isl ex2 1 (ints ys)] σ (.bool (xs == ys)) σ := by
  refine ret_of c20_ok rfl ?_
  simp (disch := omega) only [c20, go_sem]
  first | refine iteW_dec (fun h => ?_) (fun h => ?_) | refine iteW_of (fun h => ?_) (fun h => ?_)
  · simp (disch := omega) only [go_sem]
    refine W_retR c20_ok rfl ⟨?_, rfl⟩
    simp only [look, ev, V.bool.injEq, V.int.injEq, V.str.injEq, V.tup.injEq, V.agg.injEq, V.isl.injEq, List.cons.injEq, true_and, and_true, Nat.reduceEqDiff, Nat.reduceAdd, Nat.reduceSub, Nat.reduceMul, Nat.reducePow, Nat.reduceDiv, Nat.reduceMod, Int.reduceToNat, Nat.reduceLeDiff, Nat.reduceLT, Int.reduceEq, Int.reduceLT, Int.reduceLE, Int.reduceGT, Int.reduceGE, Int.reduceNeg, Int.reduceSub, Int.reduceAdd, Int.reduceMul, Int.reducePow, ne_eq, reduceCtorEq, ↓reduceIte]
    symm; rw [beq_eq_false_iff_ne]; intro e; exact h (by rw [e])
  · simp (disch := omega) only [go_sem]
    have hlen : xs.length = ys.length := by omega
    refine W_loopC (fun i : Nat => i ≤ xs.length ∧ xs.take i = ys.take i) (fun i => [(0, .isl ex 1 (ints xs)), (1, .isl ex2 1 (ints ys)), (5, .int .i64 i)]) (fun _ => σ) (fun i => xs.length - i) 0 ⟨by omega, rfl⟩ (by simp (disch := omega) only [subT, Int.natCast_add, Int.cast_ofNat_Int, go_sem] <;> (repeat' apply And.intro) <;> first | rfl | (congr 1; omega) | assumption) rfl ?_
    rintro i ⟨hi, ht⟩ ih
    simp (disch := omega) only [go_sem]
    first | refine iteW_dec (fun h2 => ?_) (fun h2 => ?_) | refine iteW_of (fun h2 => ?_) (fun h2 => ?_)
    · simp (disch := omega) only [go_sem]
      refine W_drawW ?_
      simp (disch := omega) only [go_sem]
      first | refine iteW_dec (fun h3 => ?_) (fun h3 => ?_) | refine iteW_of (fun h3 => ?_) (fun h3 => ?_)
      · simp (disch := omega) only [go_sem]
        refine W_retR c20_ok rfl ⟨?_, rfl⟩
        simp only [look, ev, V.bool.injEq, V.int.injEq, V.str.injEq, V.tup.injEq, V.agg.injEq, V.isl.injEq, List.cons.injEq, true_and, and_true, Nat.reduceEqDiff, Nat.reduceAdd, Nat.reduceSub, Nat.reduceMul, Nat.reducePow, Nat.reduceDiv, Nat.reduceMod, Int.reduceToNat, Nat.reduceLeDiff, Nat.reduceLT, Int.reduceEq, Int.reduceLT, Int.reduceLE, Int.reduceGT, Int.reduceGE, Int.reduceNeg, Int.reduceSub, Int.reduceAdd, Int.reduceMul, Int.reducePow, ne_eq, reduceCtorEq, ↓reduceIte]
        symm; rw [beq_eq_false_iff_ne]; intro e; subst e; exact h3 rfl
      · simp (disch := omega) only [go_sem]
        refine ih (i + 1) _ _ ⟨by omega, ?_⟩ (by omega) (by simp (disch := omega) only [subT, Int.natCast_add, Int.cast_ofNat_Int, go_sem] <;> (repeat' apply And.intro) <;> first | rfl | (congr 1; omega) | assumption) rfl
        rw [take_succ 0 (by omega), take_succ 0 (by omega), ht]
        have h3' : xs.getD i 0 = ys.getD i 0 := by omega
        rw [h3']
    · simp (disch := omega) only [go_sem]
      refine W_retR c20_ok rfl ⟨?_, rfl⟩
      simp only [look, ev, V.bool.injEq, V.int.injEq, V.str.injEq, V.tup.injEq, V.agg.injEq, V.isl.injEq, List.cons.injEq, true_and, and_true, Nat.reduceEqDiff, Nat.reduceAdd, Nat.reduceSub, Nat.reduceMul, Nat.reducePow, Nat.reduceDiv, Nat.reduceMod, Int.reduceToNat, Nat.reduceLeDiff, Nat.reduceLT, Int.reduceEq, Int.reduceLT, Int.reduceLE, Int.reduceGT, Int.reduceGE, Int.reduceNeg, Int.reduceSub, Int.reduceAdd, Int.reduceMul, Int.reducePow, ne_eq, reduceCtorEq, ↓reduceIte]
      symm; rw [beq_iff_eq]
      rw [List.take_of_length_le (by omega), List.take_of_length_le (by omega)] at ht; exact ht
theorem Frz.more {σ σ' s : St} {x y : V} (h : Frz σ σ' x y) (hs : ∀ b c, σ b = some c → s b = some c) : Frz s σ' x y := by
  induction h with
  | refl v => exact .refl v
  | isl ex es xs => exact .isl ex es xs
  | isl0 ex ex2 es es' h => exact .isl0 ex ex2 es es' h
  | msl b es off len cap cs xs hb hb' h1 h2 h3 h4 h5 _ ih => exact .msl b es off len cap cs xs (hs _ _ hb) hb' h1 h2 h3 h4 h5 ih
  | agg cs ds h1 h2 _ ih => exact .agg cs ds h1 h2 ih
  | tup cs ds h1 _ ih => exact .tup cs ds h1 ih
theorem clauseB4 {xs : List Int} {v : Int} (hl : xs.length ≤ 3) (h : litsIn 4 xs) (hv : v ≠ 0 ∧ -4 ≤ v ∧ v ≤ 4) : clauseB 4 (xs ++ [v]) = true := by
  simp only [clauseB, Bool.and_eq_true, decide_eq_true_eq, List.all_eq_true, List.length_append, List.length_singleton]
  refine ⟨by omega, fun x hx => litB_iff.2 ?_⟩
  rcases List.mem_append.1 hx with hx | hx
  · exact h x hx
  · rw [List.mem_singleton.1 hx]; exact hv
theorem clauseB40 {xs : List Int} (h : clauseB 4 xs = true) : clauseB 40 xs = true := by
  simp only [clauseB, Bool.and_eq_true, decide_eq_true_eq, List.all_eq_true] at h ⊢
  exact ⟨h.1, fun x hx => litB_iff.2 (by have := litB_iff.1 (h.2 x hx); exact ⟨this.1, by have := this.2; omega, by have := this.2; omega⟩)⟩
/-- The reference's value of a formula whose clauses were written down where it is called. -/
theorem evalCnfX_ok {e1 e2 : Bool} {cls : List (List Int)} {bs : List Bool} {vars : Int} (hb : cnfB vars cls = true) (hl : (bs.length : Int) = vars) : Ret Try.prog Γ 14 [.agg [.int .i64 vars, .isl e1 1 (clsV cls)], .isl e2 1 (bools bs)] σ (.tup [.bool (evalB cls bs), .int .i64 0]) σ :=
  ACalls.pre (σ' := σ) (args' := [cnfV vars cls, .isl e2 1 (bools bs)]) (fun _ _ h => h) rfl (frzL_get (by exact ⟨frz_agg (by exact ⟨.refl _, .isl _ _ _, trivial⟩) (by simp [V.one]), .refl _, trivial⟩)) (evalCnf_ok hb hl)
set_option maxHeartbeats 1000000 in
theorem fnResolves_ok {ex ex2 : Bool} {code more : List UInt8} (hl1 : code.length ≤ 140737488355328) (hl2 : more.length ≤ 140737488355328) : Ret Try.prog Γ 7 [codeV ex code, codeV ex2 more] σ (.bool true) σ := by
  refine ret_of c7_ok rfl ?_
  simp (disch := omega) only [c7, codeV, go_sem]
  first | refine guardW_dec (fun h => ?_) (fun h => ?_) | refine guardW_by (fun h => ?_) (fun h => ?_)
  · simp (disch := omega) only [go_sem]
    refine W_retR c7_ok rfl ⟨?_, rfl⟩
    simp only [look, ev, V.bool.injEq, V.int.injEq, V.str.injEq, V.tup.injEq, V.agg.injEq, V.isl.injEq, List.cons.injEq, true_and, and_true, Nat.reduceEqDiff, Nat.reduceAdd, Nat.reduceSub, Nat.reduceMul, Nat.reducePow, Nat.reduceDiv, Nat.reduceMod, Int.reduceToNat, Nat.reduceLeDiff, Nat.reduceLT, Int.reduceEq, Int.reduceLT, Int.reduceLE, Int.reduceGT, Int.reduceGE, Int.reduceNeg, Int.reduceSub, Int.reduceAdd, Int.reduceMul, Int.reducePow, ne_eq, reduceCtorEq, ↓reduceIte]
  · simp (disch := omega) only [go_sem]
    first | refine iteW_dec (fun h2 => ?_) (fun h2 => ?_) | refine iteW_of (fun h2 => ?_) (fun h2 => ?_)
    · simp (disch := omega) only [go_sem]
      refine W_retR c7_ok rfl ⟨?_, rfl⟩
      simp only [look, ev, V.bool.injEq, V.int.injEq, V.str.injEq, V.tup.injEq, V.agg.injEq, V.isl.injEq, List.cons.injEq, true_and, and_true, Nat.reduceEqDiff, Nat.reduceAdd, Nat.reduceSub, Nat.reduceMul, Nat.reducePow, Nat.reduceDiv, Nat.reduceMod, Int.reduceToNat, Nat.reduceLeDiff, Nat.reduceLT, Int.reduceEq, Int.reduceLT, Int.reduceLE, Int.reduceGT, Int.reduceGE, Int.reduceNeg, Int.reduceSub, Int.reduceAdd, Int.reduceMul, Int.reducePow, ne_eq, reduceCtorEq, ↓reduceIte]
    · simp (disch := omega) only [go_sem]
      refine SRun.callQ (at_ok (ex := ex2) (code := more) (i := 0) (n := 4) hl2 (by omega) (by omega)) ⟨[], rfl, rfl⟩ rfl ?_
      rintro r s ⟨v0, hv1, hv2, rfl, hs⟩
      obtain rfl := hs.symm
      simp (disch := omega) only [go_sem]
      have hnum : litsIn 4 [] := fun x hx => by cases hx
      refine SRun.callQ (clauseOf_ok (ex := ex) (code := code) (vars := 4) hl1 (by omega)) ⟨[], rfl, rfl⟩ rfl ?_
      rintro r s ⟨xs, hx3, hxl, ho⟩
      have hoL : OwnL σ 1 (ints xs) r s := ⟨by rw [flat_ints, ints_len]; exact ho, intsK_ok xs⟩
      simp (disch := omega) only [go_sem]
      refine SRun.appL hoL rfl (ints1K_ok _) (by rw [ints_len]; simp only [List.length_singleton]; omega) ?_
      intro q1 s1 ho1
      rw [ints_app] at ho1
      simp (disch := omega) only [go_sem]
      have hneg : (0 : Int) - (1 + v0) = -(1 + v0) := by omega
      refine SRun.callQ (clauseOf_ok (ex := ex2) (code := more) (vars := 4) hl2 (by omega)) ⟨[], rfl, rfl⟩ rfl ?_
      rintro r2 s2 ⟨ys, hy3, hyl, ho2⟩
      have hoL2 : OwnL s1 1 (ints ys) r2 s2 := ⟨by rw [flat_ints, ints_len]; exact ho2, intsK_ok ys⟩
      simp (disch := omega) only [hneg, go_sem]
      refine SRun.appL hoL2 rfl (ints1K_ok _) (by rw [ints_len]; simp only [List.length_singleton]; omega) ?_
      intro q2 s3 ho3
      rw [ints_app] at ho3
      simp (disch := omega) only [go_sem]
      refine SRun.freeze (σ' := σ) (T' := [(42, .int .i64 (1 + v0)), (41, .isl false 1 (ints (ys ++ [-(1 + v0)]))), (40, .isl false 1 (ints (xs ++ [1 + v0]))), (7, .isl false 1 (ints (ys ++ [-(1 + v0)]))), (6, .isl false 1 (ints (xs ++ [1 + v0]))), (5, .int .i64 (1 + v0))]) (fun b c h => ho3.le _ _ (ho1.le _ _ h)) (by
        have f1 := ho1.conv.2.more ho3.le
        have f2 : Frz s3 σ q2 (.isl false 1 (ints (ys ++ [-(1 + v0)]))) := ho3.frz (fun _ _ => rfl) fun b hb => by
          cases e : σ b with
          | none => rfl
          | some c => rw [ho1.le _ _ e] at hb; cases hb
        exact ⟨.refl _, f2, f1, f2, f1, .refl _, trivial⟩) ?_
      have hA4 := clauseB4 (v := 1 + v0) hx3 hxl (by omega)
      have hB4 := clauseB4 (v := -(1 + v0)) hy3 hyl (by omega)
      have hA := clauseB40 hA4
      have hB := clauseB40 hB4
      have hAl : (xs ++ [1 + v0]).length ≤ 4 := by simp; omega
      have hBl : (ys ++ [-(1 + v0)]).length ≤ 4 := by simp; omega
      have hAv : (xs ++ [1 + v0]).contains (1 + v0) = true := by simp
      have hBv : (ys ++ [-(1 + v0)]).contains (-(1 + v0)) = true := by simp
      generalize xs ++ [1 + v0] = A at *
      generalize ys ++ [-(1 + v0)] = B at *
      clear ho3 ho2 hoL2 ho1 hoL ho
      refine SRun.callQ (Resolve_ok (ex := false) (ex2 := false) (a := A) (b := B) (v := 1 + v0) hA hB (by omega) hAv hBv (by omega) (by omega)) ⟨[], rfl, rfl⟩ rfl ?_
      rintro _ _ ⟨zs, hz, rfl, hs⟩
      obtain rfl := hs.symm
      simp (disch := omega) only [go_sem]
      refine SRun.callQ (Resolves_ok (ex := false) (ex2 := false) (a := A) (b := B) (v := 1 + v0) hA hB (by omega) hAv hBv (by omega) (by omega)) ⟨[], rfl, rfl⟩ rfl ?_
      rintro _ _ ⟨zs2, hz2, rfl, hs⟩
      obtain rfl := hs.symm
      obtain rfl := hz.same hz2
      have hzm : ∀ x ∈ zs, litB 40 x = true := fun x hx => by
        rcases List.mem_append.1 ((hz.2 x).1 hx) with h | h
        · simp only [clauseB, Bool.and_eq_true, List.all_eq_true] at hA; exact hA.2 x (List.mem_filter.1 h).1
        · simp only [clauseB, Bool.and_eq_true, List.all_eq_true] at hB; exact hB.2 x (List.mem_filter.1 h).1
      have hzl : zs.length ≤ 8 := by
        have h1 := strict_len hz.1 fun x hx => (hz.2 x).1 hx
        have h2 := List.length_filter_le (fun x => decide (¬ x = 1 + v0)) A
        have h3 := List.length_filter_le (fun x => decide (¬ x = -(1 + v0))) B
        unfold resQ at h1; rw [List.length_append] at h1; omega
      have hsm := fun Γ σ (us : List Int) (hu : us.length ≤ 1000000000) => sameInts_ok (Γ := Γ) (σ := σ) (ex := false) (ex2 := false) (xs := us) (ys := us) hu
      have hcc : ∀ z : Int, (decide ¬ z = z) = false := fun z => by simp
      cases ht : tautP zs with
      | true =>
        simp (disch := omega) only [hcc, intsV, go_sem]
        refine SRun.callR (hsm _ _ [] (by simp)) ⟨[], rfl, rfl⟩ rfl ?_
        simp (disch := omega) only [beq_self_eq_true, go_sem]
        exact W_retR c7_ok rfl ⟨rfl, rfl⟩
      | false =>
        simp (disch := omega) only [hcc, intsV, go_sem]
        refine SRun.callR (hsm _ _ zs (by omega)) ⟨[], rfl, rfl⟩ rfl ?_
        simp (disch := omega) only [beq_self_eq_true, go_sem]
        have hAB : cnfB 4 [A, B] = true := by simp [cnfB, hA4, hB4]
        have hZ : cnfB 4 [zs] = true := by
          have : clauseB 4 zs = true := by
            simp only [clauseB, Bool.and_eq_true, decide_eq_true_eq, List.all_eq_true] at hA4 hB4 ⊢
            refine ⟨by omega, fun x hx => ?_⟩
            rcases List.mem_append.1 ((hz.2 x).1 hx) with h | h
            · exact hA4.2 x (List.mem_filter.1 h).1
            · exact hB4.2 x (List.mem_filter.1 h).1
          simp [cnfB, this]
        refine W_loopC (α := Nat) (fun i => i ≤ 16) (fun i => [(6, .isl false 1 (ints A)), (7, .isl false 1 (ints B)), (8, .isl false 1 (ints zs)), (12, .int .i64 (i : Nat))]) (fun _ => σ) (fun i => 16 - i) 0 (by omega) (by simp (disch := omega) only [subT, Int.natCast_add, Int.cast_ofNat_Int, go_sem] <;> (repeat' apply And.intro) <;> first | rfl | (congr 1; omega) | assumption) rfl ?_
        intro i hi ih
        simp (disch := omega) only [go_sem]
        first | refine iteW_dec (fun h3 => ?_) (fun h3 => ?_) | refine iteW_of (fun h3 => ?_) (fun h3 => ?_)
        · simp (disch := omega) only [go_sem]
          refine SRun.callQ (values_ok (a := (i : Nat)) (many := 4) (by omega)) ⟨[], rfl, rfl⟩ rfl ?_
          rintro _ _ ⟨rfl, hs⟩
          obtain rfl := hs.symm
          have hvl : ((valuesP (i : Nat) 4).length : Int) = 4 := by simp [valuesP]
          have hlit : litV (valuesP (i : Nat) 4) (-(1 + v0)) = !litV (valuesP (i : Nat) 4) (1 + v0) := litV_neg (by omega)
          generalize hbs : valuesP (i : Nat) 4 = bs at *
          simp (disch := omega) only [go_sem]
          refine SRun.callR (evalCnfX_ok (e1 := true) (e2 := false) hAB hvl) ⟨[], rfl, rfl⟩ rfl ?_
          simp (disch := omega) only [go_sem]
          refine SRun.callQ (values_ok (a := (i : Nat)) (many := 4) (by omega)) ⟨[], rfl, rfl⟩ rfl ?_
          rintro _ _ ⟨rfl, hs2⟩
          obtain rfl := hs2.symm
          rw [hbs]
          simp (disch := omega) only [go_sem]
          refine SRun.callR (evalCnfX_ok (e1 := true) (e2 := false) hZ hvl) ⟨[], rfl, rfl⟩ rfl ?_
          have hres : evalB [A, B] bs = true → evalB [zs] bs = true := fun h => by
            simp only [evalB, List.all_cons, List.all_nil, Bool.and_true, Bool.and_eq_true] at h ⊢
            exact resolve_true hz hlit h.1 h.2
          simp (disch := omega) only [go_sem]
          cases hb : evalB [A, B] bs with
          | true =>
            rw [hb] at hres
            have hb2 := hres rfl
            simp (disch := omega) only [hb, hb2, go_sem]
            exact ih (i + 1) _ _ (by omega) (by omega) (by simp (disch := omega) only [subT, Int.natCast_add, Int.cast_ofNat_Int, go_sem] <;> (repeat' apply And.intro) <;> first | rfl | (congr 1; omega) | assumption) rfl
          | false =>
            simp (disch := omega) only [hb, go_sem]
            exact ih (i + 1) _ _ (by omega) (by omega) (by simp (disch := omega) only [subT, Int.natCast_add, Int.cast_ofNat_Int, go_sem] <;> (repeat' apply And.intro) <;> first | rfl | (congr 1; omega) | assumption) rfl
        · simp (disch := omega) only [go_sem]
          exact W_retR c7_ok rfl ⟨rfl, rfl⟩
end Go.Proofs.Ytlojopaebdnacaa.Lg
