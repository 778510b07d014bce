/- The reference's Resolve. -/
import Derived.Test.YtlojopaebdnacaaOj
set_option linter.unusedSimpArgs false
set_option linter.unusedVariables false
namespace Go.Proofs.Ytlojopaebdnacaa.Lg
open Go
attribute [local irreducible] SRun DS DRun
variable {Γ : St} {σ σ0 : St}
theorem l01Has_ok {ex : Bool} {xs : List Int} {y : Int} (hl : xs.length ≤ 1000000000) : Ret Try.prog Γ 75 [.isl ex 1 (ints xs), .int .i64 y] σ (.bool (xs.contains y)) σ := by
  refine ret_of c75_ok rfl ?_
  simp (disch := omega) only [c75, go_sem]
  refine W_loopC (fun i : Nat => i ≤ xs.length ∧ ∀ j, j < i → xs.getD j 0 ≠ y) (fun i => [(0, .isl ex 1 (ints xs)), (1, .int .i64 y), (5, .int .i64 i)]) (fun _ => σ) (fun i => xs.length - i) 0 ⟨by omega, fun j hj => by omega⟩ (by simp (disch := omega) only [subT, Int.natCast_add, Int.cast_ofNat_Int, go_sem] <;> (repeat' apply And.intro) <;> first | rfl | (congr 1; omega) | assumption) rfl ?_
  rintro i ⟨hi, hno⟩ ih
  simp (disch := omega) only [go_sem]
  first | refine iteW_dec (fun hq => ?_) (fun hq => ?_) | refine iteW_of (fun hq => ?_) (fun hq => ?_)
  · simp (disch := omega) only [go_sem]
    first | refine iteW_dec (fun h1 => ?_) (fun h1 => ?_) | refine iteW_of (fun h1 => ?_) (fun h1 => ?_)
    · simp (disch := omega) only [go_sem]
      refine W_retR c75_ok rfl ⟨?_, rfl⟩
      simp only [look, ev, V.bool.injEq, V.int.injEq, V.str.injEq, V.tup.injEq, V.agg.injEq, V.isl.injEq, List.cons.injEq, true_and, and_true, Nat.reduceEqDiff, Nat.reduceAdd, Nat.reduceSub, Nat.reduceMul, Nat.reducePow, Nat.reduceDiv, Nat.reduceMod, Int.reduceToNat, Nat.reduceLeDiff, Nat.reduceLT, Int.reduceEq, Int.reduceLT, Int.reduceLE, Int.reduceGT, Int.reduceGE, Int.reduceNeg, Int.reduceSub, Int.reduceAdd, Int.reduceMul, Int.reducePow, ne_eq, reduceCtorEq, ↓reduceIte]
      exact (List.contains_iff_mem.2 (h1 ▸ getD_mem 0 (by omega))).symm
    · simp (disch := omega) only [go_sem]
      refine ih (i + 1) _ _ ⟨by omega, fun j hj => ?_⟩ (by omega) (by simp (disch := omega) only [subT, Int.natCast_add, Int.cast_ofNat_Int, go_sem] <;> (repeat' apply And.intro) <;> first | rfl | (congr 1; omega) | assumption) rfl
      by_cases hji : j = i
      · subst hji; exact h1
      · exact hno j (by omega)
  · simp (disch := omega) only [go_sem]
    refine W_retR c75_ok rfl ⟨?_, rfl⟩
    simp only [look, ev, V.bool.injEq, V.int.injEq, V.str.injEq, V.tup.injEq, V.agg.injEq, V.isl.injEq, List.cons.injEq, true_and, and_true, Nat.reduceEqDiff, Nat.reduceAdd, Nat.reduceSub, Nat.reduceMul, Nat.reducePow, Nat.reduceDiv, Nat.reduceMod, Int.reduceToNat, Nat.reduceLeDiff, Nat.reduceLT, Int.reduceEq, Int.reduceLT, Int.reduceLE, Int.reduceGT, Int.reduceGE, Int.reduceNeg, Int.reduceSub, Int.reduceAdd, Int.reduceMul, Int.reducePow, ne_eq, reduceCtorEq, ↓reduceIte]
    symm
    rw [Bool.eq_false_iff]; intro e
    obtain ⟨j, hj, hje⟩ := List.getElem_of_mem (List.contains_iff_mem.1 e)
    have := hno j (by omega)
    simp [List.getD, hj, hje] at this
theorem litB_lit {xs : List Int} (h : clauseB 40 xs = true) : ∀ x ∈ xs, litN x := fun x hx => by
  simp only [clauseB, Bool.and_eq_true, List.all_eq_true] at h
  obtain ⟨h0, h1, h2⟩ := litB_iff.1 (h.2 x hx)
  exact ⟨h0, by omega, by omega⟩
theorem filter_snoc {xs : List Int} {p : Int → Bool} {i : Nat} (hi : i < xs.length) : (xs.take (i + 1)).filter p = (xs.take i).filter p ++ if p (xs.getD i 0) then [xs.getD i 0] else [] := by
  rw [take_succ 0 hi, List.filter_append]
  generalize xs.getD i 0 = y
  rw [List.filter_cons]
  cases h : p y <;> simp
set_option maxHeartbeats 1000000 in
theorem Resolves_ok {ex ex2 : Bool} {a b : List Int} {v : Int} (ha : clauseB 40 a = true) (hb : clauseB 40 b = true) (hv : 1 ≤ v ∧ v ≤ 40) (hav : a.contains v = true) (hbv : b.contains (-v) = true) (hal : a.length ≤ 12) (hbl : b.length ≤ 12) :
    ACalls Try.prog Γ 30 [.isl ex 1 (ints a), .isl ex2 1 (ints b), .int .i64 v] σ fun r s => ∃ ys, OrdOf (resQ a b v) ys ∧ r = .tup [intsV (if tautP ys then [] else ys), .int .i64 (if tautP ys then 8 else 0)] ∧ s = σ := by
  have hneg : (0 : Int) - v = -v := by omega
  have hq : ∀ x ∈ resQ a b v, litN x := fun x hx => by
    rcases List.mem_append.1 hx with h | h
    · exact litB_lit ha x (List.mem_filter.1 h).1
    · exact litB_lit hb x (List.mem_filter.1 h).1
  have hf1 := fun i => List.length_filter_le (fun x => decide (¬ x = v)) (a.take i)
  have hf2 := fun i => List.length_filter_le (fun x => decide (¬ x = -v)) (b.take i)
  have hql : (resQ a b v).length ≤ 24 := by
    have h1 := List.length_filter_le (fun x => decide (¬ x = v)) a
    have h2 := List.length_filter_le (fun x => decide (¬ x = -v)) b
    unfold resQ; rw [List.length_append]; omega
  have d1 : decide ((a.length : Int) > 4096) = false := decide_eq_false (by omega)
  have d2 : decide ((b.length : Int) > 4096) = false := decide_eq_false (by omega)
  refine acalls_W c30_ok rfl ?_
  simp (disch := omega) only [c30, go_sem]
  simp (disch := omega) only [d1, d2, go_sem]
  refine SRun.callR (l01Clause_ok (ex := ex) (xs := a) (vars := 40) (by omega) (by omega)) ⟨[], rfl, rfl⟩ rfl ?_
  rw [ha]
  simp (disch := omega) only [go_sem]
  refine SRun.callR (l01Clause_ok (ex := ex2) (xs := b) (vars := 40) (by omega) (by omega)) ⟨[], rfl, rfl⟩ rfl ?_
  rw [hb]
  simp (disch := omega) only [go_sem]
  refine SRun.callR (l01In_ok v 1 40) ⟨[], rfl, rfl⟩ rfl ?_
  rw [decide_eq_true (by omega : (1 : Int) ≤ v), decide_eq_true (by omega : v ≤ 40)]
  simp (disch := omega) only [go_sem]
  refine SRun.callR (l01Has_ok (ex := ex) (xs := a) (y := v) (by omega)) ⟨[], rfl, rfl⟩ rfl ?_
  rw [hav]
  simp (disch := omega) only [hneg, go_sem]
  refine SRun.callR (l01Has_ok (ex := ex2) (xs := b) (y := -v) (by omega)) ⟨[], rfl, rfl⟩ rfl ?_
  rw [hbv]
  simp (disch := omega) only [go_sem]
  refine W_loopC (α := Nat × V × St) (fun p => p.1 ≤ a.length ∧ OwnL σ 1 (ints ((a.take p.1).filter fun x => decide (¬ x = v))) p.2.1 p.2.2) (fun p => [(0, .isl ex 1 (ints a)), (1, .isl ex2 1 (ints b)), (2, .int .i64 v), (8, p.2.1), (9, .int .i64 (p.1 : Nat))]) (fun p => p.2.2) (fun p => a.length - p.1) (0, .isl true 1 [], σ) ⟨by simp, OwnL.nil _ _⟩ (by simp (disch := omega) only [subT, Int.natCast_add, Int.cast_ofNat_Int, go_sem] <;> (repeat' apply And.intro) <;> first | rfl | (congr 1; omega) | assumption) rfl ?_
  rintro ⟨i, q, s⟩ ⟨hi, ho⟩ ih
  dsimp only at hi ho
  have hfi := hf1 i
  simp (disch := omega) only [go_sem]
  first | refine iteW_dec (fun h1 => ?_) (fun h1 => ?_) | refine iteW_of (fun h1 => ?_) (fun h1 => ?_)
  · have hfs := filter_snoc (xs := a) (p := fun x => decide (¬ x = v)) (by omega : i < a.length)
    have hF12 : (List.filter (fun x => decide (¬ x = v)) (a.take i)).length ≤ 12 := by rw [List.length_take] at hfi; omega
    generalize List.filter (fun x => decide (¬ x = v)) (a.take i) = F at *
    generalize hxx : a.getD i 0 = x at *
    by_cases h2 : x = v
    · have d3 : (decide ¬ x = v) = false := decide_eq_false (fun h => h h2)
      rw [d3] at hfs
      have hfs2 : List.filter (fun x => decide (¬ x = v)) (a.take (i + 1)) = F := by rw [hfs]; simp
      simp (disch := omega) only [d3, hxx, go_sem]
      exact ih (i + 1, q, s) _ _ ⟨by simp only; omega, by rw [hfs2]; exact ho⟩ (by simp only; omega) (by simp (disch := omega) only [subT, Int.natCast_add, Int.cast_ofNat_Int, go_sem] <;> (repeat' apply And.intro) <;> first | rfl | (congr 1; omega) | assumption) rfl
    · have d3 : (decide ¬ x = v) = true := decide_eq_true h2
      rw [d3] at hfs
      have hfs2 : List.filter (fun x => decide (¬ x = v)) (a.take (i + 1)) = F ++ [x] := by rw [hfs]; simp
      simp (disch := omega) only [d3, hxx, go_sem]
      refine SRun.appL ho rfl (ints1K_ok x) (by rw [ints_len]; simp only [List.length_singleton]; omega) ?_
      intro q2 s2 ho2
      rw [ints_app] at ho2
      simp (disch := omega) only [go_sem]
      exact ih (i + 1, q2, s2) _ _ ⟨by simp only; omega, by rw [hfs2]; exact ho2⟩ (by simp only; omega) (by simp (disch := omega) only [subT, Int.natCast_add, Int.cast_ofNat_Int, go_sem] <;> (repeat' apply And.intro) <;> first | rfl | (congr 1; omega) | assumption) rfl
  · have hil : i = a.length := by omega
    subst hil
    rw [List.take_length] at ho
    clear ih
    simp (disch := omega) only [go_sem]
    have hA12 : (List.filter (fun x => decide (¬ x = v)) a).length ≤ 12 := by have := List.length_filter_le (fun x => decide (¬ x = v)) a; omega
    have hres : resQ a b v = List.filter (fun x => decide (¬ x = v)) a ++ List.filter (fun x => decide (¬ x = -v)) b := rfl
    generalize List.filter (fun x => decide (¬ x = v)) a = A at *
    refine W_loopC (α := Nat × V × St) (fun p => p.1 ≤ b.length ∧ OwnL σ 1 (ints (A ++ (b.take p.1).filter fun x => decide (¬ x = -v))) p.2.1 p.2.2) (fun p => [(0, .isl ex 1 (ints a)), (1, .isl ex2 1 (ints b)), (2, .int .i64 v), (8, p.2.1), (10, .int .i64 (p.1 : Nat))]) (fun p => p.2.2) (fun p => b.length - p.1) (0, q, s) ⟨by simp, by simpa using ho⟩ (by simp (disch := omega) only [subT, Int.natCast_add, Int.cast_ofNat_Int, go_sem] <;> (repeat' apply And.intro) <;> first | rfl | (congr 1; omega) | assumption) rfl ?_
    clear ho q s hi hfi
    rintro ⟨i, q, s⟩ ⟨hi, ho⟩ ih
    dsimp only at hi ho
    have hfi := hf2 i
    simp (disch := omega) only [go_sem]
    first | refine iteW_dec (fun h1 => ?_) (fun h1 => ?_) | refine iteW_of (fun h1 => ?_) (fun h1 => ?_)
    · have hfs := filter_snoc (xs := b) (p := fun x => decide (¬ x = -v)) (by omega : i < b.length)
      have hF12 : (List.filter (fun x => decide (¬ x = -v)) (b.take i)).length ≤ 12 := by rw [List.length_take] at hfi; omega
      generalize List.filter (fun x => decide (¬ x = -v)) (b.take i) = F at *
      generalize hxx : b.getD i 0 = x at *
      by_cases h2 : x = -v
      · have d3 : (decide ¬ x = -v) = false := decide_eq_false (fun h => h h2)
        rw [d3] at hfs
        have hfs2 : List.filter (fun x => decide (¬ x = -v)) (b.take (i + 1)) = F := by rw [hfs]; simp
        simp (disch := omega) only [hneg, hxx, d3, go_sem]
        exact ih (i + 1, q, s) _ _ ⟨by simp only; omega, by rw [hfs2]; exact ho⟩ (by simp only; omega) (by simp (disch := omega) only [subT, Int.natCast_add, Int.cast_ofNat_Int, go_sem] <;> (repeat' apply And.intro) <;> first | rfl | (congr 1; omega) | assumption) rfl
      · have d3 : (decide ¬ x = -v) = true := decide_eq_true h2
        rw [d3] at hfs
        have hfs2 : List.filter (fun x => decide (¬ x = -v)) (b.take (i + 1)) = F ++ [x] := by rw [hfs]; simp
        simp (disch := omega) only [hneg, hxx, d3, go_sem]
        refine SRun.appL ho rfl (ints1K_ok x) (by rw [ints_len, List.length_append]; simp only [List.length_singleton]; omega) ?_
        intro q2 s2 ho2
        rw [ints_app, List.append_assoc] at ho2
        simp (disch := omega) only [go_sem]
        exact ih (i + 1, q2, s2) _ _ ⟨by simp only; omega, by rw [hfs2]; exact ho2⟩ (by simp only; omega) (by simp (disch := omega) only [subT, Int.natCast_add, Int.cast_ofNat_Int, go_sem] <;> (repeat' apply And.intro) <;> first | rfl | (congr 1; omega) | assumption) rfl
    · have hil : i = b.length := by omega
      subst hil
      rw [List.take_length, ← hres] at ho
      clear ih
      simp (disch := omega) only [go_sem]
      refine SRun.freeze (σ' := σ) (T' := [(89, .isl false 1 (ints (resQ a b v)))]) ho.le (by exact ⟨ho.conv.2, trivial⟩) ?_
      refine SRun.callQ (l01Sorted_ok (ex := false) (c := resQ a b v) (by omega) hq) ⟨[], rfl, rfl⟩ rfl ?_
      rintro r s1 ⟨ys, hoo, rfl, hs⟩
      obtain rfl := hs.symm
      simp (disch := omega) only [intsV, go_sem]
      cases ht : tautP ys with
      | true =>
        simp (disch := omega) only [go_sem]
        exact W_retC c30_ok (r := .tup [.isl true 1 [], .int .i64 8]) (r' := .tup [intsV [], .int .i64 8]) (σ' := _) rfl ⟨fun _ _ h => h, frz_tup (by exact ⟨.isl0 _ _ _ _ (fun h => by cases h), .refl _, trivial⟩)⟩ ⟨ys, hoo, by simp [ht, intsV], rfl⟩
      | false =>
        simp (disch := omega) only [go_sem]
        exact W_retR c30_ok rfl ⟨ys, hoo, by simp [ht, look, intsV], rfl⟩
end Go.Proofs.Ytlojopaebdnacaa.Lg
