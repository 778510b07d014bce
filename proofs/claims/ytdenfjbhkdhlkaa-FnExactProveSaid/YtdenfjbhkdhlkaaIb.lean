/- The reference's check of an expression, whatever it is. -/
import Derived.Test.YtdenfjbhkdhlkaaIa
set_option linter.unusedSimpArgs false
set_option linter.unusedVariables false
namespace Go.Proofs.Ytdenfjbhkdhlkaa.Lg
open Go
attribute [local irreducible] SRun DS DRun
variable {Γ : St} {σ σ0 : St}
/-- What is left: not below 0 just where there is room and nothing stands too deep. -/
theorem l04LeftA_ok : ∀ e, ∀ {Γ σ : St} {l d : Int}, 0 ≤ d → d ≤ 41 → 0 ≤ l → l ≤ 1000000 → sizeE e ≤ 2000000 → ACalls Try.prog Γ 70 [exV e, .int .i64 l, .int .i64 d] σ fun r s => ∃ m : Int, r = .int .i64 m ∧ s = σ ∧ m ≤ 1000000 ∧ -1 ≤ m ∧ (((sizeE e : Int) ≤ l ∧ d + depthE e ≤ 41) → m = l - sizeE e) ∧ (¬ ((sizeE e : Int) ≤ l ∧ d + depthE e ≤ 41) → m < 0) := by
  refine Ex.ind fun k n ks ih Γ σ l d hd0 hd hl hl1 hsz => ?_
  have hlen := sizeL_len ks
  simp only [sizeE] at hsz
  refine acalls_W c70_ok rfl ?_
  simp (disch := omega) only [c70, exV_mk, go_sem]
  refine SRun.boxR (by simp [ev, look, V.cells, V.one]) ?_
  intro b3 hb3
  have g3 : upd σ b3 [.int .i64 k, .int .i64 n, .isl false 3 (exsV ks)] b3 = some [.int .i64 k, .int .i64 n, .isl false 3 (exsV ks)] := upd_same _ _ _
  have hle : ∀ d x, σ d = some x → upd σ b3 [.int .i64 k, .int .i64 n, .isl false 3 (exsV ks)] d = some x := le_upd hb3
  simp (disch := omega) only [g3, exC_mk, go_sem]
  first | refine iteW_dec (fun h40 => ?_) (fun h40 => ?_) | refine iteW_of (fun h40 => ?_) (fun h40 => ?_)
  · simp (disch := omega) only [go_sem]
    exact W_retC c70_ok (r := .int .i64 (-1)) (r' := .int .i64 (-1)) (σ' := σ) rfl (Conv.drop _ hle) ⟨-1, rfl, rfl, by omega, by omega, by simp only [sizeE, depthE]; omega, by omega⟩
  simp (disch := omega) only [g3, exC_mk, go_sem]
  refine W_loopC (α := Nat × Int) (fun p => p.1 ≤ ks.length ∧ p.2 ≤ 1000000 ∧ -1 ≤ p.2 ∧ ((0 ≤ p.2 ∧ p.2 - sizeL (ks.drop p.1) = l - 1 - sizeL ks ∧ (d + 1 + depthL (ks.drop p.1) ≤ 41 → d + 1 + depthL ks ≤ 41)) ∨ (p.2 < 0 ∧ ¬ (1 + (sizeL ks : Int) ≤ l ∧ d + 1 + depthL ks ≤ 41)))) (fun p => [(3, .ptr b3 0), (1, .int .i64 p.2), (2, .int .i64 d), (7, .int .i64 (p.1 : Nat))]) (fun _ => upd σ b3 [.int .i64 k, .int .i64 n, .isl false 3 (exsV ks)]) (fun p => ks.length - p.1) (0, l - 1) ⟨by simp, by simp only; omega, by simp only; omega, by dsimp only; rw [List.drop_zero]; omega⟩ (by simp (disch := omega) only [subT, Int.natCast_add, Int.cast_ofNat_Int, go_sem] <;> (repeat' apply And.intro) <;> first | rfl | (congr 1; omega) | assumption) rfl ?_
  rintro ⟨i, a⟩ ⟨hi, ha1, ha2, hor⟩ ih2
  dsimp only at hi ha1 ha2 hor
  simp (disch := omega) only [g3, exC_mk, go_sem]
  first | refine guardW_dec (fun hq => ?_) (fun hq => ?_) | refine guardW_by (fun hq => ?_) (fun hq => ?_)
  · have he := getD_mem default (by omega : i < ks.length)
    have hdp := depthL_mem he
    have hsm := sizeL_mem he
    by_cases ha : 0 ≤ a
    · have ha0 : decide (a ≥ 0) = true := decide_eq_true (by omega)
      rw [drop_cons default (by omega : i < ks.length)] at hor
      simp only [sizeL, depthL] at hor
      simp (disch := omega) only [g3, exC_mk, ha0, go_sem]
      refine SRun.callQ (ih _ he (by omega) (by omega) ha (by omega) (by omega)) ⟨[], rfl, rfl⟩ rfl ?_
      rintro r s ⟨m, rfl, hs, hm1, hm2, hm3, hm4⟩
      obtain rfl := hs.symm
      simp (disch := omega) only [go_sem]
      exact ih2 (i + 1, m) _ _ ⟨by simp only; omega, by simp only; omega, by simp only; omega, by simp only; omega⟩ (by simp only; omega) (by simp (disch := omega) only [subT, Int.natCast_add, Int.cast_ofNat_Int, go_sem] <;> (repeat' apply And.intro) <;> first | rfl | (congr 1; omega) | assumption) rfl
    · have ha0 : decide (a ≥ 0) = false := decide_eq_false (by omega)
      simp (disch := omega) only [ha0, go_sem]
      exact W_retC c70_ok (r := .int .i64 a) (r' := .int .i64 a) (σ' := σ) rfl (Conv.drop _ hle) ⟨a, rfl, rfl, ha1, ha2, by simp only [sizeE, depthE]; omega, by simp only [sizeE, depthE]; omega⟩
  · obtain rfl : i = ks.length := by omega
    rw [List.drop_length] at hor
    simp only [sizeL, depthL] at hor
    simp (disch := omega) only [go_sem]
    exact W_retC c70_ok (r := .int .i64 a) (r' := .int .i64 a) (σ' := σ) rfl (Conv.drop _ hle) ⟨a, rfl, rfl, ha1, ha2, by simp only [sizeE, depthE]; omega, by simp only [sizeE, depthE]; omega⟩
set_option maxHeartbeats 1000000 in
theorem l04RightA_ok : ∀ e, ∀ {Γ σ : St}, sizeE e ≤ 2000000 → Ret Try.prog Γ 71 [exV e] σ (.bool (rightE e)) σ := by
  refine Ex.ind fun k n ks ih Γ σ hsz => ?_
  have hlen := sizeL_len ks
  simp only [sizeE] at hsz
  have hR : rightE (.mk k n ks) = (numOK k n && decide ((ks.length : Int) = arity k) && ks.all rightE) := by rw [← rightL_all]; rfl
  refine ret_of c71_ok rfl ?_
  simp (disch := omega) only [c71, exV_mk, go_sem]
  refine SRun.boxR (by simp [ev, look, V.cells, V.one]) ?_
  intro b1 hb1
  have g1 : upd σ b1 [.int .i64 k, .int .i64 n, .isl false 3 (exsV ks)] b1 = some [.int .i64 k, .int .i64 n, .isl false 3 (exsV ks)] := upd_same _ _ _
  have hle : ∀ d x, σ d = some x → upd σ b1 [.int .i64 k, .int .i64 n, .isl false 3 (exsV ks)] d = some x := le_upd hb1
  have leaf : ∀ q : Bool, (q && decide ((ks.length : Int) = 0) && ks.all rightE) = (q && decide ((ks.length : Int) = 0)) := fun q => by
    cases ks with
    | nil => simp
    | cons a r => simp; omega
  by_cases k1 : k = 1
  · subst k1
    have hN : numOK 1 n = (decide (0 ≤ n) && decide (n ≤ 11)) := rfl
    have hA : arity 1 = 0 := rfl
    rw [hN, hA, leaf] at hR
    simp (disch := omega) only [g1, exC_mk, go_sem]
    refine SRun.callR (l01In_ok n 0 11) ⟨[], rfl, rfl⟩ rfl ?_
    simp (disch := omega) only [List.getD_cons_zero, List.getD_cons_succ, go_sem]
    generalize (decide (0 ≤ n) && decide (n ≤ 11)) = q at *
    rw [hR]
    cases q with
    | false =>
      simp (disch := omega) only [go_sem]
      exact W_retC c71_ok rfl (Conv.drop _ hle) ⟨rfl, rfl⟩
    | true =>
      simp (disch := omega) only [g1, exC_mk, go_sem]
      exact W_retC c71_ok rfl (Conv.drop _ hle) ⟨rfl, rfl⟩
  by_cases k2 : k = 2
  · subst k2
    have hN : numOK 2 n = (decide (0 ≤ n) && decide (n ≤ 1)) := rfl
    have hA : arity 2 = 0 := rfl
    rw [hN, hA, leaf] at hR
    simp (disch := omega) only [g1, exC_mk, go_sem]
    refine SRun.callR (l01In_ok n 0 1) ⟨[], rfl, rfl⟩ rfl ?_
    simp (disch := omega) only [List.getD_cons_zero, List.getD_cons_succ, go_sem]
    generalize (decide (0 ≤ n) && decide (n ≤ 1)) = q at *
    rw [hR]
    cases q with
    | false =>
      simp (disch := omega) only [go_sem]
      exact W_retC c71_ok rfl (Conv.drop _ hle) ⟨rfl, rfl⟩
    | true =>
      simp (disch := omega) only [g1, exC_mk, go_sem]
      exact W_retC c71_ok rfl (Conv.drop _ hle) ⟨rfl, rfl⟩
  have hN : numOK k n = decide (n = 0) := by rw [numOK, if_neg k1, if_neg k2]
  rw [hN] at hR
  by_cases hkk : k = 3 ∨ k = 4 ∨ k = 5 ∨ k = 6 ∨ k = 7
  · have a3 : arity 3 = 1 := rfl
    have a4 : arity 4 = 2 := rfl
    have a5 : arity 5 = 2 := rfl
    have a6 : arity 6 = 2 := rfl
    have a7 : arity 7 = 3 := rfl
    rcases hkk with rfl | rfl | rfl | rfl | rfl
    all_goals
      rw [hR]
      clear hR
      simp (disch := omega) only [g1, exC_mk, go_sem]
      first | refine guardW_dec (fun hn => ?_) (fun hn => ?_) | refine guardW_by (fun hn => ?_) (fun hn => ?_)
      · have : decide (n = 0) = false := decide_eq_false hn
        rw [this]
        simp (disch := omega) only [go_sem]
        exact W_retC c71_ok rfl (Conv.drop _ hle) ⟨rfl, rfl⟩
      · obtain rfl : n = 0 := by omega
        simp (disch := omega) only [g1, exC_mk, go_sem]
        first | refine iteW_dec (fun hk => ?_) (fun hk => ?_) | refine iteW_of (fun hk => ?_) (fun hk => ?_)
        · simp (disch := omega) only [go_sem]
          refine W_retC c71_ok rfl (Conv.drop _ hle) ⟨?_, rfl⟩
          simp only [look, ev, V.bool.injEq, V.int.injEq, V.str.injEq, V.tup.injEq, V.agg.injEq, V.isl.injEq, List.cons.injEq, true_and, and_true, Nat.reduceEqDiff, Nat.reduceAdd, Nat.reduceSub, Nat.reduceMul, Nat.reducePow, Nat.reduceDiv, Nat.reduceMod, Int.reduceToNat, Nat.reduceLeDiff, Nat.reduceLT, Int.reduceEq, Int.reduceLT, Int.reduceLE, Int.reduceGT, Int.reduceGE, Int.reduceNeg, Int.reduceSub, Int.reduceAdd, Int.reduceMul, Int.reducePow, ne_eq, reduceCtorEq, ↓reduceIte]
          symm; rw [Bool.and_eq_false_iff]; left; exact decide_eq_false (by omega)
        · simp (disch := omega) only [g1, exC_mk, go_sem]
          refine W_loopC (α := Nat) (fun i => i ≤ ks.length ∧ (ks.take i).all rightE = true) (fun i => [(1, .ptr b1 0), (3, .int .i64 ks.length), (4, .int .i64 (i : Nat))]) (fun _ => upd σ b1 _) (fun i => ks.length - i) 0 ⟨by omega, rfl⟩ (by simp (disch := omega) only [subT, Int.natCast_add, Int.cast_ofNat_Int, hk, go_sem] <;> (repeat' apply And.intro) <;> first | rfl | (congr 1; omega) | assumption) rfl ?_
          rintro i ⟨hi, hall⟩ ih2
          simp (disch := omega) only [go_sem]
          first | refine iteW_dec (fun hq => ?_) (fun hq => ?_) | refine iteW_of (fun hq => ?_) (fun hq => ?_)
          · have he := getD_mem default (by omega : i < ks.length)
            have hsz2 := sizeL_mem he
            simp (disch := omega) only [g1, exC_mk, go_sem]
            refine SRun.callR (ih _ he (by omega)) ⟨[], rfl, rfl⟩ rfl ?_
            simp (disch := omega) only [List.getD_cons_zero, List.getD_cons_succ, go_sem]
            generalize hqq : rightE (ks.getD i default) = q
            cases q with
            | true =>
              simp (disch := omega) only [go_sem]
              exact ih2 (i + 1) _ _ ⟨by omega, by rw [take_succ default (by omega), List.all_append, hall, List.all_cons, hqq]; rfl⟩ (by omega) (by simp (disch := omega) only [subT, Int.natCast_add, Int.cast_ofNat_Int, go_sem] <;> (repeat' apply And.intro) <;> first | rfl | (congr 1; omega) | assumption) rfl
            | false =>
              simp (disch := omega) only [go_sem]
              refine W_retC c71_ok rfl (Conv.drop _ hle) ⟨?_, rfl⟩
              simp only [look, ev, V.bool.injEq, V.int.injEq, V.str.injEq, V.tup.injEq, V.agg.injEq, V.isl.injEq, List.cons.injEq, true_and, and_true, Nat.reduceEqDiff, Nat.reduceAdd, Nat.reduceSub, Nat.reduceMul, Nat.reducePow, Nat.reduceDiv, Nat.reduceMod, Int.reduceToNat, Nat.reduceLeDiff, Nat.reduceLT, Int.reduceEq, Int.reduceLT, Int.reduceLE, Int.reduceGT, Int.reduceGE, Int.reduceNeg, Int.reduceSub, Int.reduceAdd, Int.reduceMul, Int.reducePow, ne_eq, reduceCtorEq, ↓reduceIte]
              have : ks.all rightE = false := by rw [List.all_eq_false]; exact ⟨_, he, by rw [hqq]; simp⟩
              rw [this, Bool.and_false]
          · rw [List.take_of_length_le (by omega)] at hall
            simp (disch := omega) only [go_sem]
            refine W_retC c71_ok rfl (Conv.drop _ hle) ⟨?_, rfl⟩
            simp only [look, ev, V.bool.injEq, V.int.injEq, V.str.injEq, V.tup.injEq, V.agg.injEq, V.isl.injEq, List.cons.injEq, true_and, and_true, Nat.reduceEqDiff, Nat.reduceAdd, Nat.reduceSub, Nat.reduceMul, Nat.reducePow, Nat.reduceDiv, Nat.reduceMod, Int.reduceToNat, Nat.reduceLeDiff, Nat.reduceLT, Int.reduceEq, Int.reduceLT, Int.reduceLE, Int.reduceGT, Int.reduceGE, Int.reduceNeg, Int.reduceSub, Int.reduceAdd, Int.reduceMul, Int.reducePow, ne_eq, reduceCtorEq, ↓reduceIte]
            rw [hall]; symm; rw [Bool.and_true]; exact decide_eq_true (by omega)
  · have hA : arity k = -1 := by unfold arity; rw [if_neg (by omega), if_neg (by omega), if_neg (by omega), if_neg (by omega)]
    have hl : decide ((ks.length : Int) = -1) = false := decide_eq_false (by omega)
    rw [hA, hl, Bool.and_false, Bool.false_and] at hR
    rw [hR]
    simp (disch := omega) only [g1, exC_mk, go_sem]
    exact W_retC c71_ok rfl (Conv.drop _ hle) ⟨rfl, rfl⟩
theorem ExOKsA_ok {e : Ex} (hsz : sizeE e ≤ 2000000) : Ret Try.prog Γ 45 [exV e] σ (.bool (okE e)) σ := by
  refine ret_of c45_ok rfl ?_
  simp (disch := omega) only [c45, go_sem]
  refine SRun.boxR (by show ∀ c ∈ (exV e).cells, _; rw [cells_exV]; exact exC_one e) ?_
  intro b1 hb1
  have h1 := exC_one e
  simp (disch := omega) only [h1, go_sem]
  refine SRun.callQ (l04LeftA_ok e (l := 400) (d := 1) (by omega) (by omega) (by omega) (by omega) hsz) ⟨[], rfl, rfl⟩ rfl ?_
  rintro r s ⟨m, rfl, hs, hm1, hm2, hm3, hm4⟩
  obtain rfl := hs.symm
  by_cases h4 : (sizeE e : Int) ≤ 400 ∧ (1 : Int) + depthE e ≤ 41
  · have hm := hm3 h4
    have hd : decide (m ≥ 0) = true := decide_eq_true (by omega)
    have hA : okE e = rightE e := by
      have e1 : decide (sizeE e ≤ 400) = true := decide_eq_true (by omega)
      have e2 : decide (depthE e ≤ 40) = true := decide_eq_true (by omega)
      simp [okE, e1, e2]
    simp (disch := omega) only [hd, h1, go_sem]
    refine SRun.callR (l04RightA_ok e hsz) ⟨[], rfl, rfl⟩ rfl ?_
    simp (disch := omega) only [go_sem]
    exact W_retC c45_ok rfl (Conv.drop _ (le_upd hb1)) ⟨by simp only [look, ev, V.bool.injEq, V.int.injEq, V.str.injEq, V.tup.injEq, V.agg.injEq, V.isl.injEq, List.cons.injEq, true_and, and_true, Nat.reduceEqDiff, Nat.reduceAdd, Nat.reduceSub, Nat.reduceMul, Nat.reducePow, Nat.reduceDiv, Nat.reduceMod, Int.reduceToNat, Nat.reduceLeDiff, Nat.reduceLT, Int.reduceEq, Int.reduceLT, Int.reduceLE, Int.reduceGT, Int.reduceGE, Int.reduceNeg, Int.reduceSub, Int.reduceAdd, Int.reduceMul, Int.reducePow, ne_eq, reduceCtorEq, ↓reduceIte]; exact hA.symm, rfl⟩
  · have hm := hm4 h4
    have hd : decide (m ≥ 0) = false := decide_eq_false (by omega)
    have hA : okE e = false := by
      simp only [okE, Bool.and_eq_false_iff, decide_eq_false_iff_not]
      omega
    simp (disch := omega) only [hd, go_sem]
    exact W_retC c45_ok rfl (Conv.drop _ (le_upd hb1)) ⟨by simp only [look, ev, V.bool.injEq, V.int.injEq, V.str.injEq, V.tup.injEq, V.agg.injEq, V.isl.injEq, List.cons.injEq, true_and, and_true, Nat.reduceEqDiff, Nat.reduceAdd, Nat.reduceSub, Nat.reduceMul, Nat.reducePow, Nat.reduceDiv, Nat.reduceMod, Int.reduceToNat, Nat.reduceLeDiff, Nat.reduceLT, Int.reduceEq, Int.reduceLT, Int.reduceLE, Int.reduceGT, Int.reduceGE, Int.reduceNeg, Int.reduceSub, Int.reduceAdd, Int.reduceMul, Int.reducePow, ne_eq, reduceCtorEq, ↓reduceIte]; exact hA.symm, rfl⟩
end Go.Proofs.Ytdenfjbhkdhlkaa.Lg
