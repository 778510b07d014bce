/- Expressions in the reference: right ones, their values. -/
import Derived.Test.YtlidjjjpjndneaaEe
set_option linter.unusedSimpArgs false
set_option linter.unusedVariables false
namespace Go.Proofs.Ytlidjjjpjndneaa.Lg
open Go
attribute [local irreducible] SRun DS DRun
variable {Γ : St} {σ σ0 : St}
theorem EvalEx_ok {e : Ex} {ex : Bool} {bs : List Bool} (he : okE e = true) (hm : mostE e < bs.length) (hl : bs.length ≤ 4096) : Ret Try.prog Γ 18 [exV e, .isl ex 1 (bools bs)] σ (.tup [.bool (evE bs e), .int .i64 0]) σ := by
  have he' := he
  simp only [okE, Bool.and_eq_true, decide_eq_true_eq] at he'
  have hbl := bools_len bs
  refine ret_of c18_ok rfl ?_
  simp (disch := omega) only [c18, go_sem, ↓if_pos, ne_eq, ↓reduceIte]
  refine SRun.boxR (by show ∀ c ∈ (exV e).cells, _; rw [cells_exV]; exact exC_one e) ?_
  intro b2 hb2
  have h1 := exC_one e
  simp (disch := omega) only [h1, go_sem, ↓if_pos, ne_eq, ↓reduceIte]
  refine SRun.callR (isEx_ok (e := e) (by omega)) ⟨[], rfl, rfl⟩ rfl ?_
  simp (disch := omega) only [List.getD_cons_zero, List.getD_cons_succ, go_sem, ↓if_pos, ne_eq, ↓reduceIte]
  simp (disch := omega) only [he, h1, go_sem, ↓if_pos, ne_eq, ↓reduceIte]
  refine SRun.callR (mostVar_ok e he'.1.1 (by omega)) ⟨[], rfl, rfl⟩ rfl ?_
  simp (disch := omega) only [List.getD_cons_zero, List.getD_cons_succ, go_sem, ↓if_pos, ne_eq, ↓reduceIte]
  refine SRun.callR (evalEx_ok (ex := ex) hl e he'.1.1 hm) ⟨[], rfl, rfl⟩ rfl ?_
  simp (disch := omega) only [List.getD_cons_zero, List.getD_cons_succ, go_sem, ↓if_pos, ne_eq, ↓reduceIte]
  exact W_retC c18_ok rfl (Conv.drop _ (le_upd hb2)) ⟨rfl, rfl⟩
theorem ExOKi_ok {e : Ex} (hsz : sizeE e ≤ 1000000) : Ret Try.prog Γ 24 [exV e] σ (.bool (okE e)) σ := by
  refine ret_of c24_ok rfl ?_
  simp (disch := omega) only [c24, go_sem, ↓if_pos, ne_eq, ↓reduceIte]
  refine SRun.boxR (by show ∀ c ∈ (exV e).cells, _; rw [cells_exV]; exact exC_one e) ?_
  intro b1 hb1
  have h1 := exC_one e
  simp (disch := omega) only [h1, go_sem, ↓if_pos, ne_eq, ↓reduceIte]
  refine SRun.callR (isEx_ok (e := e) hsz) ⟨[], rfl, rfl⟩ rfl ?_
  simp (disch := omega) only [List.getD_cons_zero, List.getD_cons_succ, go_sem, ↓if_pos, ne_eq, ↓reduceIte]
  exact W_retC c24_ok rfl (Conv.drop _ (le_upd hb1)) ⟨rfl, rfl⟩
theorem l01In_ok (a b c : Int) : Ret Try.prog Γ 63 [.int .i64 a, .int .i64 b, .int .i64 c] σ (.bool (decide (b ≤ a) && decide (a ≤ c))) σ := by
  refine ret_of c63_ok rfl ?_
  simp (disch := omega) only [c63, go_sem, ↓if_pos, ne_eq, ↓reduceIte]
  first | refine guardW_dec (fun h => ?_) (fun h => ?_) | refine guardW_by (fun h => ?_) (fun h => ?_)
  · have h' : decide (b ≤ a) = true := decide_eq_true (by omega)
    simp (disch := omega) only [go_sem, ↓if_pos, ne_eq, ↓reduceIte]
    refine W_retR c63_ok rfl ⟨?_, rfl⟩
    simp only [look, ev, V.bool.injEq, V.int.injEq, V.str.injEq, V.tup.injEq, V.agg.injEq, V.isl.injEq, List.cons.injEq, true_and, and_true, h', Bool.true_and, Nat.reduceEqDiff, Nat.reduceAdd, Nat.reduceSub, Nat.reduceMul, Nat.reducePow, Nat.reduceDiv, Nat.reduceMod, Int.reduceToNat, Nat.reduceLeDiff, Nat.reduceLT, Int.reduceEq, Int.reduceLT, Int.reduceLE, Int.reduceGT, Int.reduceGE, Int.reduceNeg, Int.reduceSub, Int.reduceAdd, Int.reduceMul, Int.reducePow, ne_eq, reduceCtorEq, ↓reduceIte]
  · have h' : decide (b ≤ a) = false := decide_eq_false (by omega)
    simp (disch := omega) only [go_sem, ↓if_pos, ne_eq, ↓reduceIte]
    refine W_retR c63_ok rfl ⟨?_, rfl⟩
    simp only [look, ev, V.bool.injEq, V.int.injEq, V.str.injEq, V.tup.injEq, V.agg.injEq, V.isl.injEq, List.cons.injEq, true_and, and_true, h', Bool.false_and, Nat.reduceEqDiff, Nat.reduceAdd, Nat.reduceSub, Nat.reduceMul, Nat.reducePow, Nat.reduceDiv, Nat.reduceMod, Int.reduceToNat, Nat.reduceLeDiff, Nat.reduceLT, Int.reduceEq, Int.reduceLT, Int.reduceLE, Int.reduceGT, Int.reduceGE, Int.reduceNeg, Int.reduceSub, Int.reduceAdd, Int.reduceMul, Int.reducePow, ne_eq, reduceCtorEq, ↓reduceIte]
/-- What is left, of one that is neither too deep nor too large. -/
theorem l04Left_ok : ∀ e, ∀ {Γ σ : St} {l d : Int}, 0 ≤ d → d + depthE e ≤ 41 → (sizeE e : Int) ≤ l → l ≤ 1000000 → Ret Try.prog Γ 153 [exV e, .int .i64 l, .int .i64 d] σ (.int .i64 (l - sizeE e)) σ := by
  refine Ex.ind fun k n ks ih Γ σ l d hd0 hd hl hl1 => ?_
  have hlen := sizeL_len ks
  simp only [sizeE, depthE] at hl hd
  refine ret_of c153_ok rfl ?_
  simp (disch := omega) only [c153, exV_mk, go_sem, ↓if_pos, ne_eq, ↓reduceIte]
  refine SRun.boxR (by simp [ev, look, V.cells, V.one]) ?_
  intro b3 hb3
  have g3 : upd σ b3 [.int .i64 k, .int .i64 n, .isl false 3 (exsV ks)] b3 = some [.int .i64 k, .int .i64 n, .isl false 3 (exsV ks)] := upd_same _ _ _
  have hle : ∀ d x, σ d = some x → upd σ b3 [.int .i64 k, .int .i64 n, .isl false 3 (exsV ks)] d = some x := le_upd hb3
  simp (disch := omega) only [g3, exC_mk, go_sem, ↓if_pos, ne_eq, ↓reduceIte]
  refine W_loopC (α := Nat × Int) (fun p => p.1 ≤ ks.length ∧ p.2 - sizeL (ks.drop p.1) = l - 1 - sizeL ks ∧ p.2 ≤ 1000000) (fun p => [(3, .ptr b3 0), (1, .int .i64 p.2), (2, .int .i64 d), (7, .int .i64 (p.1 : Nat))]) (fun _ => upd σ b3 [.int .i64 k, .int .i64 n, .isl false 3 (exsV ks)]) (fun p => ks.length - p.1) (0, l - 1) ⟨by omega, by simp, by simp only; omega⟩ (by simp (disch := omega) only [subT, Int.natCast_add, Int.cast_ofNat_Int, go_sem, ↓if_pos, ne_eq, ↓reduceIte] <;> (repeat' apply And.intro) <;> first | rfl | (congr 1; omega) | assumption) rfl ?_
  rintro ⟨i, a⟩ ⟨hi, hsm, ha⟩ ih2
  dsimp only at hi hsm ha
  simp (disch := omega) only [g3, exC_mk, go_sem, ↓if_pos, ne_eq, ↓reduceIte]
  first | refine guardW_dec (fun hq => ?_) (fun hq => ?_) | refine guardW_by (fun hq => ?_) (fun hq => ?_)
  · have he := getD_mem default (by omega : i < ks.length)
    have hdp := depthL_mem he
    rw [drop_cons default (by omega : i < ks.length)] at hsm
    simp only [sizeL] at hsm
    have ha0 : decide (a ≥ 0) = true := decide_eq_true (by omega)
    simp (disch := omega) only [g3, exC_mk, ha0, go_sem, ↓if_pos, ne_eq, ↓reduceIte]
    refine SRun.callR (ih _ he (by omega) (by omega) (by omega) (by omega)) ⟨[], rfl, rfl⟩ rfl ?_
    simp (disch := omega) only [List.getD_cons_zero, List.getD_cons_succ, go_sem, ↓if_pos, ne_eq, ↓reduceIte]
    exact ih2 (i + 1, a - sizeE (ks.getD i default)) _ _ ⟨by simp only; omega, by simp only; omega, by simp only; omega⟩ (by simp only; omega) (by simp (disch := omega) only [subT, Int.natCast_add, Int.cast_ofNat_Int, go_sem, ↓if_pos, ne_eq, ↓reduceIte] <;> (repeat' apply And.intro) <;> first | rfl | (congr 1; omega) | assumption) rfl
  · obtain rfl : i = ks.length := by omega
    rw [List.drop_length] at hsm
    simp only [sizeL] at hsm
    simp (disch := omega) only [go_sem, ↓if_pos, ne_eq, ↓reduceIte]
    refine W_retC c153_ok rfl (Conv.drop _ hle) ⟨?_, rfl⟩
    simp only [look, ev, V.bool.injEq, V.int.injEq, V.str.injEq, V.tup.injEq, V.agg.injEq, V.isl.injEq, List.cons.injEq, true_and, and_true, sizeE, Nat.reduceEqDiff, Nat.reduceAdd, Nat.reduceSub, Nat.reduceMul, Nat.reducePow, Nat.reduceDiv, Nat.reduceMod, Int.reduceToNat, Nat.reduceLeDiff, Nat.reduceLT, Int.reduceEq, Int.reduceLT, Int.reduceLE, Int.reduceGT, Int.reduceGE, Int.reduceNeg, Int.reduceSub, Int.reduceAdd, Int.reduceMul, Int.reducePow, ne_eq, reduceCtorEq, ↓reduceIte]
    omega
theorem l04Right_ok : ∀ e, ∀ {Γ σ : St}, rightE e = true → sizeE e ≤ 1000000 → Ret Try.prog Γ 154 [exV e] σ (.bool true) σ := by
  refine Ex.ind fun k n ks ih Γ σ hr hsz => ?_
  have hlen := sizeL_len ks
  simp only [sizeE] at hsz
  have hr' := hr
  simp only [rightE, Bool.and_eq_true, decide_eq_true_eq, rightL_all, List.all_eq_true] at hr'
  obtain ⟨⟨hn, hk⟩, hall⟩ := hr'
  refine ret_of c154_ok rfl ?_
  simp (disch := omega) only [c154, exV_mk, go_sem, ↓if_pos, ne_eq, ↓reduceIte]
  refine SRun.boxR (by simp [ev, look, V.cells, V.one]) ?_
  intro b1 hb1
  have g1 : upd σ b1 [.int .i64 k, .int .i64 n, .isl false 3 (exsV ks)] b1 = some [.int .i64 k, .int .i64 n, .isl false 3 (exsV ks)] := upd_same _ _ _
  have hle : ∀ d x, σ d = some x → upd σ b1 [.int .i64 k, .int .i64 n, .isl false 3 (exsV ks)] d = some x := le_upd hb1
  by_cases k1 : k = 1
  · subst k1
    simp [numOK] at hn
    simp [arity] at hk
    subst hk
    simp (disch := omega) only [g1, exC_mk, go_sem, ↓if_pos, ne_eq, ↓reduceIte]
    refine SRun.callR (l01In_ok n 0 11) ⟨[], rfl, rfl⟩ rfl ?_
    simp (disch := omega) only [List.getD_cons_zero, List.getD_cons_succ, go_sem, ↓if_pos, ne_eq, ↓reduceIte]
    have hb : (decide (0 ≤ n) && decide (n ≤ 11)) = true := by simp; omega
    simp (disch := omega) only [hb, g1, exC_mk, go_sem, ↓if_pos, ne_eq, ↓reduceIte]
    refine W_retC c154_ok rfl (Conv.drop _ hle) ⟨?_, rfl⟩
    simp only [look, ev, V.bool.injEq, V.int.injEq, V.str.injEq, V.tup.injEq, V.agg.injEq, V.isl.injEq, List.cons.injEq, true_and, and_true, Nat.reduceEqDiff, Nat.reduceAdd, Nat.reduceSub, Nat.reduceMul, Nat.reducePow, Nat.reduceDiv, Nat.reduceMod, Int.reduceToNat, Nat.reduceLeDiff, Nat.reduceLT, Int.reduceEq, Int.reduceLT, Int.reduceLE, Int.reduceGT, Int.reduceGE, Int.reduceNeg, Int.reduceSub, Int.reduceAdd, Int.reduceMul, Int.reducePow, ne_eq, reduceCtorEq, ↓reduceIte]
  by_cases k2 : k = 2
  · subst k2
    simp [numOK] at hn
    simp [arity] at hk
    subst hk
    simp (disch := omega) only [g1, exC_mk, go_sem, ↓if_pos, ne_eq, ↓reduceIte]
    refine SRun.callR (l01In_ok n 0 1) ⟨[], rfl, rfl⟩ rfl ?_
    simp (disch := omega) only [List.getD_cons_zero, List.getD_cons_succ, go_sem, ↓if_pos, ne_eq, ↓reduceIte]
    have hb : (decide (0 ≤ n) && decide (n ≤ 1)) = true := by simp; omega
    simp (disch := omega) only [hb, g1, exC_mk, go_sem, ↓if_pos, ne_eq, ↓reduceIte]
    refine W_retC c154_ok rfl (Conv.drop _ hle) ⟨?_, rfl⟩
    simp only [look, ev, V.bool.injEq, V.int.injEq, V.str.injEq, V.tup.injEq, V.agg.injEq, V.isl.injEq, List.cons.injEq, true_and, and_true, Nat.reduceEqDiff, Nat.reduceAdd, Nat.reduceSub, Nat.reduceMul, Nat.reducePow, Nat.reduceDiv, Nat.reduceMod, Int.reduceToNat, Nat.reduceLeDiff, Nat.reduceLT, Int.reduceEq, Int.reduceLT, Int.reduceLE, Int.reduceGT, Int.reduceGE, Int.reduceNeg, Int.reduceSub, Int.reduceAdd, Int.reduceMul, Int.reducePow, ne_eq, reduceCtorEq, ↓reduceIte]
  rw [numOK, if_neg k1, if_neg k2, decide_eq_true_eq] at hn
  subst hn
  have hkk : k = 3 ∨ k = 4 ∨ k = 5 ∨ k = 6 ∨ k = 7 := by
    unfold arity at hk
    rw [if_neg (by omega)] at hk
    by_cases k3 : k = 3
    · exact .inl k3
    rw [if_neg k3] at hk
    by_cases k4 : k = 4 ∨ k = 5 ∨ k = 6
    · omega
    rw [if_neg k4] at hk
    by_cases k7 : k = 7
    · omega
    · rw [if_neg k7] at hk; omega
  rcases hkk with rfl | rfl | rfl | rfl | rfl
  all_goals
    simp [arity] at hk
    have hnl : ¬ ((0 : Int) ≠ 0) := by omega
    simp (disch := omega) only [g1, exC_mk, go_sem, ↓if_pos, ne_eq, ↓reduceIte]
    refine W_loopC (α := Nat) (fun i => i ≤ ks.length) (fun i => [(1, .ptr b1 0), (3, .int .i64 ks.length), (4, .int .i64 (i : Nat))]) (fun _ => upd σ b1 _) (fun i => ks.length - i) 0 (by omega) (by simp (disch := omega) only [subT, Int.natCast_add, Int.cast_ofNat_Int, hk, go_sem, ↓if_pos, ne_eq, ↓reduceIte] <;> (repeat' apply And.intro) <;> first | rfl | (congr 1; omega) | assumption) rfl ?_
    intro i hi ih2
    simp (disch := omega) only [go_sem, ↓if_pos, ne_eq, ↓reduceIte]
    first | refine iteW_dec (fun hq => ?_) (fun hq => ?_) | refine iteW_of (fun hq => ?_) (fun hq => ?_)
    · have he := getD_mem default (by omega : i < ks.length)
      have hsz2 := sizeL_mem he
      simp (disch := omega) only [g1, exC_mk, go_sem, ↓if_pos, ne_eq, ↓reduceIte]
      refine SRun.callR (ih _ he (hall _ he) (by omega)) ⟨[], rfl, rfl⟩ rfl ?_
      simp (disch := omega) only [List.getD_cons_zero, List.getD_cons_succ, go_sem, ↓if_pos, ne_eq, ↓reduceIte]
      exact ih2 (i + 1) _ _ (by omega) (by omega) (by simp (disch := omega) only [subT, Int.natCast_add, Int.cast_ofNat_Int, go_sem, ↓if_pos, ne_eq, ↓reduceIte] <;> (repeat' apply And.intro) <;> first | rfl | (congr 1; omega) | assumption) rfl
    · simp (disch := omega) only [go_sem, ↓if_pos, ne_eq, ↓reduceIte]
      exact W_retC c154_ok rfl (Conv.drop _ hle) ⟨rfl, rfl⟩
theorem ExOKs_ok {e : Ex} (he : okE e = true) : Ret Try.prog Γ 75 [exV e] σ (.bool true) σ := by
  have he' := he
  simp only [okE, Bool.and_eq_true, decide_eq_true_eq] at he'
  refine ret_of c75_ok rfl ?_
  simp (disch := omega) only [c75, go_sem, ↓if_pos, ne_eq, ↓reduceIte]
  refine SRun.boxR (by show ∀ c ∈ (exV e).cells, _; rw [cells_exV]; exact exC_one e) ?_
  intro b1 hb1
  have h1 := exC_one e
  simp (disch := omega) only [h1, go_sem, ↓if_pos, ne_eq, ↓reduceIte]
  refine SRun.callR (l04Left_ok e (l := 400) (d := 1) (by omega) (by omega) (by omega) (by omega)) ⟨[], rfl, rfl⟩ rfl ?_
  simp (disch := omega) only [List.getD_cons_zero, List.getD_cons_succ, go_sem, ↓if_pos, ne_eq, ↓reduceIte]
  have hd : decide ((400 : Int) - sizeE e ≥ 0) = true := decide_eq_true (by omega)
  simp (disch := omega) only [hd, h1, go_sem, ↓if_pos, ne_eq, ↓reduceIte]
  refine SRun.callR (l04Right_ok e he'.1.1 (by omega)) ⟨[], rfl, rfl⟩ rfl ?_
  simp (disch := omega) only [go_sem, ↓if_pos, ne_eq, ↓reduceIte]
  exact W_retC c75_ok rfl (Conv.drop _ (le_upd hb1)) ⟨rfl, rfl⟩
theorem l04Eval_ok {ex : Bool} {bs : List Bool} (hl : bs.length ≤ 4096) : ∀ e, rightE e = true → ∀ {Γ σ : St}, mostE e < bs.length → Ret Try.prog Γ 82 [exV e, .isl ex 1 (bools bs)] σ (.bool (evE bs e)) σ := by
  have pre : ∀ k n ks, ∀ c ∈ (V.agg [V.int .i64 k, V.int .i64 n, V.isl false 3 (exsV ks)]).cells, c.one = true := by intro k n ks; simp [V.cells, V.one]
  refine right_cases ?_ ?_ ?_ ?_ ?_ ?_ ?_
  · intro n h0 h1 Γ σ hm
    simp only [mostE, mostL] at hm
    rw [if_pos trivial] at hm
    refine ret_of c82_ok rfl ?_
    simp (disch := omega) only [c82, exV_mk, go_sem, ↓if_pos, ne_eq, ↓reduceIte]
    refine SRun.boxR (pre _ _ _) ?_
    intro b2 hb2
    have hb : (bools bs).length = bs.length := bools_len bs
    simp (disch := omega) only [bools, go_sem, ↓if_pos, ne_eq, ↓reduceIte]
    refine W_retC c82_ok rfl (Conv.drop _ (le_upd hb2)) ⟨?_, rfl⟩
    simp only [look, ev, V.bool.injEq, V.int.injEq, V.str.injEq, V.tup.injEq, V.agg.injEq, V.isl.injEq, List.cons.injEq, true_and, and_true, evE, evL, Nat.reduceEqDiff, Nat.reduceAdd, Nat.reduceSub, Nat.reduceMul, Nat.reducePow, Nat.reduceDiv, Nat.reduceMod, Int.reduceToNat, Nat.reduceLeDiff, Nat.reduceLT, Int.reduceEq, Int.reduceLT, Int.reduceLE, Int.reduceGT, Int.reduceGE, Int.reduceNeg, Int.reduceSub, Int.reduceAdd, Int.reduceMul, Int.reducePow, ne_eq, reduceCtorEq, ↓reduceIte]
    rfl
  · intro n hn Γ σ hm
    refine ret_of c82_ok rfl ?_
    simp (disch := omega) only [c82, exV_mk, go_sem, ↓if_pos, ne_eq, ↓reduceIte]
    refine SRun.boxR (pre _ _ _) ?_
    intro b2 hb2
    simp (disch := omega) only [go_sem, ↓if_pos, ne_eq, ↓reduceIte]
    refine W_retC c82_ok rfl (Conv.drop _ (le_upd hb2)) ⟨?_, rfl⟩
    simp only [look, ev, V.bool.injEq, V.int.injEq, V.str.injEq, V.tup.injEq, V.agg.injEq, V.isl.injEq, List.cons.injEq, true_and, and_true, evE, evL, Nat.reduceEqDiff, Nat.reduceAdd, Nat.reduceSub, Nat.reduceMul, Nat.reducePow, Nat.reduceDiv, Nat.reduceMod, Int.reduceToNat, Nat.reduceLeDiff, Nat.reduceLT, Int.reduceEq, Int.reduceLT, Int.reduceLE, Int.reduceGT, Int.reduceGE, Int.reduceNeg, Int.reduceSub, Int.reduceAdd, Int.reduceMul, Int.reducePow, ne_eq, reduceCtorEq, ↓reduceIte]
  · intro a ra iha Γ σ hm
    simp only [mostE, mostL] at hm
    have hks : ([a] : List Ex).length = 1 := rfl
    refine ret_of c82_ok rfl ?_
    simp (disch := omega) only [c82, exV_mk, go_sem, ↓if_pos, ne_eq, ↓reduceIte]
    refine SRun.boxR (pre _ _ _) ?_
    intro b2 hb2
    simp (disch := omega) only [go_sem, ↓if_pos, ne_eq, ↓reduceIte]
    refine SRun.callR (iha (by omega)) ⟨[], rfl, rfl⟩ rfl ?_
    simp (disch := omega) only [List.getD_cons_zero, List.getD_cons_succ, go_sem, ↓if_pos, ne_eq, ↓reduceIte]
    refine W_retC c82_ok rfl (Conv.drop _ (le_upd hb2)) ⟨?_, rfl⟩
    simp only [look, ev, V.bool.injEq, V.int.injEq, V.str.injEq, V.tup.injEq, V.agg.injEq, V.isl.injEq, List.cons.injEq, true_and, and_true, evE, evL, List.getD_cons_zero, Nat.reduceEqDiff, Nat.reduceAdd, Nat.reduceSub, Nat.reduceMul, Nat.reducePow, Nat.reduceDiv, Nat.reduceMod, Int.reduceToNat, Nat.reduceLeDiff, Nat.reduceLT, Int.reduceEq, Int.reduceLT, Int.reduceLE, Int.reduceGT, Int.reduceGE, Int.reduceNeg, Int.reduceSub, Int.reduceAdd, Int.reduceMul, Int.reducePow, ne_eq, reduceCtorEq, ↓reduceIte]
  · intro a b ra rb iha ihb Γ σ hm
    simp only [mostE, mostL] at hm
    have hks : ([a, b] : List Ex).length = 2 := rfl
    refine ret_of c82_ok rfl ?_
    simp (disch := omega) only [c82, exV_mk, go_sem, ↓if_pos, ne_eq, ↓reduceIte]
    refine SRun.boxR (pre _ _ _) ?_
    intro b2 hb2
    simp (disch := omega) only [go_sem, ↓if_pos, ne_eq, ↓reduceIte]
    refine SRun.callR (iha (by omega)) ⟨[], rfl, rfl⟩ rfl ?_
    simp (disch := omega) only [List.getD_cons_zero, List.getD_cons_succ, go_sem, ↓if_pos, ne_eq, ↓reduceIte]
    cases hva : evE bs a with
    | true =>
      simp (disch := omega) only [go_sem, ↓if_pos, ne_eq, ↓reduceIte]
      refine SRun.callR (ihb (by omega)) ⟨[], rfl, rfl⟩ rfl ?_
      simp (disch := omega) only [List.getD_cons_zero, List.getD_cons_succ, go_sem, ↓if_pos, ne_eq, ↓reduceIte]
      refine W_retC c82_ok rfl (Conv.drop _ (le_upd hb2)) ⟨?_, rfl⟩
      simp only [look, ev, V.bool.injEq, V.int.injEq, V.str.injEq, V.tup.injEq, V.agg.injEq, V.isl.injEq, List.cons.injEq, true_and, and_true, evE, evL, List.getD_cons_zero, List.getD_cons_succ, hva, Bool.true_and, Bool.true_or, Nat.reduceEqDiff, Nat.reduceAdd, Nat.reduceSub, Nat.reduceMul, Nat.reducePow, Nat.reduceDiv, Nat.reduceMod, Int.reduceToNat, Nat.reduceLeDiff, Nat.reduceLT, Int.reduceEq, Int.reduceLT, Int.reduceLE, Int.reduceGT, Int.reduceGE, Int.reduceNeg, Int.reduceSub, Int.reduceAdd, Int.reduceMul, Int.reducePow, ne_eq, reduceCtorEq, ↓reduceIte]
    | false =>
      simp (disch := omega) only [go_sem, ↓if_pos, ne_eq, ↓reduceIte]
      skip
      refine W_retC c82_ok rfl (Conv.drop _ (le_upd hb2)) ⟨?_, rfl⟩
      simp only [look, ev, V.bool.injEq, V.int.injEq, V.str.injEq, V.tup.injEq, V.agg.injEq, V.isl.injEq, List.cons.injEq, true_and, and_true, evE, evL, List.getD_cons_zero, List.getD_cons_succ, hva, Bool.false_and, Bool.false_or, Nat.reduceEqDiff, Nat.reduceAdd, Nat.reduceSub, Nat.reduceMul, Nat.reducePow, Nat.reduceDiv, Nat.reduceMod, Int.reduceToNat, Nat.reduceLeDiff, Nat.reduceLT, Int.reduceEq, Int.reduceLT, Int.reduceLE, Int.reduceGT, Int.reduceGE, Int.reduceNeg, Int.reduceSub, Int.reduceAdd, Int.reduceMul, Int.reducePow, ne_eq, reduceCtorEq, ↓reduceIte]
  · intro a b ra rb iha ihb Γ σ hm
    simp only [mostE, mostL] at hm
    have hks : ([a, b] : List Ex).length = 2 := rfl
    refine ret_of c82_ok rfl ?_
    simp (disch := omega) only [c82, exV_mk, go_sem, ↓if_pos, ne_eq, ↓reduceIte]
    refine SRun.boxR (pre _ _ _) ?_
    intro b2 hb2
    simp (disch := omega) only [go_sem, ↓if_pos, ne_eq, ↓reduceIte]
    refine SRun.callR (iha (by omega)) ⟨[], rfl, rfl⟩ rfl ?_
    simp (disch := omega) only [List.getD_cons_zero, List.getD_cons_succ, go_sem, ↓if_pos, ne_eq, ↓reduceIte]
    cases hva : evE bs a with
    | true =>
      simp (disch := omega) only [go_sem, ↓if_pos, ne_eq, ↓reduceIte]
      skip
      refine W_retC c82_ok rfl (Conv.drop _ (le_upd hb2)) ⟨?_, rfl⟩
      simp only [look, ev, V.bool.injEq, V.int.injEq, V.str.injEq, V.tup.injEq, V.agg.injEq, V.isl.injEq, List.cons.injEq, true_and, and_true, evE, evL, List.getD_cons_zero, List.getD_cons_succ, hva, Bool.true_and, Bool.true_or, Nat.reduceEqDiff, Nat.reduceAdd, Nat.reduceSub, Nat.reduceMul, Nat.reducePow, Nat.reduceDiv, Nat.reduceMod, Int.reduceToNat, Nat.reduceLeDiff, Nat.reduceLT, Int.reduceEq, Int.reduceLT, Int.reduceLE, Int.reduceGT, Int.reduceGE, Int.reduceNeg, Int.reduceSub, Int.reduceAdd, Int.reduceMul, Int.reducePow, ne_eq, reduceCtorEq, ↓reduceIte]
    | false =>
      simp (disch := omega) only [go_sem, ↓if_pos, ne_eq, ↓reduceIte]
      refine SRun.callR (ihb (by omega)) ⟨[], rfl, rfl⟩ rfl ?_
      simp (disch := omega) only [List.getD_cons_zero, List.getD_cons_succ, go_sem, ↓if_pos, ne_eq, ↓reduceIte]
      refine W_retC c82_ok rfl (Conv.drop _ (le_upd hb2)) ⟨?_, rfl⟩
      simp only [look, ev, V.bool.injEq, V.int.injEq, V.str.injEq, V.tup.injEq, V.agg.injEq, V.isl.injEq, List.cons.injEq, true_and, and_true, evE, evL, List.getD_cons_zero, List.getD_cons_succ, hva, Bool.false_and, Bool.false_or, Nat.reduceEqDiff, Nat.reduceAdd, Nat.reduceSub, Nat.reduceMul, Nat.reducePow, Nat.reduceDiv, Nat.reduceMod, Int.reduceToNat, Nat.reduceLeDiff, Nat.reduceLT, Int.reduceEq, Int.reduceLT, Int.reduceLE, Int.reduceGT, Int.reduceGE, Int.reduceNeg, Int.reduceSub, Int.reduceAdd, Int.reduceMul, Int.reducePow, ne_eq, reduceCtorEq, ↓reduceIte]
  · intro a b ra rb iha ihb Γ σ hm
    simp only [mostE, mostL] at hm
    have hks : ([a, b] : List Ex).length = 2 := rfl
    refine ret_of c82_ok rfl ?_
    simp (disch := omega) only [c82, exV_mk, go_sem, ↓if_pos, ne_eq, ↓reduceIte]
    refine SRun.boxR (pre _ _ _) ?_
    intro b2 hb2
    simp (disch := omega) only [go_sem, ↓if_pos, ne_eq, ↓reduceIte]
    rw [W_draw]
    refine DRun.start (DRun.mixE rfl ?_)
    simp (disch := omega) only [upd_same, go_sem, ↓if_pos, ne_eq, ↓reduceIte]
    refine DS.callQ (iha (by omega)) ⟨[], rfl, rfl⟩ rfl ?_
    rintro r s ⟨rfl, rfl⟩ _
    simp (disch := omega) only [go_sem, ↓if_pos, ne_eq, ↓reduceIte]
    refine DRun.callQ (ihb (by omega)) ⟨[], rfl, rfl⟩ ?_
    rintro r s ⟨rfl, rfl⟩
    simp (disch := omega) only [go_sem, ↓if_pos, ne_eq, ↓reduceIte]
    refine W_retC c82_ok rfl (Conv.drop _ (le_upd hb2)) ⟨?_, rfl⟩
    simp only [look, ev, V.bool.injEq, V.int.injEq, V.str.injEq, V.tup.injEq, V.agg.injEq, V.isl.injEq, List.cons.injEq, true_and, and_true, evE, evL, List.getD_cons_zero, List.getD_cons_succ, Nat.reduceEqDiff, Nat.reduceAdd, Nat.reduceSub, Nat.reduceMul, Nat.reducePow, Nat.reduceDiv, Nat.reduceMod, Int.reduceToNat, Nat.reduceLeDiff, Nat.reduceLT, Int.reduceEq, Int.reduceLT, Int.reduceLE, Int.reduceGT, Int.reduceGE, Int.reduceNeg, Int.reduceSub, Int.reduceAdd, Int.reduceMul, Int.reducePow, ne_eq, reduceCtorEq, ↓reduceIte]
    rfl
  · intro a b c ra rb rc iha ihb ihc Γ σ hm
    simp only [mostE, mostL] at hm
    have hks : ([a, b, c] : List Ex).length = 3 := rfl
    refine ret_of c82_ok rfl ?_
    simp (disch := omega) only [c82, exV_mk, go_sem, ↓if_pos, ne_eq, ↓reduceIte]
    refine SRun.boxR (pre _ _ _) ?_
    intro b2 hb2
    simp (disch := omega) only [go_sem, ↓if_pos, ne_eq, ↓reduceIte]
    refine SRun.callR (iha (by omega)) ⟨[], rfl, rfl⟩ rfl ?_
    simp (disch := omega) only [List.getD_cons_zero, List.getD_cons_succ, go_sem, ↓if_pos, ne_eq, ↓reduceIte]
    cases hva : evE bs a with
    | true =>
      simp (disch := omega) only [go_sem, ↓if_pos, ne_eq, ↓reduceIte]
      refine SRun.callR (ihb (by omega)) ⟨[], rfl, rfl⟩ rfl ?_
      simp (disch := omega) only [List.getD_cons_zero, List.getD_cons_succ, go_sem, ↓if_pos, ne_eq, ↓reduceIte]
      refine W_retC c82_ok rfl (Conv.drop _ (le_upd hb2)) ⟨?_, rfl⟩
      simp only [look, ev, V.bool.injEq, V.int.injEq, V.str.injEq, V.tup.injEq, V.agg.injEq, V.isl.injEq, List.cons.injEq, true_and, and_true, evE, evL, List.getD_cons_zero, List.getD_cons_succ, hva, Nat.reduceEqDiff, Nat.reduceAdd, Nat.reduceSub, Nat.reduceMul, Nat.reducePow, Nat.reduceDiv, Nat.reduceMod, Int.reduceToNat, Nat.reduceLeDiff, Nat.reduceLT, Int.reduceEq, Int.reduceLT, Int.reduceLE, Int.reduceGT, Int.reduceGE, Int.reduceNeg, Int.reduceSub, Int.reduceAdd, Int.reduceMul, Int.reducePow, ne_eq, reduceCtorEq, ↓reduceIte]
    | false =>
      simp (disch := omega) only [go_sem, ↓if_pos, ne_eq, ↓reduceIte]
      refine SRun.callR (ihc (by omega)) ⟨[], rfl, rfl⟩ rfl ?_
      simp (disch := omega) only [List.getD_cons_zero, List.getD_cons_succ, go_sem, ↓if_pos, ne_eq, ↓reduceIte]
      refine W_retC c82_ok rfl (Conv.drop _ (le_upd hb2)) ⟨?_, rfl⟩
      simp only [look, ev, V.bool.injEq, V.int.injEq, V.str.injEq, V.tup.injEq, V.agg.injEq, V.isl.injEq, List.cons.injEq, true_and, and_true, evE, evL, List.getD_cons_zero, List.getD_cons_succ, hva, Nat.reduceEqDiff, Nat.reduceAdd, Nat.reduceSub, Nat.reduceMul, Nat.reducePow, Nat.reduceDiv, Nat.reduceMod, Int.reduceToNat, Nat.reduceLeDiff, Nat.reduceLT, Int.reduceEq, Int.reduceLT, Int.reduceLE, Int.reduceGT, Int.reduceGE, Int.reduceNeg, Int.reduceSub, Int.reduceAdd, Int.reduceMul, Int.reducePow, ne_eq, reduceCtorEq, ↓reduceIte]
theorem EvalExs_ok {e : Ex} {ex : Bool} {bs : List Bool} (he : okE e = true) (hm : mostE e < bs.length) (hl : bs.length ≤ 4096) : Ret Try.prog Γ 27 [exV e, .isl ex 1 (bools bs)] σ (.tup [.bool (evE bs e), .int .i64 0]) σ := by
  have he' := he
  simp only [okE, Bool.and_eq_true, decide_eq_true_eq] at he'
  have hbl := bools_len bs
  refine ret_of c27_ok rfl ?_
  simp (disch := omega) only [c27, go_sem, ↓if_pos, ne_eq, ↓reduceIte]
  refine SRun.boxR (by show ∀ c ∈ (exV e).cells, _; rw [cells_exV]; exact exC_one e) ?_
  intro b2 hb2
  have h1 := exC_one e
  simp (disch := omega) only [h1, go_sem, ↓if_pos, ne_eq, ↓reduceIte]
  refine SRun.callR (ExOKs_ok he) ⟨[], rfl, rfl⟩ rfl ?_
  simp (disch := omega) only [List.getD_cons_zero, List.getD_cons_succ, go_sem, ↓if_pos, ne_eq, ↓reduceIte]
  try simp (disch := omega) only [h1, go_sem, ↓if_pos, ne_eq, ↓reduceIte]
  refine SRun.callR (l04Most_ok e he'.1.1 (by omega)) ⟨[], rfl, rfl⟩ rfl ?_
  simp (disch := omega) only [List.getD_cons_zero, List.getD_cons_succ, go_sem, ↓if_pos, ne_eq, ↓reduceIte]
  try simp (disch := omega) only [h1, go_sem, ↓if_pos, ne_eq, ↓reduceIte]
  refine SRun.callR (l04Eval_ok (ex := ex) hl e he'.1.1 hm) ⟨[], rfl, rfl⟩ rfl ?_
  simp (disch := omega) only [List.getD_cons_zero, List.getD_cons_succ, go_sem, ↓if_pos, ne_eq, ↓reduceIte]
  exact W_retC c27_ok rfl (Conv.drop _ (le_upd hb2)) ⟨rfl, rfl⟩
end Go.Proofs.Ytlidjjjpjndneaa.Lg
