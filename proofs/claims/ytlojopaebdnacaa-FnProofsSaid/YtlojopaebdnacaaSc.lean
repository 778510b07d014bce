/- The functions of propagation at the face, of the reference and of the program; what is implied. -/
import Derived.Test.YtlojopaebdnacaaSb
set_option linter.unusedSimpArgs false
set_option linter.unusedVariables false
namespace Go.Proofs.Ytlojopaebdnacaa.Lg
open Go
attribute [local irreducible] SRun DS DRun
variable {Γ : St} {σ σ0 : St}
theorem zeroVals_len {vars : Int} (hv : 0 ≤ vars) : ((zeroVals vars).length : Int) = vars + 1 := by simp only [zeroVals, List.length_replicate]; omega
theorem zeroVals_tri (vars : Int) : tri (zeroVals vars) := fun x hx => by have := List.eq_of_mem_replicate hx; omega
theorem zeroVals_flat {vars : Int} {N : Nat} (hN : vars + 1 = N) : (List.replicate N [V.int IntKind.i64 0]).flatten = ints (zeroVals vars) := by
  have : (vars + 1).toNat = N := by omega
  simp [zeroVals, this, ints]
/-- The opposites of literals are set, unless one is true. -/
def negGo : List Int → List Int → Option (List Int)
  | vals, [] => some vals
  | vals, x :: r => bif isT vals x then none else negGo (setT vals (-x)) r
theorem isT_test {vals : List Int} {v x : Int} (hx : x ≠ 0) (h : (v = 0 ∧ isT vals x = false ∧ isT vals (-x) = false) ∨ (v = (if x < 0 then -1 else 1) ∧ isT vals x = true ∧ isT vals (-x) = false) ∨ (v = (if x < 0 then 1 else -1) ∧ isT vals x = false ∧ isT vals (-x) = true)) :
    isT vals x = (decide (¬ v = 0) && (decide (v = 1) == decide (x > 0))) := by
  by_cases hneg : x < 0
  · have hd : decide (x > 0) = false := decide_eq_false (by omega)
    rw [if_pos hneg, if_pos hneg] at h
    rcases h with ⟨rfl, h, _⟩ | ⟨rfl, h, _⟩ | ⟨rfl, h, _⟩ <;> rw [h, hd] <;> rfl
  · have hd : decide (x > 0) = true := decide_eq_true (by omega)
    rw [if_neg hneg, if_neg hneg] at h
    rcases h with ⟨rfl, h, _⟩ | ⟨rfl, h, _⟩ | ⟨rfl, h, _⟩ <;> rw [h, hd] <;> rfl
theorem negGo_keeps {vars : Int} : ∀ {c vals v : List Int}, negGo vals c = some v → (vals.length : Int) = vars + 1 → tri vals → (v.length : Int) = vars + 1 ∧ tri v := by
  intro c
  induction c with
  | nil => intro vals v h hl ht; simp only [negGo, Option.some.injEq] at h; subst h; exact ⟨hl, ht⟩
  | cons x r ih =>
    intro vals v h hl ht
    simp only [negGo] at h
    cases h1 : isT vals x with
    | true => rw [h1] at h; cases h
    | false =>
      rw [h1] at h
      exact ih h (by rw [setT_length]; exact hl) (tri_set ht _)
def rupP (vars : Int) (cls : List (List Int)) (c : List Int) : Bool := match negGo (zeroVals vars) c with
  | none => true
  | some v => decide ((propGo cls (zeros v + 1) v []).2.1 ≥ 0)
theorem rupP_ok {ex ex2 : Bool} {vars : Int} {cls : List (List Int)} {c : List Int} (hv : 0 ≤ vars ∧ vars ≤ 1000) (hcls : ClsOK vars cls) (hc : ∀ x ∈ c, litOK vars x) (hcl : c.length ≤ 1000000) :
    Ret Try.prog Γ 65 [.isl ex 1 (clsV cls), .int .i64 vars, .isl ex2 1 (ints c)] σ (.bool (rupP vars cls c)) σ := by
  obtain ⟨N, hN⟩ : ∃ N : Nat, vars + 1 = N := ⟨(vars + 1).toNat, by omega⟩
  generalize hR : negGo (zeroVals vars) c = R
  have hl0 := zeroVals_len hv.1
  refine ret_of c65_ok rfl ?_
  simp (disch := omega) only [c65, hN, go_sem]
  refine SRun.mkslR (n' := N) (m := N) rfl rfl rfl (Nat.le_refl _) (by omega) (by omega) ?_
  intro b7 hb7
  rw [zeroVals_flat hN]
  simp (disch := omega) only [go_sem]
  refine W_loopC (fun p : Nat × List Int => p.1 ≤ c.length ∧ (p.2.length : Int) = vars + 1 ∧ tri p.2 ∧ negGo p.2 (c.drop p.1) = R) (fun p => [(0, .isl ex 1 (clsV cls)), (1, .int .i64 vars), (2, .isl ex2 1 (ints c)), (7, .msl b7 1 0 N N), (8, .int .i64 p.1)])
    (fun p => upd σ b7 (ints p.2)) (fun p => c.length - p.1) (0, zeroVals vars) ⟨by omega, hl0, zeroVals_tri _, hR⟩ (by simp (disch := omega) only [subT, Int.natCast_add, Int.cast_ofNat_Int, go_sem] <;> (repeat' apply And.intro) <;> first | rfl | (congr 1; omega) | assumption) rfl ?_
  rintro ⟨i, vals⟩ ⟨hi, hl, ht, hgo⟩ ih
  dsimp only at hi hl ht hgo ⊢
  have hn : N = vals.length := by omega
  have hil : (ints vals).length = vals.length := ints_len _
  simp (disch := omega) only [go_sem]
  first | refine iteW_dec (fun hq => ?_) (fun hq => ?_) | refine iteW_of (fun hq => ?_) (fun hq => ?_)
  · have hx := hc _ (getD_mem 0 (by omega : i < c.length))
    rw [drop_cons 0 (by omega)] at hgo
    simp only [negGo] at hgo
    simp (disch := omega) only [go_sem]
    generalize hxe : c.getD i 0 = x at hx hgo ⊢
    have hx2 := hx.2
    have hcases := isT_test hx.1 (val_cases hl ht hx)
    have hget : (ints vals)[x.natAbs]? = some (.int .i64 (vals.getD x.natAbs 0)) := ints_get (getD_some 0 (by omega))
    refine SRun.callR (l01Abs_lit hx (by omega)) ⟨[], rfl, rfl⟩ rfl ?_
    simp (disch := omega) only [List.getD_cons_zero, List.getD_cons_succ, go_sem]
    simp (disch := omega) only [hget, hxe, go_sem]
    generalize vals.getD x.natAbs 0 = v at hcases ⊢
    first | refine guardW_dec (fun h1 => ?_) (fun h1 => ?_) | refine guardW_by (fun h1 => ?_) (fun h1 => ?_)
    · simp (disch := omega) only [h1, hxe, go_sem]
      first | refine iteW_dec (fun h2 => ?_) (fun h2 => ?_) | refine iteW_of (fun h2 => ?_) (fun h2 => ?_)
      · have e : isT vals x = true := by rw [hcases, decide_eq_true h1, h2]; simp
        rw [e] at hgo
        simp only [cond_true] at hgo
        simp (disch := omega) only [hxe, go_sem]
        refine W_retC c65_ok rfl (Conv.drop _ (le_upd hb7)) ⟨?_, rfl⟩
        simp only [look, ev, V.bool.injEq, V.int.injEq, V.str.injEq, V.tup.injEq, V.agg.injEq, V.isl.injEq, List.cons.injEq, true_and, and_true, Nat.reduceEqDiff, Nat.reduceAdd, Nat.reduceSub, Nat.reduceMul, Nat.reducePow, Nat.reduceDiv, Nat.reduceMod, Int.reduceToNat, Nat.reduceLeDiff, Nat.reduceLT, Int.reduceEq, Int.reduceLT, Int.reduceLE, Int.reduceGT, Int.reduceGE, Int.reduceNeg, Int.reduceSub, Int.reduceAdd, Int.reduceMul, Int.reducePow, ne_eq, reduceCtorEq, ↓reduceIte]
        simp [rupP, hR, ← hgo]
      · have e : isT vals x = false := by rw [hcases, beq_eq_false_iff_ne.2 h2, Bool.and_false]
        rw [e] at hgo
        simp only [cond_false] at hgo
        simp (disch := omega) only [hxe, go_sem]
        have hneg : (0 : Int) - x = -x := by omega
        rw [hneg]
        refine SRun.callR (l02Set_ok (vars := vars) (x := -x) (upd_same _ _ _) hn hl (litOK_neg hx) (by omega)) ⟨[], rfl, rfl⟩ rfl ?_
        simp (disch := omega) only [List.getD_cons_zero, List.getD_cons_succ, go_sem]
        refine ih (i + 1, setT vals (-x)) _ _ ⟨by simp only; omega, by simp only [setT_length]; exact hl, tri_set ht _, hgo⟩ (by simp only; omega) (by simp (disch := omega) only [subT, Int.natCast_add, Int.cast_ofNat_Int, go_sem] <;> (repeat' apply And.intro) <;> first | rfl | (congr 1; omega) | assumption) rfl
    · have e : isT vals x = false := by rw [hcases, decide_eq_false h1]; rfl
      rw [e] at hgo
      simp only [cond_false] at hgo
      have h1' : v = 0 := by omega
      simp (disch := omega) only [h1', hxe, go_sem]
      have hneg : (0 : Int) - x = -x := by omega
      rw [hneg]
      refine SRun.callR (l02Set_ok (vars := vars) (x := -x) (upd_same _ _ _) hn hl (litOK_neg hx) (by omega)) ⟨[], rfl, rfl⟩ rfl ?_
      simp (disch := omega) only [List.getD_cons_zero, List.getD_cons_succ, go_sem]
      refine ih (i + 1, setT vals (-x)) _ _ ⟨by simp only; omega, by simp only [setT_length]; exact hl, tri_set ht _, hgo⟩ (by simp only; omega) (by simp (disch := omega) only [subT, Int.natCast_add, Int.cast_ofNat_Int, go_sem] <;> (repeat' apply And.intro) <;> first | rfl | (congr 1; omega) | assumption) rfl
  · rw [List.drop_of_length_le (by omega)] at hgo
    simp only [negGo] at hgo
    simp (disch := omega) only [go_sem]
    first
    | refine SRun.callR (l02Run_ok (ex := ex) (upd_same σ b7 _) hn hl ht (by omega) hcls) ⟨[], rfl, rfl⟩ rfl ?_
      simp (disch := omega) only [go_sem]
      refine W_retC c65_ok rfl (Conv.drop _ (le_upd hb7)) ⟨?_, rfl⟩
      simp only [look, ev, V.bool.injEq, V.int.injEq, V.str.injEq, V.tup.injEq, V.agg.injEq, V.isl.injEq, List.cons.injEq, true_and, and_true, Nat.reduceEqDiff, Nat.reduceAdd, Nat.reduceSub, Nat.reduceMul, Nat.reducePow, Nat.reduceDiv, Nat.reduceMod, Int.reduceToNat, Nat.reduceLeDiff, Nat.reduceLT, Int.reduceEq, Int.reduceLT, Int.reduceLE, Int.reduceGT, Int.reduceGE, Int.reduceNeg, Int.reduceSub, Int.reduceAdd, Int.reduceMul, Int.reducePow, ne_eq, reduceCtorEq, ↓reduceIte]
      simp [rupP, hR, ← hgo]
    | refine SRun.callQ (l02Least_ok (ex := ex) (by omega) hcls (zeros vals + 1) _ vals b7 N N (by omega) (upd_same σ b7 _) hn hl ht) ⟨[], rfl, rfl⟩ rfl ?_
      rintro r s ⟨rfl, ⟨hs, rfl⟩ | ⟨v, hs, rfl⟩⟩
      · simp (disch := omega) only [go_sem]
        refine W_retC c65_ok rfl (Conv.drop _ (le_upd hb7)) ⟨?_, rfl⟩
        simp only [look, ev, V.bool.injEq, V.int.injEq, V.str.injEq, V.tup.injEq, V.agg.injEq, V.isl.injEq, List.cons.injEq, true_and, and_true, Nat.reduceEqDiff, Nat.reduceAdd, Nat.reduceSub, Nat.reduceMul, Nat.reducePow, Nat.reduceDiv, Nat.reduceMod, Int.reduceToNat, Nat.reduceLeDiff, Nat.reduceLT, Int.reduceEq, Int.reduceLT, Int.reduceLE, Int.reduceGT, Int.reduceGE, Int.reduceNeg, Int.reduceSub, Int.reduceAdd, Int.reduceMul, Int.reducePow, ne_eq, reduceCtorEq, ↓reduceIte]
        simp [rupP, hR, ← hgo, hs]
      · simp (disch := omega) only [go_sem]
        refine W_retC c65_ok rfl (Conv.drop _ (le_upd hb7)) ⟨?_, rfl⟩
        simp only [look, ev, V.bool.injEq, V.int.injEq, V.str.injEq, V.tup.injEq, V.agg.injEq, V.isl.injEq, List.cons.injEq, true_and, and_true, Nat.reduceEqDiff, Nat.reduceAdd, Nat.reduceSub, Nat.reduceMul, Nat.reducePow, Nat.reduceDiv, Nat.reduceMod, Int.reduceToNat, Nat.reduceLeDiff, Nat.reduceLT, Int.reduceEq, Int.reduceLT, Int.reduceLE, Int.reduceGT, Int.reduceGE, Int.reduceNeg, Int.reduceSub, Int.reduceAdd, Int.reduceMul, Int.reducePow, ne_eq, reduceCtorEq, ↓reduceIte]
        simp [rupP, hR, ← hgo, hs]
theorem specLeast_ok {vars : Int} {cls : List (List Int)} (hb : cnfB vars cls = true) :
    Ret Try.prog Γ 27 [cnfV vars cls] σ (.tup [boolsV (leastA (modelP vars cls)).1, .int .i64 (leastA (modelP vars cls)).2]) σ := by
  obtain ⟨hc, hv0, hv40, hcl⟩ := clsOK_of hb
  obtain ⟨N, hN⟩ : ∃ N : Nat, vars + 1 = N := ⟨(vars + 1).toNat, by omega⟩
  have hl0 := zeroVals_len hv0
  have hz0 : zeros (zeroVals vars) < vars.toNat + 2 := by
    have : zeros (zeroVals vars) ≤ ((zeroVals vars).drop 1).length := List.count_le_length
    simp only [List.length_drop] at this
    omega
  refine ret_of c27_ok rfl ?_
  simp (disch := omega) only [c27, cnfV, go_sem]
  refine SRun.boxR (by simp [ev, look, V.cells, V.one]) ?_
  intro b1 hb1
  simp (disch := omega) only [go_sem]
  refine SRun.callR (cnfOK_ok hb) ⟨[], rfl, rfl⟩ rfl ?_
  simp (disch := omega) only [go_sem]
  rw [W_draw]
  refine DRun.start (DRun.mixN rfl ?_)
  simp (disch := omega) only [hN, go_sem]
  refine DS.wrQ (WrF.mksl (n' := N) (m := N) rfl rfl rfl (Nat.le_refl _) (by omega) (by omega)) rfl ?_
  rintro r s ⟨b7, _, rfl, rfl⟩ hd
  have hb7 := disj_new hd
  have hn7 := upd_none.1 hb7
  simp (disch := omega) only [cup_new, go_sem]
  rw [zeroVals_flat hN]
  refine DRun.callQ (l02Least_ok (ex := false) (by omega) hc (vars.toNat + 2) _ (zeroVals vars) b7 N N hz0 (upd_same _ b7 _) (by omega) hl0 (zeroVals_tri _)) ⟨[], rfl, rfl⟩ ?_
  have hle : ∀ x, ∀ c y, σ c = some y → upd (upd σ b1 [.int .i64 vars, .isl false 1 (clsV cls)]) b7 x c = some y := fun x c y h => le_upd hb7 _ _ (le_upd hb1 _ _ h)
  rintro r s ⟨rfl, ⟨hs, rfl⟩ | ⟨v, hs, rfl⟩⟩
  · have hm : modelP vars cls = none := hs
    rw [hm]
    simp (disch := omega) only [go_sem]
    exact W_retC c27_ok (r := .tup [.isl true 1 [], .int .i64 6]) (r' := .tup [boolsV [], .int .i64 6]) rfl ⟨hle _, frz_tup (by exact ⟨frz_nil _ _, .refl _, trivial⟩)⟩ ⟨rfl, rfl⟩
  · have hm : modelP vars cls = some v := hs
    rw [hm]
    have hvl := (solveP_len hc _ _ _ hl0 (zeroVals_tri _) hs).1
    simp (disch := omega) only [intsV, go_sem]
    refine W_loopC (fun p : Nat × V × St => 1 ≤ p.1 ∧ p.1 ≤ v.length ∧ OwnL (upd (upd σ b1 [.int .i64 vars, .isl false 1 (clsV cls)]) b7 (ints (zeroVals vars))) 1 (bools ((valsB v).take (p.1 - 1))) p.2.1 p.2.2) (fun p => [(4, .isl false 1 (ints v)), (6, p.2.1), (7, .int .i64 p.1)])
      (fun p => p.2.2) (fun p => v.length - p.1) (1, _, _) ⟨by simp, by simp only; omega, OwnL.nil 1 1⟩ (by simp (disch := omega) only [subT, Int.natCast_add, Int.cast_ofNat_Int, go_sem] <;> (repeat' apply And.intro) <;> first | rfl | (congr 1; omega) | assumption) rfl ?_
    rintro ⟨i, r6, σ1⟩ ⟨h1, h2, ho⟩ ih
    dsimp only at h1 h2 ho ⊢
    simp (disch := omega) only [go_sem]
    first | refine iteW_dec (fun hq => ?_) (fun hq => ?_) | refine iteW_of (fun hq => ?_) (fun hq => ?_)
    · simp (disch := omega) only [go_sem]
      have hbl : (bools ((valsB v).take (i - 1))).length ≤ 1000 := by simp [bools, valsB]; omega
      refine SRun.appL ho rfl (by simp [V.cells, V.one]) (by simp only [List.length_cons, List.length_nil]; omega) ?_
      intro r σ4 ho4
      simp (disch := omega) only [go_sem]
      refine ih (i + 1, r, σ4) _ _ ⟨by simp only; omega, by simp only; omega, ?_⟩ (by simp only; omega) (by simp (disch := omega) only [subT, Int.natCast_add, Int.cast_ofNat_Int, go_sem] <;> (repeat' apply And.intro) <;> first | rfl | (congr 1; omega) | assumption) rfl
      have hlv : (valsB v).length = v.length - 1 := by simp [valsB]
      have e1 : (valsB v).getD (i - 1) false = (v.getD i 0 == 1) := by
        have : i - 1 + 1 = i := by omega
        have hi : i < v.length := by omega
        simp [valsB, List.getD, this, hi]
      have e2 : bools ((valsB v).take (i + 1 - 1)) = bools ((valsB v).take (i - 1)) ++ [.bool (decide (v.getD i 0 = 1))] := by
        rw [show i + 1 - 1 = (i - 1) + 1 by omega, take_succ false (by omega), e1, int_beq]; simp [bools]
      rw [e2]; exact ho4
    · have hlv : (valsB v).length = v.length - 1 := by simp [valsB]
      rw [List.take_of_length_le (by omega)] at ho
      simp (disch := omega) only [go_sem]
      refine W_retC c27_ok (r := .tup [r6, .int .i64 0]) (r' := .tup [boolsV (valsB v), .int .i64 0]) rfl ⟨fun c y h => ho.le _ _ (hle _ c y h), frz_tup (by
        refine ⟨ho.frz (fun _ _ => rfl) (fun b hb => ?_), .refl _, trivial⟩
        exact (upd_none.1 (upd_none.1 hb).2).2)⟩ ⟨rfl, rfl⟩
theorem isRup_ok {ex2 : Bool} {vars : Int} {cls : List (List Int)} {c : List Int} (hv : 0 ≤ vars ∧ vars ≤ 1000) (hcls : ClsOK vars cls) (hc : ∀ x ∈ c, litOK vars x) (hcl : c.length ≤ 1000000) :
    Ret Try.prog Γ 62 [cnfV vars cls, .isl ex2 1 (ints c)] σ (.bool (rupP vars cls c)) σ := by
  generalize hR : negGo (zeroVals vars) c = R
  have hl0 := zeroVals_len hv.1
  refine ret_of c62_ok rfl ?_
  simp (disch := omega) only [c62, cnfV, go_sem]
  refine SRun.boxR (by simp [ev, look, V.cells, V.one]) ?_
  intro b1 hb1
  simp (disch := omega) only [go_sem]
  refine SRun.callQ (newState_ok (vars := vars) (cls := cls) (by omega)) ⟨[], rfl, rfl⟩ rfl ?_
  intro r s1 hr
  obtain ⟨b, bv, rfl, ho⟩ := hr.o
  simp (disch := omega) only [go_sem]
  refine W_loopC (fun p : Nat × List Int × St => p.1 ≤ c.length ∧ (p.2.1.length : Int) = vars + 1 ∧ tri p.2.1 ∧ negGo p.2.1 (c.drop p.1) = R ∧ StO (upd σ b1 [.int .i64 vars, .isl false 1 (clsV cls)]) vars cls p.2.1 b bv p.2.2) (fun p => [(5, .ptr b 0), (12, .isl ex2 1 (ints c)), (13, .int .i64 c.length), (14, .int .i64 p.1)])
    (fun p => p.2.2) (fun p => c.length - p.1) (0, zeroVals vars, _) ⟨by simp, hl0, zeroVals_tri _, hR, ho⟩ (by simp (disch := omega) only [subT, Int.natCast_add, Int.cast_ofNat_Int, go_sem] <;> (repeat' apply And.intro) <;> first | rfl | (congr 1; omega) | assumption) rfl ?_
  rintro ⟨i, vals, σ1⟩ ⟨hi, hl, ht, hgo, ho1⟩ ih
  dsimp only at hi hl ht hgo ho1 ⊢
  have hst := ho1.at hl
  simp (disch := omega) only [go_sem]
  first | refine iteW_dec (fun hq => ?_) (fun hq => ?_) | refine iteW_of (fun hq => ?_) (fun hq => ?_)
  · have hx := hc _ (getD_mem 0 (by omega : i < c.length))
    rw [drop_cons 0 (by omega)] at hgo
    simp only [negGo] at hgo
    simp (disch := omega) only [go_sem]
    generalize hxe : c.getD i 0 = x at hx hgo ⊢
    have hx0 := hx.1
    have hx2 := hx.2
    have hneg : (0 : Int) - x = -x := by omega
    refine SRun.callR (is_ok hst hx2 (by omega)) ⟨[], rfl, rfl⟩ rfl ?_
    simp (disch := omega) only [List.getD_cons_zero, List.getD_cons_succ, go_sem]
    first | refine iteW_dec (fun h1 => ?_) (fun h1 => ?_) | refine iteW_of (fun h1 => ?_) (fun h1 => ?_)
    · rw [h1] at hgo
      simp only [cond_true] at hgo
      simp (disch := omega) only [go_sem]
      refine W_retC c62_ok rfl (Conv.drop _ fun c y h => ho1.le _ _ (le_upd hb1 _ _ h)) ⟨?_, rfl⟩
      simp only [look, ev, V.bool.injEq, V.int.injEq, V.str.injEq, V.tup.injEq, V.agg.injEq, V.isl.injEq, List.cons.injEq, true_and, and_true, Nat.reduceEqDiff, Nat.reduceAdd, Nat.reduceSub, Nat.reduceMul, Nat.reducePow, Nat.reduceDiv, Nat.reduceMod, Int.reduceToNat, Nat.reduceLeDiff, Nat.reduceLT, Int.reduceEq, Int.reduceLT, Int.reduceLE, Int.reduceGT, Int.reduceGE, Int.reduceNeg, Int.reduceSub, Int.reduceAdd, Int.reduceMul, Int.reducePow, ne_eq, reduceCtorEq, ↓reduceIte]
      simp [rupP, hR, ← hgo]
    · rw [h1] at hgo
      simp only [cond_false] at hgo
      simp (disch := omega) only [hneg, go_sem]
      refine SRun.callR (set_ok hst (x := -x) (by omega) (by omega)) ⟨[], rfl, rfl⟩ rfl ?_
      simp (disch := omega) only [List.getD_cons_zero, List.getD_cons_succ, go_sem]
      refine ih (i + 1, setT vals (-x), _) _ _ ⟨by simp only; omega, by simp only [setT_length]; exact hl, tri_set ht _, hgo, ho1.set (setT_length _ _)⟩ (by simp only; omega) (by simp (disch := omega) only [subT, Int.natCast_add, Int.cast_ofNat_Int, go_sem] <;> (repeat' apply And.intro) <;> first | rfl | (congr 1; omega) | assumption) rfl
  · rw [List.drop_of_length_le (by omega)] at hgo
    simp only [negGo] at hgo
    simp (disch := omega) only [go_sem]
    refine SRun.callR (propagate_frz hst (by omega) hcls ht) ⟨[], rfl, rfl⟩ rfl ?_
    simp (disch := omega) only [go_sem]
    have hk := (propGo_keeps hcls (zeros vals + 1) vals [] hl ht).1
    refine W_retC c62_ok rfl (Conv.drop _ fun c y h => (ho1.set (vals' := (propGo cls (zeros vals + 1) vals []).2.2) hk).le _ _ (le_upd hb1 _ _ h)) ⟨?_, rfl⟩
    simp only [look, ev, V.bool.injEq, V.int.injEq, V.str.injEq, V.tup.injEq, V.agg.injEq, V.isl.injEq, List.cons.injEq, true_and, and_true, Nat.reduceEqDiff, Nat.reduceAdd, Nat.reduceSub, Nat.reduceMul, Nat.reducePow, Nat.reduceDiv, Nat.reduceMod, Int.reduceToNat, Nat.reduceLeDiff, Nat.reduceLT, Int.reduceEq, Int.reduceLT, Int.reduceLE, Int.reduceGT, Int.reduceGE, Int.reduceNeg, Int.reduceSub, Int.reduceAdd, Int.reduceMul, Int.reducePow, ne_eq, reduceCtorEq, ↓reduceIte]
    simp [rupP, hR, ← hgo]
end Go.Proofs.Ytlojopaebdnacaa.Lg
