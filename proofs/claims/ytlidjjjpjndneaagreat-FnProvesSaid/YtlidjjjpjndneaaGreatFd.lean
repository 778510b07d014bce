/- FnProves over its code. -/
import Derived.Test.YtlidjjjpjndneaaGreatFc
set_option linter.unusedSimpArgs false
set_option linter.unusedVariables false
namespace Go.Proofs.YtlidjjjpjndneaaGreat.Lg
open Go
attribute [local irreducible] SRun DS DRun
variable {Γ : St} {σ σ0 : St}
theorem refA_adds {vars : Int} {cls : List (List Int)} : ∀ s ∈ (refA vars cls).1, s.1 = false := by
  intro s hs
  rw [refA.eq_1] at hs
  cases h : (refP vars cls (vars.toNat + 2) [] []).2 == 0 with
  | true =>
    rw [h, cond_true] at hs
    simp only [adds, List.mem_map] at hs
    obtain ⟨x, _, rfl⟩ := hs
    rfl
  | false => rw [h, cond_false] at hs; cases hs
/-- What the answer says. -/
def Told (e : Ex) (vars : Int) (cls : List (List Int)) (A : Ans) : Prop := (A.code = 11 ∧ A.vals = [] ∧ A.steps = []) ∨ (A.code = 7 ∧ A.vals = [] ∧ A.steps = []) ∨
  (cnfB vars cls = true ∧ ∃ j, j < 16 ∧ A = ⟨false, hiP j 4, [], 0⟩ ∧ evE (hiP j 4) e = false ∧ ∀ i, i < 16 → evE (hiP i 4) e = false → j ≤ i) ∨
  (cnfB vars cls = true ∧ ∃ steps n, A = ⟨true, [], steps, 0⟩ ∧ steps.length ≤ 200 ∧ stepsB vars steps = true ∧ (∀ s ∈ steps, s.1 = false) ∧ checkP vars steps cls 0 = (n, 0) ∧ ∀ i, i < 16 → evE (hiP i 4) e = true)
theorem prove_told {e : Ex} {vars : Int} {cls : List (List Int)} (hv : 1 ≤ vars) (h : cnfB vars cls = true → (modelP vars cls = none → ∀ i, i < 16 → evE (hiP i 4) e = true) ∧
      ∀ v, modelP vars cls = some v → ∃ j, j < 16 ∧ hiP j 4 = (valsB v).take 4 ∧ evE (hiP j 4) e = false ∧ ∀ i, i < 16 → evE (hiP i 4) e = false → j ≤ i) : Told e vars cls (proveA vars cls) := by
  have hP := proveA.eq_1 vars cls
  cases hq : cnfB vars cls with
  | false =>
    rw [hq, cond_false] at hP
    rw [hP]
    exact .inl ⟨rfl, rfl, rfl⟩
  | true =>
    rw [hq, cond_true] at hP
    obtain ⟨h1, h2⟩ := h hq
    cases hm : modelP vars cls with
    | some v =>
      obtain ⟨j, hj, e1, e2, e3⟩ := h2 v hm
      rw [hm] at hP
      exact .inr (.inr (.inl ⟨hq, j, hj, by rw [hP, e1], e2, e3⟩))
    | none =>
      rw [hm] at hP
      have hl := refA_law hq hv
      rw [hm] at hl
      have hst := refA_steps hv (cl_of hq) (clsOK_of hq).2.2.2
      have had := refA_adds (vars := vars) (cls := cls)
      have hr0 := beq_int (refA vars cls).2 0
      generalize (refA vars cls).1 = steps at *
      generalize (refA vars cls).2 = rc at *
      rcases hl with (rfl | ⟨_, h6⟩) | ⟨rfl, _, hck⟩
      · refine .inr (.inl ?_)
        rw [hP]
        exact ⟨rfl, rfl, rfl⟩
      · cases h6
      · unfold checkA at hck
        cases hb : stepsB vars steps with
        | false => rw [hb, cond_false] at hck; have := congrArg Prod.snd hck; exact absurd this (by simp)
        | true =>
          rw [hb, cond_true] at hck
          exact .inr (.inr (.inr ⟨hq, steps, _, by rw [hP]; rfl, hst.1, hb, had, hck, h1 hm⟩))
set_option maxHeartbeats 1000000 in
theorem CheckAnswer_ok {e : Ex} {vars : Int} {cls : List (List Int)} {A : Ans} (he : ExD 6 e) (hF : ∀ Γ σ, Ret Tryz.prog Γ 13 [.int .i64 4, exV e] σ (fA vars cls) σ) (hv : 1 ≤ vars) (hT : Told e vars cls A) (h0 : A.code = 0) :
    Ret Tryz.prog Γ 9 [.int .i64 4, exV e, .agg [.bool A.valid, boolsV A.vals, .isl false 2 (stepsV A.steps)]] σ (.tup [.bool true, .int .i64 0]) σ := by
  have hA := fA.eq_1 vars cls
  have hm := he.most
  have hrt := he.right
  refine ret_of c9_ok rfl ?_
  simp (disch := omega) only [c9, go_sem]
  refine SRun.boxR (by show ∀ c ∈ (exV e).cells, _; rw [cells_exV]; exact exC_one e) ?_
  intro b4 hb4
  have g4 := upd_same σ b4 (exC e)
  have hσ : ∀ d x, σ d = some x → upd σ b4 (exC e) d = some x := le_upd hb4
  simp (disch := omega) only [cells_exV, go_sem]
  generalize upd σ b4 (exC e) = s1 at *
  refine SRun.boxR (by simp [ev, look, V.cells, V.one, boolsV]) ?_
  intro b5 hb5
  have g45 := le_upd (cs := [.bool A.valid, boolsV A.vals, .isl false 2 (stepsV A.steps)]) hb5 _ _ g4
  have g5 := upd_same s1 b5 [.bool A.valid, boolsV A.vals, .isl false 2 (stepsV A.steps)]
  have hσ2 : ∀ d x, σ d = some x → upd s1 b5 [.bool A.valid, boolsV A.vals, .isl false 2 (stepsV A.steps)] d = some x := fun d x h => le_upd hb5 _ _ (hσ _ _ h)
  simp (disch := omega) only [g45, go_sem]
  generalize upd s1 b5 [.bool A.valid, boolsV A.vals, .isl false 2 (stepsV A.steps)] = s2 at *
  refine SRun.callR (hF _ _) ⟨[], rfl, rfl⟩ rfl ?_
  rcases hT with ⟨h, _⟩ | ⟨h, _⟩ | ⟨hq, j, hj, rfl, hje, -⟩ | ⟨hq, steps, n, rfl, hsl, hsb, had, hck, -⟩
  · rw [h] at h0; cases h0
  · rw [h] at h0; cases h0
  all_goals
    rw [hq, cond_true] at hA
    rw [hA]
    simp (disch := omega) only [cnfV, go_sem]
    refine SRun.allocR ?_
    intro b8 hb8
    have g8 := upd_same s2 b8 [.int .i64 vars, .isl false 1 (clsV cls)]
    have g48 := le_upd (cs := [.int .i64 vars, .isl false 1 (clsV cls)]) hb8 _ _ g45
    have g58 := le_upd (cs := [.int .i64 vars, .isl false 1 (clsV cls)]) hb8 _ _ g5
    have hσ3 : ∀ d x, σ d = some x → upd s2 b8 [.int .i64 vars, .isl false 1 (clsV cls)] d = some x := fun d x h => le_upd hb8 _ _ (hσ2 _ _ h)
    simp (disch := omega) only [go_sem]
    generalize upd s2 b8 [.int .i64 vars, .isl false 1 (clsV cls)] = s3 at *
  · have hl4 : (bools (hiP j 4)).length = 4 := by simp [bools, hiP]
    have hs0 : (stepsV []).length = 0 := rfl
    have hlt : (hiP j 4).length = 4 := by simp [hiP]
    have hbj : evE (hiP j 4) e = false := hje
    simp (disch := omega) only [g58, g8, boolsV, hl4, hs0, go_sem]
    simp (disch := omega) only [g48, go_sem]
    refine SRun.callR (evalEx_ok (ex := false) (bs := hiP j 4) (by omega) e hrt (by omega)) ⟨[], rfl, rfl⟩ rfl ?_
    rw [hbj]
    simp (disch := omega) only [go_sem]
    exact W_retC c9_ok rfl (Conv.drop _ hσ3) ⟨rfl, rfl⟩
  · obtain ⟨hc, hv0, hv40, hcl⟩ := clsOK_of hq
    have hst : ∀ s ∈ steps, s.2.length ≤ 12 ∧ ∀ x ∈ s.2, litOK vars x := fun s hs => by
      simp only [stepsB, Bool.and_eq_true, List.all_eq_true] at hsb
      have := hsb.2 s hs
      simp only [stepB, clauseB, Bool.and_eq_true, decide_eq_true_eq, List.all_eq_true] at this
      exact ⟨this.1, fun x hx => litB_iff.1 (this.2 x hx)⟩
    have hb0 : (bools []).length = 0 := rfl
    simp (disch := omega) only [g58, g8, boolsV, hb0, go_sem]
    refine SRun.callR (areSteps_ok (ex := false) (st := steps) (vars := vars) (by omega) (by omega) (fun s hs => by have := (hst s hs).1; omega)) ⟨[], rfl, rfl⟩ rfl ?_
    rw [hsb]
    simp (disch := omega) only [g58, g8, go_sem]
    refine SRun.callR (checkProofN_ok (ex := false) (steps := steps) (by omega) (cl_of hq) hcl hst hsl had) ⟨[], rfl, rfl⟩ rfl ?_
    rw [hck]
    simp (disch := omega) only [go_sem]
    exact W_retC c9_ok rfl (Conv.drop _ hσ3) ⟨rfl, rfl⟩
set_option maxHeartbeats 2000000 in
theorem fnProves_ok {ex : Bool} {code : List UInt8} (hl1 : code.length ≤ 140737488355328) : Ret Tryz.prog Γ 3 [codeV ex code] σ (.bool true) σ := by
  refine ret_of c3_ok rfl ?_
  simp (disch := omega) only [c3, codeV, go_sem]
  first | refine iteW_dec (fun h2 => ?_) (fun h2 => ?_) | refine iteW_of (fun h2 => ?_) (fun h2 => ?_)
  · simp (disch := omega) only [go_sem]
    refine W_retR c3_ok rfl ⟨?_, rfl⟩
    simp only [look, ev, V.bool.injEq, V.int.injEq, V.str.injEq, V.tup.injEq, V.agg.injEq, V.isl.injEq, List.cons.injEq, true_and, and_true, Nat.reduceEqDiff, Nat.reduceAdd, Nat.reduceSub, Nat.reduceMul, Nat.reducePow, Nat.reduceDiv, Nat.reduceMod, Int.reduceToNat, Nat.reduceLeDiff, Nat.reduceLT, Int.reduceEq, Int.reduceLT, Int.reduceLE, Int.reduceGT, Int.reduceGE, Int.reduceNeg, Int.reduceSub, Int.reduceAdd, Int.reduceMul, Int.reducePow, ne_eq, reduceCtorEq, ↓reduceIte]
  simp (disch := omega) only [go_sem]
  refine SRun.callQ (ClaimOf_ok (ex := ex) (code := code) hl1) ⟨[], rfl, rfl⟩ rfl ?_
  rintro r s ⟨e, he, rfl, hs⟩
  obtain rfl := hs.symm
  have he1 := exC_one e
  simp (disch := omega) only [go_sem]
  refine SRun.allocR ?_
  intro b3 hb3
  simp (disch := omega) only [he1, sets_z3, go_sem]
  have hσ : ∀ d x, σ d = some x → upd σ b3 (exC e) d = some x := le_upd hb3
  have g3 : upd σ b3 (exC e) b3 = some (exC e) := upd_same _ _ _
  generalize upd σ b3 (exC e) = s1 at *
  obtain ⟨l, gs, hm, hgo, hgl, hlit, hn, hlaw⟩ := opposite_plain he
  have F1 := fun Γ σ => proofFormula_ok (Γ := Γ) (σ := σ) he hm hgo hgl hlit hn
  have F2 := fun Γ σ => l09Formula_ok (Γ := Γ) (σ := σ) he hm hgo hgl hlit hn
  have hlaw2 : cnfB (4 + gs.length) (tsP 4 gs (notP l)) = true → (modelP (4 + gs.length) (tsP 4 gs (notP l)) = none → ∀ i, i < 16 → evE (hiP i 4) e = true) ∧ ∀ v, modelP (4 + gs.length) (tsP 4 gs (notP l)) = some v → ∃ j, j < 16 ∧ hiP j 4 = (valsB v).take 4 ∧ evE (hiP j 4) e = false ∧ ∀ i, i < 16 → evE (hiP i 4) e = false → j ≤ i := fun h => ⟨(hlaw h).1, fun v hv => ((hlaw h).2 v hv).2⟩
  have hlen : cnfB (4 + gs.length) (tsP 4 gs (notP l)) = true → ∀ v, modelP (4 + gs.length) (tsP 4 gs (notP l)) = some v → 4 ≤ (valsB v).length := fun h v hv => by have := ((hlaw h).2 v hv).1; omega
  have hv4 : (4 : Int) ≤ 4 + gs.length := by omega
  clear hlaw
  generalize (4 : Int) + gs.length = vars at *
  generalize tsP 4 gs (notP l) = cls at *
  have hT := prove_told (by omega) hlaw2
  refine SRun.callR (Prove_ok F1 hv4 hlen) ⟨[], rfl, rfl⟩ rfl ?_
  have P2 := fun Γ σ => specProve_ok (Γ := Γ) (σ := σ) F2 hv4 hlen
  generalize proveA vars cls = A at *
  obtain ⟨hvl, hsl, hs12⟩ : A.vals.length ≤ 4 ∧ A.steps.length ≤ 200 ∧ ∀ s ∈ A.steps, s.2.length ≤ 12 := by
    rcases hT with ⟨_, h1, h2⟩ | ⟨_, h1, h2⟩ | ⟨_, j, _, rfl, _⟩ | ⟨_, steps, n, rfl, h1, h2, _⟩
    · rw [h1, h2]; simp
    · rw [h1, h2]; simp
    · exact ⟨by simp [hiP], by simp, by simp⟩
    · refine ⟨by simp, h1, fun s hs => ?_⟩
      simp only [stepsB, Bool.and_eq_true, List.all_eq_true] at h2
      have := h2.2 s hs
      simp only [stepB, clauseB, Bool.and_eq_true, decide_eq_true_eq] at this
      exact this.1
  simp (disch := omega) only [ansV, boolsV, go_sem]
  refine SRun.allocR ?_
  intro b4 hb4
  simp (disch := omega) only [go_sem]
  have k3 := le_upd (cs := [.bool A.valid, .isl false 1 (bools A.vals), .isl false 2 (stepsV A.steps)]) hb4 _ _ g3
  have k4 := upd_same s1 b4 [.bool A.valid, .isl false 1 (bools A.vals), .isl false 2 (stepsV A.steps)]
  have hσ2 : ∀ d x, σ d = some x → upd s1 b4 [.bool A.valid, .isl false 1 (bools A.vals), .isl false 2 (stepsV A.steps)] d = some x := fun d x h => le_upd hb4 _ _ (hσ _ _ h)
  generalize upd s1 b4 [.bool A.valid, .isl false 1 (bools A.vals), .isl false 2 (stepsV A.steps)] = s2 at *
  simp (disch := omega) only [k3, go_sem]
  refine SRun.callR (P2 _ _) ⟨[], rfl, rfl⟩ rfl ?_
  simp (disch := omega) only [ansV, boolsV, go_sem]
  refine SRun.allocR ?_
  intro b6 hb6
  simp (disch := omega) only [go_sem]
  have p3 := le_upd (cs := [.bool A.valid, .isl false 1 (bools A.vals), .isl false 2 (stepsV A.steps)]) hb6 _ _ k3
  have p4 := le_upd (cs := [.bool A.valid, .isl false 1 (bools A.vals), .isl false 2 (stepsV A.steps)]) hb6 _ _ k4
  have p6 := upd_same s2 b6 [.bool A.valid, .isl false 1 (bools A.vals), .isl false 2 (stepsV A.steps)]
  have hσ3 : ∀ d x, σ d = some x → upd s2 b6 [.bool A.valid, .isl false 1 (bools A.vals), .isl false 2 (stepsV A.steps)] d = some x := fun d x h => le_upd hb6 _ _ (hσ2 _ _ h)
  generalize upd s2 b6 [.bool A.valid, .isl false 1 (bools A.vals), .isl false 2 (stepsV A.steps)] = s3 at *
  have hcc : (decide ¬ A.code = A.code) = false := by simp
  have hvv : (!(A.valid == A.valid)) = false := by simp
  simp (disch := omega) only [hcc, hvv, p4, p6, beq_self_eq_true, Bool.not_true, go_sem]
  refine SRun.callR (sameBools_ok (ex := false) (ex2 := false) (xs := A.vals) (bs := A.vals) (by omega)) ⟨[], rfl, rfl⟩ rfl ?_
  simp (disch := omega) only [p4, p6, beq_self_eq_true, Bool.not_true, go_sem]
  refine SRun.callR (sameSteps_ok (ex := false) (ex2 := false) (xs := A.steps) (by omega) (fun s hs => by have := hs12 s hs; omega)) ⟨[], rfl, rfl⟩ rfl ?_
  have hCA := fun h0 Γ σ => CheckAnswer_ok (Γ := Γ) (σ := σ) (A := A) he F1 (by omega) hT h0
  have hbl : boolsV A.vals = .isl false 1 (bools A.vals) := rfl
  rw [hbl] at hCA
  clear hbl
  by_cases hc0 : A.code = 0
  case' neg =>
    have d0 : (decide ¬ A.code = 0) = true := decide_eq_true hc0
    simp (disch := omega) only [d0, go_sem]
    rcases hT with ⟨h, _⟩ | ⟨h, _⟩ | ⟨_, j, _, rfl, _⟩ | ⟨_, steps, n, rfl, _⟩
    · rw [h]
      simp (disch := omega) only [go_sem]
      exact W_retC c3_ok rfl (Conv.drop _ hσ3) ⟨rfl, rfl⟩
    · rw [h]
      simp (disch := omega) only [go_sem]
      exact W_retC c3_ok rfl (Conv.drop _ hσ3) ⟨rfl, rfl⟩
    · exact absurd rfl hc0
    · exact absurd rfl hc0
  case' pos =>
    have d0 : (decide ¬ A.code = 0) = false := decide_eq_false (fun h => h hc0)
    simp (disch := omega) only [d0, p3, p4, go_sem]
    refine SRun.callR (hCA hc0 _ _) ⟨[], rfl, rfl⟩ rfl ?_
    have hfact : (A.valid = false ∧ ∃ j, j < 16 ∧ A.vals = hiP j 4 ∧ evE (hiP j 4) e = false ∧ ∀ i, i < 16 → evE (hiP i 4) e = false → j ≤ i) ∨ (A.valid = true ∧ ∀ i, i < 16 → evE (hiP i 4) e = true) := by
      rcases hT with ⟨h, _⟩ | ⟨h, _⟩ | ⟨_, j, hj, rfl, h1, h2⟩ | ⟨_, steps, n, rfl, _, _, _, _, h1⟩
      · rw [h] at hc0; cases hc0
      · rw [h] at hc0; cases hc0
      · exact .inl ⟨rfl, j, hj, rfl, h1, h2⟩
      · exact .inr ⟨rfl, h1⟩
    have hok := he.ok6
    have hm1 := he.most
    simp (disch := omega) only [go_sem]
    refine W_loopC (α := Nat) (fun i => i ≤ 16 ∧ ∀ k, k < i → evE (hiP k 4) e = true) (fun i => [(3, .ptr b3 0), (4, .ptr b4 0), (10, .int .i64 (i : Nat))]) (fun _ => s3) (fun i => 16 - i) 0 ⟨by omega, fun k hk => by omega⟩ (by simp (disch := omega) only [subT, Int.natCast_add, Int.cast_ofNat_Int, go_sem] <;> (repeat' apply And.intro) <;> first | rfl | (congr 1; omega) | assumption) rfl ?_
    rintro i ⟨hi, hno⟩ ih
    simp (disch := omega) only [go_sem]
    first | refine iteW_dec (fun hq => ?_) (fun hq => ?_) | refine iteW_of (fun hq => ?_) (fun hq => ?_)
    · simp (disch := omega) only [go_sem]
      refine W_loopC (α := Nat × V × St) (fun p => p.1 ≤ 4 ∧ OwnL s3 1 (bools ((hiP i 4).take p.1)) p.2.1 p.2.2) (fun p => [(3, .ptr b3 0), (4, .ptr b4 0), (10, .int .i64 (i : Nat)), (11, p.2.1), (12, .int .i64 ((3 : Int) - p.1))]) (fun p => p.2.2) (fun p => 4 - p.1) (0, .isl true 1 [], s3) ⟨by simp, OwnL.nil _ _⟩ (by simp (disch := omega) only [subT, Int.natCast_add, Int.cast_ofNat_Int, go_sem] <;> (repeat' apply And.intro) <;> first | rfl | (congr 1; omega) | assumption) rfl ?_
      rintro ⟨t, r, s⟩ ⟨ht, ho⟩ ih2
      dsimp only at ht ho
      simp (disch := omega) only [go_sem]
      first | refine iteW_dec (fun hq2 => ?_) (fun hq2 => ?_) | refine iteW_of (fun hq2 => ?_) (fun hq2 => ?_)
      · have w2 := wrapU64 (a := (3 : Int) - t) (by omega) (by omega)
        have e3 : ((3 : Int) - t).toNat = 3 - t := by omega
        simp (disch := omega) only [w2, e3, go_sem]
        refine SRun.appL ho rfl (by simp [V.cells, V.one]) (by rw [bools_len]; simp only [List.length_take, List.length_singleton]; omega) ?_
        intro r2 s5 ho2
        have hap : bools ((hiP i 4).take t) ++ [.bool (decide (bitsV .and .i64 ((i : Int).fdiv (2 ^ min (3 - t) 64)) 1 = 1))] = bools ((hiP i 4).take (t + 1)) := by
          rw [take_succ false (by simp [hiP]; omega)]
          simp [bools, hiP, List.getD, (by omega : t < 4), bitP, beq_int]
        rw [hap] at ho2
        simp (disch := omega) only [go_sem]
        exact ih2 (t + 1, r2, s5) _ _ ⟨by simp only; omega, ho2⟩ (by simp only; omega) (by simp (disch := omega) only [subT, Int.natCast_add, Int.cast_ofNat_Int, go_sem] <;> (repeat' apply And.intro) <;> first | rfl | (congr 1; omega) | assumption) rfl
      · have hlt : (hiP i 4).length = 4 := by simp [hiP]
        have ht4 : t = 4 := by omega
        rw [ht4, List.take_of_length_le (by omega)] at ho
        have q3 := ho.get p3
        simp (disch := omega) only [q3, go_sem]
        refine SRun.freeze (T' := [(3, .ptr b3 0), (4, .ptr b4 0), (10, .int .i64 (i : Nat)), (11, .isl false 1 (bools (hiP i 4))), (95, exV e), (96, .isl false 1 (bools (hiP i 4)))]) (σ' := s3) ho.le ⟨.refl _, .refl _, .refl _, ho.conv.2, .refl _, ho.conv.2, trivial⟩ ?_
        refine SRun.callR (EvalExs_ok (e := e) (ex := false) (bs := hiP i 4) hok (by omega) (by omega)) ⟨[], rfl, rfl⟩ rfl ?_
        simp (disch := omega) only [List.getD_cons_zero, List.getD_cons_succ, go_sem]
        generalize hev : evE (hiP i 4) e = bv
        cases bv with
        | false =>
          rcases hfact with ⟨hvf, j, hj, hje, hjv, hjm⟩ | ⟨_, hall⟩
          · have hji := hjm i (by omega) hev
            have hij : ¬ j < i := fun h => by have := hno j h; rw [hjv] at this; cases this
            obtain rfl : j = i := by omega
            simp (disch := omega) only [p4, hvf, Bool.not_false, go_sem]
            refine SRun.callR (sameBools_ok (ex := false) (ex2 := false) (xs := A.vals) (bs := hiP j 4) (by omega)) ⟨[], rfl, rfl⟩ rfl ?_
            have hbe : (A.vals == hiP j 4) = true := by rw [hje]; simp
            simp (disch := omega) only [hbe, go_sem]
            exact W_retC c3_ok rfl (Conv.drop _ hσ3) ⟨rfl, rfl⟩
          · have := hall i (by omega)
            rw [hev] at this; cases this
        | true =>
          simp (disch := omega) only [go_sem]
          refine ih (i + 1) _ _ ⟨by omega, fun k hk => ?_⟩ (by omega) (by simp (disch := omega) only [subT, Int.natCast_add, Int.cast_ofNat_Int, go_sem] <;> (repeat' apply And.intro) <;> first | rfl | (congr 1; omega) | assumption) rfl
          by_cases hki : k = i
          · subst hki; exact hev
          · exact hno k (by omega)
    · rcases hfact with ⟨_, j, hj, _, hjv, _⟩ | ⟨hvt, _⟩
      · have := hno j (by omega)
        rw [hjv] at this; cases this
      · simp (disch := omega) only [p4, hvt, go_sem]
        exact W_retC c3_ok rfl (Conv.drop _ hσ3) ⟨rfl, rfl⟩
end Go.Proofs.YtlidjjjpjndneaaGreat.Lg
