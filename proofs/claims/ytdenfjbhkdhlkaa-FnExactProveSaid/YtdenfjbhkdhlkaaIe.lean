/- The program's least model, refutation and proof, with what they hand out in new memory. -/
import Derived.Test.YtdenfjbhkdhlkaaId
set_option linter.unusedSimpArgs false
set_option linter.unusedVariables false
namespace Go.Proofs.Ytdenfjbhkdhlkaa.Lg
open Go
attribute [local irreducible] SRun DS DRun
variable {Γ : St} {σ σ0 : St}
set_option maxHeartbeats 1000000 in
theorem leastModel_own {vars : Int} {cls : List (List Int)} (hv : 0 ≤ vars ∧ vars ≤ 1000000) (hc : ClsOK vars cls) :
    ACalls Try.prog Γ 19 [cnfV vars cls] σ fun r s => (∀ c x, σ c = some x → s c = some x) ∧ ((modelP vars cls = none ∧ r = .tup [.isl true 0 [], .bool false]) ∨ ∃ v b, modelP vars cls = some v ∧ ((valsB v).length : Int) = vars ∧ r = .tup [.msl b 1 0 vars.toNat vars.toNat, .bool true] ∧ s b = some (bools (valsB v)) ∧ σ b = none) := by
  refine acalls_W c19_ok rfl ?_
  simp (disch := omega) only [c19, cnfV, go_sem]
  refine SRun.boxR (by simp [ev, look, V.cells, V.one]) ?_
  intro b1 hb1
  simp (disch := omega) only [go_sem]
  refine SRun.callQ (newState_ok (vars := vars) (cls := cls) (by omega)) ⟨[], rfl, rfl⟩ rfl ?_
  intro r s1 hr
  obtain ⟨b, bv, rfl, ho⟩ := hr.o
  simp (disch := omega) only [go_sem]
  have hz0 : zeros (zeroVals vars) < vars.toNat + 2 := by
    have := zeros_zeroVals hv.1
    omega
  have hl0 : ((zeroVals vars).length : Int) = vars + 1 := zeroVals_len hv.1
  have ht0 : tri (zeroVals vars) := zeroVals_tri vars
  refine SRun.callQ (solve_ok hv hc (vars.toNat + 2) _ _ (zeroVals vars) b bv hz0 hl0 ht0 ho) ⟨[], rfl, rfl⟩ rfl ?_
  rintro r s2 (⟨hn, rfl, rfl⟩ | ⟨v, hsome, hown⟩)
  · simp (disch := omega) only [go_sem]
    exact W_retR c19_ok rfl ⟨le_upd hb1, .inl ⟨hn, rfl⟩⟩
  · obtain ⟨hlv, htv⟩ := solveP_len hc _ _ _ hl0 ht0 hsome
    obtain ⟨b3, bv3, rfl, ho3⟩ := hown.o
    have hlv2 : (v.length : Int) = vars + 1 := by rw [hlv]; exact hl0
    have hst := ho3.at hlv2
    have hle : ∀ c x, σ c = some x → s2 c = some x := fun c x hc => ho3.le _ _ (le_upd hb1 _ _ hc)
    have hb1' := ho3.le _ _ (upd_same σ b1 _)
    have hvl : (valsB v).length = vars.toNat := by simp [valsB]; omega
    obtain ⟨N, hN⟩ : ∃ N : Nat, vars = N := ⟨vars.toNat, by omega⟩
    have hb1N : s2 b1 = some [.int .i64 (N : Int), .isl false 1 (clsV cls)] := by rw [← hN]; exact hb1'
    have hNt : vars.toNat = N := by omega
    rw [hNt] at hvl ⊢
    simp (disch := omega) only [hb1N, go_sem]
    refine SRun.mkslR (n' := N) (m := N) rfl rfl rfl (Nat.le_refl _) (by omega) (by omega) ?_
    intro b5 hb5
    obtain ⟨cap, hcap, hst0⟩ := hst.st'
    have hz : (List.replicate N [V.bool false]).flatten = partB v N 0 := by
      simp [partB, List.map_const']
    rw [hz]
    simp (disch := omega) only [go_sem]
    have hne3 : b3 ≠ b5 := fun e => by subst e; rw [hst0] at hb5; cases hb5
    have hnev : bv3 ≠ b5 := fun e => by subst e; rw [hst.vl] at hb5; cases hb5
    refine W_loopC (α := Nat) (fun i => i ≤ N) (fun i => [(4, .ptr b3 0), (5, .msl b5 1 0 N N), (16, .int .i64 N), (17, .int .i64 (i : Nat))]) (fun i => upd s2 b5 (partB v N i)) (fun i => N - i) 0 (by omega) (by simp (disch := omega) only [subT, Int.natCast_add, Int.cast_ofNat_Int, go_sem] <;> (repeat' apply And.intro) <;> first | rfl | (congr 1; omega) | assumption) rfl ?_
    intro i hi ih
    simp (disch := omega) only [go_sem]
    first | refine iteW_dec (fun hq => ?_) (fun hq => ?_) | refine iteW_of (fun hq => ?_) (fun hq => ?_)
    · have hlt : i < N := by omega
      have g3 : upd s2 b5 (partB v N i) b3 = some (stC vars cls bv3 v.length cap) := by rw [upd_ne _ _ hne3]; exact hst0
      have gv : upd s2 b5 (partB v N i) bv3 = some (ints v) := by rw [upd_ne _ _ hnev]; exact hst.vl
      have hlt2 : i + 1 < v.length := by omega
      have hget : (ints v)[((i : Int) + 1).toNat]? = some (.int .i64 v[i + 1]) := by rw [show ((i : Int) + 1).toNat = i + 1 by omega]; exact ints_get (by simp [hlt2])
      have c6 : (partB v N i).length = N := by simp [partB]
      have g5 := upd_same s2 b5 (partB v N i)
      simp (disch := omega) only [g3, gv, stC, hget, c6, g5, go_sem]
      rw [← beq_int, partB_set hlt (List.getElem?_eq_getElem hlt2)]
      exact ih (i + 1) _ _ (by omega) (by omega) (by simp (disch := omega) only [subT, Int.natCast_add, Int.cast_ofNat_Int, go_sem] <;> (repeat' apply And.intro) <;> first | rfl | (congr 1; omega) | assumption) rfl
    · obtain rfl : i = N := by omega
      rw [partB_all (by omega)]
      simp (disch := omega) only [go_sem]
      refine W_retR c19_ok rfl ⟨fun c x hc => le_upd hb5 _ _ (hle c x hc), .inr ⟨v, b5, hsome, by omega, rfl, upd_same _ _ _, none_of hle b5 hb5⟩⟩
theorem Refutation_own {vars : Int} {cls : List (List Int)} (hb : cnfB vars cls = true) :
    ACalls Try.prog Γ 20 [cnfV vars cls] σ fun r s => (∀ c x, σ c = some x → s c = some x) ∧ ∃ q qs, r = .tup [q, .int .i64 (refA vars cls).2] ∧ LLA σ 2 1 preS rowS (refA vars cls).1 q qs s := by
  obtain ⟨hc, hv0, hv40, hcl⟩ := clsOK_of hb
  have hz := zeros_zeroVals (vars := vars) (by omega)
  have ht := refP_top hv0 hc
  have hA := refA.eq_1 vars cls
  refine acalls_W c20_ok rfl ?_
  simp (disch := omega) only [c20, cnfV, go_sem]
  refine SRun.boxR (by simp [ev, look, V.cells, V.one]) ?_
  intro b1 hb1
  simp (disch := omega) only [go_sem]
  refine SRun.callR (isCnf_ok hc.1) ⟨[], rfl, rfl⟩ rfl ?_
  simp (disch := omega) only [hb, go_sem]
  refine SRun.boxR (by simp [ev, look, V.cells, V.one]) ?_
  intro b2 hb2
  have hle1 : ∀ c x, σ c = some x → upd σ b1 [.int .i64 vars, .isl false 1 (clsV cls)] c = some x := le_upd hb1
  have g1 : ∀ z, upd (upd σ b1 [.int .i64 vars, .isl false 1 (clsV cls)]) b2 z b1 = some [.int .i64 vars, .isl false 1 (clsV cls)] := fun z => le_upd hb2 _ _ (upd_same _ _ _)
  generalize upd σ b1 [.int .i64 vars, .isl false 1 (clsV cls)] = s1 at *
  simp (disch := omega) only [g1, go_sem]
  refine SRun.callQ (newState_ok (vars := vars) (cls := cls) (by omega)) ⟨[], rfl, rfl⟩ rfl ?_
  intro r s2 hr
  obtain ⟨b, bv, rfl, ho⟩ := hr.o
  simp (disch := omega) only [go_sem]
  have hro : RefL s1 vars cls (adds []) b2 (upd s1 b2 [.int .i64 vars, .isl false 1 (clsV cls), .isl true 0 []]) := ⟨.isl true 0 [], [], upd_same _ _ _, LLA.nil, (fun h => by cases h), (fun m hm => by cases hm), le_upd hb2, hb2⟩
  refine SRun.callQ (ACalls.pre (args := [.ptr b2 0, .ptr b 0, .isl true 0 []]) (args' := [.ptr b2 0, .ptr b 0, .isl false 1 (ints [])]) (fun _ _ h => h) rfl (frzL_get (by exact ⟨.refl _, .refl _, .isl0 _ _ _ _ (fun _ => rfl), trivial⟩)) (goOnL_ok (by omega) hc (vars.toNat + 2) _ _ s1 [] [] (zeroVals vars) b bv b2 (by show zeros (zeroVals vars) < _; omega) (by show 0 + zeros (zeroVals vars) ≤ 60; omega) (fun x hx => by cases hx) (zeroVals_len hv0) (zeroVals_tri vars) (zero0_zero vars hv0) (fun w _ => Iff.rfl) (by simp) hro ho)) ⟨[], rfl, rfl⟩ rfl ?_
  rintro _ s3 ⟨rfl, q, qs, hR⟩
  generalize refP vars cls (vars.toNat + 2) [] [] = R at *
  have g3 := hR.box
  have hle3 : ∀ c x, σ c = some x → s3 c = some x := fun c x h => hR.le c x (hle1 c x h)
  by_cases h0 : R.2 = 0
  · rw [h0] at hA
    simp only [beq_self_eq_true, cond_true] at hA
    simp (disch := omega) only [h0, g3, refC, go_sem]
    rw [hA]
    exact W_retR c20_ok rfl ⟨hle3, q, qs, rfl, hR.lla.less (none_of hle1)⟩
  · have h0' : (R.2 == 0) = false := by simpa using h0
    have h0d : (decide ¬ R.2 = 0) = true := decide_eq_true h0
    rw [h0'] at hA
    simp only [cond_false] at hA
    simp (disch := omega) only [h0d, go_sem]
    rw [hA]
    exact W_retR c20_ok rfl ⟨hle3, .isl true 0 [], [], rfl, LLA.nil⟩
/-- Truths at the beginning of a block. -/
def PreB (s : St) (bs : List Bool) (q : V) : Prop := (bs = [] ∧ ∃ es, q = .isl true es []) ∨ ∃ b cap rest, q = .msl b 1 0 bs.length cap ∧ s b = some (bools bs ++ bools rest)
/-- An answer in new memory. -/
structure AnsO (σ0 : St) (A : Ans) (qv q : V) (qs : List V) (s : St) : Prop where
  vals : PreB s A.vals qv
  vnew : ∀ b, blk qv = some b → σ0 b = none
  lla : LLA σ0 2 1 preS rowS A.steps q qs s
  ap : Apt qv q
  aps : ∀ m ∈ qs, Apt qv m
theorem PreB.one {s : St} {bs : List Bool} {q : V} (h : PreB s bs q) : q.one = true ∧ q.cells = [q] := by
  rcases h with ⟨_, _, rfl⟩ | ⟨_, _, _, rfl, _⟩ <;> exact ⟨rfl, rfl⟩
theorem AnsO.nil {s : St} {c : Int} {e1 e2 : Nat} {v : Bool} : AnsO σ0 ⟨v, [], [], c⟩ (.isl true e1 []) (.isl true e2 []) [] s :=
  ⟨.inl ⟨rfl, _, rfl⟩, (fun b h => by cases h), LLA.nil, (fun b h => by cases h), fun m hm => by cases hm⟩
theorem stepW_sl_mn3 {P : Program} {f : FuncId} {n : Nat} {Q : V → St → Prop} {g : GI} {l : List GI} {kk : List It} {T : Ts} (es b0 off len cap : Nat) (k2 k3 : IntKind) (b c : Int) (h0 : 0 ≤ b) (h1 : b ≤ c) (h2 : c ≤ cap) : stepW P Γ f n Q (.sl es (.c (.msl b0 es off len cap)) none (some (.c (.int k2 b))) (some (.c (.int k3 c)))) g l kk T σ = W P Γ f n Q (.ops l :: kk) (putT T g.d (.msl b0 es off b.toNat c.toNat)) σ := by
  rw [stepW_pure (fun _ => rfl)]; simp [pureW, pureI, ev, cutV, h0, h1, h2]
theorem ansE_bad {inp : Int} {e : Ex} (h : codeE inp e ≠ 0) : ansE inp e = ⟨false, [], [], codeE inp e⟩ := if_neg h
theorem ansE_fine {inp : Int} {e : Ex} (h : codeE inp e = 0) : ansE inp e = proveA inp.toNat (inp + (gsE inp e).length) (tsP inp (gsE inp e) (notP (liE inp e))) := if_pos h
set_option maxHeartbeats 1000000 in
theorem Prove_own {inp : Int} {e : Ex} (hsz : sizeE e ≤ 2000000) :
    ACalls Try.prog Γ 7 [.int .i64 inp, exV e] σ fun r s => (∀ c x, σ c = some x → s c = some x) ∧ ∃ qv q qs, r = .tup [.agg [.bool (ansE inp e).valid, qv, q], .int .i64 (ansE inp e).code] ∧ AnsO σ (ansE inp e) qv q qs s := by
  have B2 := fun Γ σ => proofFormulaA_ok (Γ := Γ) (σ := σ) (inp := inp) (e := e) hsz
  have he1 := exC_one e
  refine acalls_W c7_ok rfl ?_
  simp (disch := omega) only [c7, go_sem]
  refine SRun.boxR (by show ∀ c ∈ (exV e).cells, _; rw [cells_exV]; exact exC_one e) ?_
  intro b3 hb3
  have g3 := upd_same σ b3 (exC e)
  have hσ : ∀ d x, σ d = some x → upd σ b3 (exC e) d = some x := le_upd hb3
  simp (disch := omega) only [cells_exV, go_sem]
  generalize upd σ b3 (exC e) = s1 at *
  refine SRun.allocR ?_
  intro b4 hb4
  have hσ2 : ∀ d x, σ d = some x → d ≠ b4 ∧ upd s1 b4 [.bool false, .isl true 0 [], .isl true 0 []] d = some x := fun d x h => ⟨fun e => by (subst e; rw [hσ _ _ h] at hb4; cases hb4), le_upd hb4 _ _ (hσ _ _ h)⟩
  have g32 := le_upd (cs := [.bool false, .isl true 0 [], .isl true 0 []]) hb4 _ _ g3
  have g4 := upd_same s1 b4 [.bool false, .isl true 0 [], .isl true 0 []]
  generalize upd s1 b4 [.bool false, .isl true 0 [], .isl true 0 []] = s2 at *
  simp (disch := omega) only [g32, go_sem]
  refine SRun.callR (B2 _ _) ⟨[], rfl, rfl⟩ rfl ?_
  clear B2
  by_cases hc : codeE inp e = 0
  case neg =>
    have d0 : (decide ¬ codeE inp e = 0) = true := decide_eq_true hc
    rw [fE_bad hc, ansE_bad hc]
    simp (disch := omega) only [cnfV, go_sem]
    refine SRun.allocR ?_
    intro b6 hb6
    have g46 := le_upd (cs := [.int .i64 0, .isl false 1 (clsV [])]) hb6 _ _ g4
    simp (disch := omega) only [go_sem]
    simp (disch := omega) only [d0, g46, go_sem]
    exact W_retR c7_ok (resV_2A rfl (upd_same _ _ _) rfl) ⟨fun d y hd => by
      obtain ⟨h4, h1⟩ := hσ2 d y hd
      rw [upd_ne _ _ h4]; exact le_upd hb6 _ _ h1, _, _, _, rfl, AnsO.nil⟩
  have hB := built hc
  have hinp := hB.rng
  rw [fE_fine hc, ansE_fine hc]
  clear hB hc
  have hvar : inp ≤ inp + ((gsE inp e).length : Int) := by omega
  generalize hvv : inp + ((gsE inp e).length : Int) = vars at *
  generalize tsP inp (gsE inp e) (notP (liE inp e)) = cls at *
  have hP := proveA.eq_1 inp.toNat vars cls
  have hA := fA.eq_1 vars cls
  cases hq : cnfB vars cls with
  | false =>
    rw [hq, cond_false] at hP hA
    rw [hA, hP]
    simp (disch := omega) only [cnfV, go_sem]
    refine SRun.allocR ?_
    intro b6 hb6
    have g46 := le_upd (cs := [.int .i64 0, .isl false 1 (clsV [])]) hb6 _ _ g4
    simp (disch := omega) only [go_sem]
    simp (disch := omega) only [g46, go_sem]
    exact W_retR c7_ok (resV_2A rfl (upd_same _ _ _) rfl) ⟨fun d y hd => by
      obtain ⟨h4, h1⟩ := hσ2 d y hd
      rw [upd_ne _ _ h4]; exact le_upd hb6 _ _ h1, _, _, _, rfl, AnsO.nil⟩
  | true =>
    rw [hq, cond_true] at hP hA
    obtain ⟨hc, hv0, hv40, hcl⟩ := clsOK_of hq
    rw [hA]
    simp (disch := omega) only [cnfV, go_sem]
    refine SRun.allocR ?_
    intro b6 hb6
    have g46 := le_upd (cs := [.int .i64 vars, .isl false 1 (clsV cls)]) hb6 _ _ g4
    have hσ3 : ∀ d x, σ d = some x → d ≠ b4 ∧ upd s2 b6 [.int .i64 vars, .isl false 1 (clsV cls)] d = some x := fun d x h => ⟨(hσ2 d x h).1, le_upd hb6 _ _ (hσ2 d x h).2⟩
    simp (disch := omega) only [go_sem]
    have g6 := upd_same s2 b6 [.int .i64 vars, .isl false 1 (clsV cls)]
    generalize upd s2 b6 [.int .i64 vars, .isl false 1 (clsV cls)] = s3 at *
    refine SRun.callQ (leastModel_own (vars := vars) (cls := cls) (by omega) hc) ⟨[], rfl, rfl⟩ rfl ?_
    rintro _ s4 ⟨hle4, ⟨hm, rfl⟩ | ⟨v, bq, hm, hvl, rfl, hbq, hbn⟩⟩
    · rw [hm] at hP
      simp (disch := omega) only [hle4 _ _ g6, go_sem]
      refine SRun.callQ (Refutation_own hq) ⟨[], rfl, rfl⟩ rfl ?_
      rintro r s5 ⟨hle5, q, qs, rfl, hL⟩
      have g4e := hle5 _ _ (hle4 _ _ g46)
      have hfin : ∀ c d y, σ d = some y → upd s5 b4 c d = some y := fun c d y hd => by
        obtain ⟨h4, h1⟩ := hσ3 d y hd
        rw [upd_ne _ _ h4]; exact hle5 _ _ (hle4 _ _ h1)
      have hr0 := beq_int (refA vars cls).2 0
      generalize (refA vars cls).1 = steps at *
      generalize (refA vars cls).2 = rc at *
      simp (disch := omega) only [go_sem]
      by_cases h0 : rc = 0
      · have d0 : (decide ¬ rc = 0) = false := decide_eq_false (fun h => h h0)
        subst h0
        have hP2 : proveA inp.toNat vars cls = ⟨true, [], steps, 0⟩ := hP
        rw [hP2]
        have hq1 := hL.at_.one
        have hqc := hL.at_.cells
        simp (disch := omega) only [d0, g4e, hq1, hqc, go_sem]
        have hL2 : LLA σ 2 1 preS rowS steps q qs (upd s5 b4 [.bool true, .isl true 0 [], q]) := by
          have hL1 : LLA σ 2 1 preS rowS steps q qs s5 := hL.less (none_of fun d x hd => hle4 _ _ (hσ3 d x hd).2)
          exact hL1.to (fun b hb => upd_ne _ _ fun e => by subst e; have := hL.new _ hb; rw [hle4 _ _ g46] at this; cases this) (fun m hm b hb => upd_ne _ _ fun e => by subst e; have := hL.rows.new m hm _ hb; rw [hle4 _ _ g46] at this; cases this)
        exact W_retR c7_ok (resV_2A rfl (upd_same _ _ _) rfl) ⟨hfin _, _, _, _, rfl, ⟨.inl ⟨rfl, _, rfl⟩, (fun b h => by cases h), hL2, (fun b h => by cases h), fun m hm b h => by cases h⟩⟩
      · have d0 : (decide ¬ rc = 0) = true := decide_eq_true h0
        have hP2 : proveA inp.toNat vars cls = ⟨false, [], [], rc⟩ := by
          rw [hP]
          show (bif rc == 0 then _ else _) = _
          rw [hr0, decide_eq_false h0]; rfl
        rw [hP2]
        simp (disch := omega) only [d0, g4e, go_sem]
        exact W_retR c7_ok (resV_2A rfl (upd_same _ _ _) rfl) ⟨hfin _, _, _, _, rfl, AnsO.nil⟩
    · rw [hm] at hP
      rw [hP]
      have h4b : inp ≤ ((vars.toNat : Nat) : Int) := by omega
      have g44 := hle4 _ _ g46
      have n4 : bq ≠ b4 := fun e => by subst e; rw [g46] at hbn; cases hbn
      simp (disch := omega) only [stepW_sl_mn3, h4b, g44, go_sem]
      have hbt : bools (valsB v) = bools ((valsB v).take inp.toNat) ++ bools ((valsB v).drop inp.toNat) := by simp [bools, ← List.map_append]
      have hlt : ((valsB v).take inp.toNat).length = inp.toNat := by rw [List.length_take]; omega
      refine W_retR c7_ok (resV_2A rfl (upd_same _ _ _) rfl) ⟨fun d y hd => ?_, _, _, _, rfl, ⟨.inr ⟨bq, inp.toNat, (valsB v).drop inp.toNat, by rw [hlt], ?_⟩, fun b h => ?_, LLA.nil, (fun b _ h => by cases h), (fun m hm => by cases hm)⟩⟩
      · obtain ⟨h4, h1⟩ := hσ3 d y hd
        rw [upd_ne _ _ h4]; exact hle4 _ _ h1
      · rw [upd_ne _ _ n4, hbq, hbt]
      · simp only [blk, Option.some.injEq] at h
        subst h
        exact none_of (fun d x hd => (hσ3 d x hd).2) _ hbn
end Go.Proofs.Ytdenfjbhkdhlkaa.Lg
