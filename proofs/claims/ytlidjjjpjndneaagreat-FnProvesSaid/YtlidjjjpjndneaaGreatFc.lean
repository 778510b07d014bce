/- Formulas of opposites; what is answered of an expression. -/
import Derived.Test.YtlidjjjpjndneaaGreatFb
set_option linter.unusedSimpArgs false
set_option linter.unusedVariables false
namespace Go.Proofs.YtlidjjjpjndneaaGreat.Lg
open Go
attribute [local irreducible] SRun DS DRun
variable {Γ : St} {σ σ0 : St}
theorem ClaimOf_ok {ex : Bool} {code : List UInt8} (hl : code.length ≤ 140737488355328) : ACalls Tryz.prog Γ 4 [codeV ex code] σ fun r σ' => ∃ e, ExD 6 e ∧ r = exV e ∧ σ' = σ := by
  refine acalls_W c4_ok rfl ?_
  simp (disch := omega) only [c4, go_sem]
  refine SRun.allocR ?_
  intro b2 hb2
  simp (disch := omega) only [go_sem]
  refine SRun.callQ (source_ok hl) ⟨[], rfl, rfl⟩ rfl ?_
  rintro r σ1 ⟨b, s, hb, hs1, hs2, rfl, rfl⟩
  have nb := upd_none.1 hb
  simp (disch := omega) only [go_sem]
  refine SRun.callQ (claim_ok (upd_same _ _ _) (by omega) ⟨hs1, hs2⟩) ⟨[], rfl, rfl⟩ rfl ?_
  rintro r σ2 ⟨e, c', he, rfl, rfl⟩
  rw [upd_upd]
  have g2 : ∀ c, upd (upd σ b2 [.int .i64 0, .int .i64 0, .isl true 0 []]) b c b2 = some [.int .i64 0, .int .i64 0, .isl true 0 []] := fun c => by rw [upd_ne _ _ nb.1.symm, upd_same]
  have h1 := exC_one e
  simp (disch := omega) only [g2, h1, sets_z3, go_sem]
  refine W_retC c4_ok (r := exV e) (σ' := σ) (r' := exV e) (by rw [← agg_exC]; exact resV_cellA rfl (upd_same _ _ _) (exC_len e).symm) (Conv.drop _ fun c x hc => ?_) ⟨e, he, rfl, rfl⟩
  have hc2 : c ≠ b2 := fun e => by subst e; rw [hb2] at hc; cases hc
  have hcb : c ≠ b := fun e => by subst e; rw [nb.2] at hc; cases hc
  rw [upd_ne _ _ hc2, upd_ne _ _ hcb, upd_ne _ _ hc2]; exact hc
def fA (vars : Int) (cls : List (List Int)) : V := bif cnfB vars cls then .tup [cnfV vars cls, .int .i64 0] else .tup [cnfV 0 [], .int .i64 11]
theorem tsA_fA (gs : List (Int × Int)) (x : Int) : tsA 4 gs x = fA (4 + gs.length) (tsP 4 gs x) := rfl
set_option maxHeartbeats 1000000 in
theorem proofFormula_ok {e : Ex} {l : Int} {gs : List (Int × Int)} (he : ExD 6 e) (hm : makeL 4 [e] [] = ([l], gs)) (hgo : GatesOK 4 gs) (hgl : gs.length ≤ 400) (hlit : LitOK 4 gs l) (hn : LitOK 4 gs (notP l)) :
    Ret Tryz.prog Γ 13 [.int .i64 4, exV e] σ (fA (4 + gs.length) (tsP 4 gs (notP l))) σ := by
  have B2 := fun Γ σ => buildAig_ok (Γ := Γ) (σ := σ) (inp := 4) (by omega) (ex := true) he.fit6
  rw [hm] at B2
  have hx := xor1 (y := l) hlit.1 (by have := hlit.2; omega)
  have he1 := exC_one e
  refine ret_of c13_ok rfl ?_
  simp (disch := omega) only [c13, go_sem]
  refine SRun.boxR (by show ∀ c ∈ (exV e).cells, _; rw [cells_exV]; exact exC_one e) ?_
  intro b3 hb3
  have g3 := upd_same σ b3 (exC e)
  have hσ : ∀ d x, σ d = some x → upd σ b3 (exC e) d = some x := le_upd hb3
  simp (disch := omega) only [cells_exV, go_sem]
  generalize upd σ b3 (exC e) = s1 at *
  refine SRun.allocR ?_
  intro b4 hb4
  have hσ2 : ∀ d x, σ d = some x → d ≠ b4 ∧ upd s1 b4 [.int .i64 0, .isl true 0 []] d = some x := fun d x h => ⟨fun e => by (subst e; rw [hσ _ _ h] at hb4; cases hb4), le_upd hb4 _ _ (hσ _ _ h)⟩
  have g32 := le_upd (cs := [.int .i64 0, .isl true 0 []]) hb4 _ _ g3
  have g4 := upd_same s1 b4 [.int .i64 0, .isl true 0 []]
  generalize upd s1 b4 [.int .i64 0, .isl true 0 []] = s2 at *
  simp (disch := omega) only [g32, go_sem]
  refine SRun.callR (B2 _ _) ⟨[], rfl, rfl⟩ rfl ?_
  simp (disch := omega) only [aigV, go_sem]
  refine SRun.allocR ?_
  intro b6 hb6
  simp (disch := omega) only [go_sem]
  have hσ3 : ∀ d x, σ d = some x → d ≠ b4 ∧ upd s2 b6 [.int .i64 4, .isl false 2 (gsV gs)] d = some x := fun d x h => ⟨(hσ2 d x h).1, le_upd hb6 _ _ (hσ2 d x h).2⟩
  have g6 := upd_same s2 b6 [.int .i64 4, .isl false 2 (gsV gs)]
  have g46 := le_upd (cs := [.int .i64 4, .isl false 2 (gsV gs)]) hb6 _ _ g4
  generalize upd s2 b6 [.int .i64 4, .isl false 2 (gsV gs)] = s3 at *
  refine W_drawW ?_
  have hl1 : ([l] : List Int).length = 1 := rfl
  have hl0 : ([l] : List Int).getD (0 : Int).toNat 0 = l := rfl
  have hl2 : ([l] : List Int).getD 0 0 = l := rfl
  simp (disch := omega) only [g6, intsV, hl1, hl0, hl2, hx, go_sem]
  refine DRun.callQ (Tseitin_ok (inp := 4) (by omega) hgl hgo hn) ⟨[], rfl, rfl⟩ ?_
  rintro r s ⟨rfl, hs⟩
  obtain rfl := hs.symm
  rw [tsA_fA]
  generalize (4 : Int) + gs.length = vars at *
  generalize tsP 4 gs (notP l) = cls at *
  have hA := fA.eq_1 vars cls
  generalize hq : cnfB vars cls = qq at *
  have hfin : ∀ c, ∀ d y, σ d = some y → upd s3 b4 c d = some y := fun c d y hd => by
    obtain ⟨h4, h1⟩ := hσ3 d y hd
    rw [upd_ne _ _ h4]; exact h1
  cases qq with
  | true =>
    rw [cond_true] at hA
    rw [hA]
    simp (disch := omega) only [g46, cnfV, go_sem]
    exact W_retC c13_ok (r := .tup [.agg [.int .i64 vars, .isl false 1 (clsV cls)], .int .i64 0]) (σ' := σ) (resV_2 rfl (upd_same _ _ _) rfl) (Conv.drop _ (hfin _)) ⟨rfl, rfl⟩
  | false =>
    rw [cond_false] at hA
    rw [hA]
    simp (disch := omega) only [g46, cnfV, go_sem]
    exact W_retC c13_ok (r := .tup [.agg [.int .i64 0, .isl false 1 (clsV [])], .int .i64 11]) (σ' := σ) (resV_2 rfl (upd_same _ _ _) rfl) (Conv.drop _ (hfin _)) ⟨rfl, rfl⟩
set_option maxHeartbeats 1000000 in
theorem l09Formula_ok {e : Ex} {l : Int} {gs : List (Int × Int)} (he : ExD 6 e) (hm : makeL 4 [e] [] = ([l], gs)) (hgo : GatesOK 4 gs) (hgl : gs.length ≤ 400) (hlit : LitOK 4 gs l) (hn : LitOK 4 gs (notP l)) :
    Ret Tryz.prog Γ 16 [.int .i64 4, exV e] σ (fA (4 + gs.length) (tsP 4 gs (notP l))) σ := by
  have B2 := fun Γ σ => BuildAigs_ok (Γ := Γ) (σ := σ) (inp := 4) (by omega) (ex := true) he.fit6
  rw [hm] at B2
  have hx := xor1 (y := l) hlit.1 (by have := hlit.2; omega)
  have he1 := exC_one e
  refine ret_of c16_ok rfl ?_
  simp (disch := omega) only [c16, go_sem]
  refine SRun.boxR (by show ∀ c ∈ (exV e).cells, _; rw [cells_exV]; exact exC_one e) ?_
  intro b3 hb3
  have g3 := upd_same σ b3 (exC e)
  have hσ : ∀ d x, σ d = some x → upd σ b3 (exC e) d = some x := le_upd hb3
  simp (disch := omega) only [cells_exV, go_sem]
  generalize upd σ b3 (exC e) = s1 at *
  refine SRun.allocR ?_
  intro b4 hb4
  have hσ2 : ∀ d x, σ d = some x → d ≠ b4 ∧ upd s1 b4 [.int .i64 0, .isl true 0 []] d = some x := fun d x h => ⟨fun e => by (subst e; rw [hσ _ _ h] at hb4; cases hb4), le_upd hb4 _ _ (hσ _ _ h)⟩
  have g32 := le_upd (cs := [.int .i64 0, .isl true 0 []]) hb4 _ _ g3
  have g4 := upd_same s1 b4 [.int .i64 0, .isl true 0 []]
  generalize upd s1 b4 [.int .i64 0, .isl true 0 []] = s2 at *
  simp (disch := omega) only [g32, go_sem]
  refine SRun.callR (B2 _ _) ⟨[], rfl, rfl⟩ rfl ?_
  simp (disch := omega) only [aigV, go_sem]
  refine SRun.allocR ?_
  intro b6 hb6
  simp (disch := omega) only [go_sem]
  have hσ3 : ∀ d x, σ d = some x → d ≠ b4 ∧ upd s2 b6 [.int .i64 4, .isl false 2 (gsV gs)] d = some x := fun d x h => ⟨(hσ2 d x h).1, le_upd hb6 _ _ (hσ2 d x h).2⟩
  have g6 := upd_same s2 b6 [.int .i64 4, .isl false 2 (gsV gs)]
  have g46 := le_upd (cs := [.int .i64 4, .isl false 2 (gsV gs)]) hb6 _ _ g4
  generalize upd s2 b6 [.int .i64 4, .isl false 2 (gsV gs)] = s3 at *
  refine W_drawW ?_
  refine DRun.mixE rfl ?_
  have hl1 : ([l] : List Int).length = 1 := rfl
  have hl0 : ([l] : List Int).getD (0 : Int).toNat 0 = l := rfl
  have hl2 : ([l] : List Int).getD 0 0 = l := rfl
  simp (disch := omega) only [g6, intsV, hl1, hl0, hl2, hx, go_sem]
  refine DS.callB (l04Not_ok (x := l) ⟨hlit.1, by have := hlit.2; omega⟩) ⟨[], rfl, rfl⟩ rfl rfl ?_
  simp (disch := omega) only [go_sem]
  refine DRun.callQ (Tseitins_ok (inp := 4) (by omega) hgl hgo hn) ⟨[], rfl, rfl⟩ ?_
  rintro r s ⟨rfl, hs⟩
  obtain rfl := hs.symm
  rw [tsA_fA]
  generalize (4 : Int) + gs.length = vars at *
  generalize tsP 4 gs (notP l) = cls at *
  have hA := fA.eq_1 vars cls
  generalize hq : cnfB vars cls = qq at *
  have hfin : ∀ c, ∀ d y, σ d = some y → upd s3 b4 c d = some y := fun c d y hd => by
    obtain ⟨h4, h1⟩ := hσ3 d y hd
    rw [upd_ne _ _ h4]; exact h1
  cases qq with
  | true =>
    rw [cond_true] at hA
    rw [hA]
    simp (disch := omega) only [g46, cnfV, go_sem]
    exact W_retC c16_ok (r := .tup [.agg [.int .i64 vars, .isl false 1 (clsV cls)], .int .i64 0]) (σ' := σ) (resV_2 rfl (upd_same _ _ _) rfl) (Conv.drop _ (hfin _)) ⟨rfl, rfl⟩
  | false =>
    rw [cond_false] at hA
    rw [hA]
    simp (disch := omega) only [g46, cnfV, go_sem]
    exact W_retC c16_ok (r := .tup [.agg [.int .i64 0, .isl false 1 (clsV [])], .int .i64 11]) (σ' := σ) (resV_2 rfl (upd_same _ _ _) rfl) (Conv.drop _ (hfin _)) ⟨rfl, rfl⟩
theorem stepW_sl_in3 {P : Program} {Γ : St} {f : FuncId} {n : Nat} {Q : V → St → Prop} {g : GI} {l : List GI} {kk : List It} {T : Ts} {σ : St} (ex : Bool) (es : Nat) (xs : List V) (k2 k3 : IntKind) (b c : Int) (h0 : 0 ≤ b) (h1 : b ≤ c) (h2 : c ≤ xs.length) : stepW P Γ f n Q (.sl es (.c (.isl ex es xs)) none (some (.c (.int k2 b))) (some (.c (.int k3 c)))) g l kk T σ = W P Γ f n Q (.ops l :: kk) (putT T g.d (.isl (decide (b = c)) es (xs.take b.toNat))) σ := by
  rw [stepW_pure (fun _ => rfl)]; simp [pureW, pureI, ev, cutV, h0, h1, h2]
def ansV (a : Ans) : V := .tup [.agg [.bool a.valid, boolsV a.vals, .isl false 2 (stepsV a.steps)], .int .i64 a.code]
theorem resV_2A {T : Ts} {a nn b p : Nat} {cs : List V} (h : look T a = .ptr b 0) (hb : σ b = some cs) (hl : nn = cs.length) : resV [.cell a true nn, .t p] T σ = some (.tup [.agg cs, look T p]) := by
  subst hl
  simp [resV, resV1, h, hb]
theorem ans_none {s s' : St} {c : Int} : Frz s s' (.tup [.agg [.bool false, .isl true 0 [], .isl true 0 []], .int .i64 c]) (ansV ⟨false, [], [], c⟩) :=
  frz_tup (by exact ⟨frz_agg (by exact ⟨.refl _, frz_nil _ _, frz_nil _ _, trivial⟩) (by simp [V.one, boolsV]), .refl _, trivial⟩)
theorem beq_int (a b : Int) : (a == b) = decide (a = b) := by by_cases h : a = b <;> simp [h]
set_option maxHeartbeats 1000000 in
theorem Prove_ok {e : Ex} {vars : Int} {cls : List (List Int)} (hF : ∀ Γ σ, Ret Tryz.prog Γ 13 [.int .i64 4, exV e] σ (fA vars cls) σ) (hv : 4 ≤ vars) (hlen : cnfB vars cls = true → ∀ v, modelP vars cls = some v → 4 ≤ (valsB v).length) :
    Ret Tryz.prog Γ 5 [.int .i64 4, exV e] σ (ansV (proveA vars cls)) σ := by
  have hP := proveA.eq_1 vars cls
  have hA := fA.eq_1 vars cls
  refine ret_of c5_ok rfl ?_
  simp (disch := omega) only [c5, go_sem]
  refine SRun.boxR (by show ∀ c ∈ (exV e).cells, _; rw [cells_exV]; exact exC_one e) ?_
  intro b3 hb3
  have g3 := upd_same σ b3 (exC e)
  have hσ : ∀ d x, σ d = some x → upd σ b3 (exC e) d = some x := le_upd hb3
  simp (disch := omega) only [cells_exV, go_sem]
  generalize upd σ b3 (exC e) = s1 at *
  refine SRun.allocR ?_
  intro b4 hb4
  have hσ2 : ∀ d x, σ d = some x → d ≠ b4 ∧ upd s1 b4 [.bool false, .isl true 0 [], .isl true 0 []] d = some x := fun d x h => ⟨fun e => by (subst e; rw [hσ _ _ h] at hb4; cases hb4), le_upd hb4 _ _ (hσ _ _ h)⟩
  have g32 := le_upd (cs := [.bool false, .isl true 0 [], .isl true 0 []]) hb4 _ _ g3
  have g4 := upd_same s1 b4 [.bool false, .isl true 0 [], .isl true 0 []]
  generalize upd s1 b4 [.bool false, .isl true 0 [], .isl true 0 []] = s2 at *
  simp (disch := omega) only [g32, go_sem]
  refine SRun.callR (hF _ _) ⟨[], rfl, rfl⟩ rfl ?_
  cases hq : cnfB vars cls with
  | false =>
    rw [hq, cond_false] at hP hA
    rw [hA, hP]
    simp (disch := omega) only [cnfV, go_sem]
    refine SRun.allocR ?_
    intro b6 hb6
    have g46 := le_upd (cs := [.int .i64 0, .isl false 1 (clsV [])]) hb6 _ _ g4
    simp (disch := omega) only [go_sem]
    simp (disch := omega) only [g46, go_sem]
    exact W_retC c5_ok (r := .tup [.agg [.bool false, .isl true 0 [], .isl true 0 []], .int .i64 11]) (r' := ansV ⟨false, [], [], 11⟩) (σ' := σ) (resV_2A rfl (upd_same _ _ _) rfl) ⟨fun d y hd => by
      obtain ⟨h4, h1⟩ := hσ2 d y hd
      rw [upd_ne _ _ h4]; exact le_upd hb6 _ _ h1, ans_none⟩ ⟨rfl, rfl⟩
  | true =>
    rw [hq, cond_true] at hP hA
    obtain ⟨hc, hv0, hv40, hcl⟩ := clsOK_of hq
    rw [hA]
    simp (disch := omega) only [cnfV, go_sem]
    refine SRun.allocR ?_
    intro b6 hb6
    have g46 := le_upd (cs := [.int .i64 vars, .isl false 1 (clsV cls)]) hb6 _ _ g4
    have hσ3 : ∀ d x, σ d = some x → d ≠ b4 ∧ upd s2 b6 [.int .i64 vars, .isl false 1 (clsV cls)] d = some x := fun d x h => ⟨(hσ2 d x h).1, le_upd hb6 _ _ (hσ2 d x h).2⟩
    simp (disch := omega) only [go_sem]
    have g6 := upd_same s2 b6 [.int .i64 vars, .isl false 1 (clsV cls)]
    generalize upd s2 b6 [.int .i64 vars, .isl false 1 (clsV cls)] = s3 at *
    refine SRun.callQ (leastModel_ok (vars := vars) (cls := cls) (by omega) hc) ⟨[], rfl, rfl⟩ rfl ?_
    have hfin : ∀ c, ∀ d y, σ d = some y → upd s3 b4 c d = some y := fun c d y hd => by
      obtain ⟨h4, h1⟩ := hσ3 d y hd
      rw [upd_ne _ _ h4]; exact h1
    rintro _ _ ⟨rfl, ⟨hm, rfl⟩ | ⟨v, hm, rfl⟩⟩
    · rw [hm] at hP
      simp (disch := omega) only [g6, go_sem]
      refine SRun.callR (Refutation_ok hq (by omega)) ⟨[], rfl, rfl⟩ rfl ?_
      have hr0 := beq_int (refA vars cls).2 0
      generalize (refA vars cls).1 = steps at *
      generalize (refA vars cls).2 = rc at *
      simp (disch := omega) only [go_sem]
      by_cases h0 : rc = 0
      · have d0 : (decide ¬ rc = 0) = false := decide_eq_false (fun h => h h0)
        subst h0
        rw [hP]
        simp (disch := omega) only [d0, g46, go_sem]
        exact W_retC c5_ok (r := .tup [.agg [.bool true, .isl true 0 [], .isl false 2 (stepsV steps)], .int .i64 0]) (r' := ansV ⟨true, [], steps, 0⟩) (σ' := σ) (resV_2A rfl (upd_same _ _ _) rfl) ⟨hfin _, frz_tup (by exact ⟨frz_agg (by exact ⟨.refl _, frz_nil _ _, .refl _, trivial⟩) (by simp [V.one, boolsV]), .refl _, trivial⟩)⟩ ⟨rfl, rfl⟩
      · have d0 : (decide ¬ rc = 0) = true := decide_eq_true h0
        have hP2 : proveA vars cls = ⟨false, [], [], rc⟩ := by
          rw [hP]
          show (bif rc == 0 then _ else _) = _
          rw [hr0, decide_eq_false h0]; rfl
        rw [hP2]
        simp (disch := omega) only [d0, g46, go_sem]
        exact W_retC c5_ok (r := .tup [.agg [.bool false, .isl true 0 [], .isl true 0 []], .int .i64 rc]) (r' := ansV ⟨false, [], [], rc⟩) (σ' := σ) (resV_2A rfl (upd_same _ _ _) rfl) ⟨hfin _, ans_none⟩ ⟨rfl, rfl⟩
    · have h4 := hlen hq v hm
      rw [hm] at hP
      rw [hP]
      have h4b : (4 : Int) ≤ (bools (valsB v)).length := by rw [bools_len]; omega
      have hbt : List.take 4 (bools (valsB v)) = bools ((valsB v).take 4) := by simp [bools, List.map_take]
      simp (disch := omega) only [boolsV, stepW_sl_in3, h4b, g46, go_sem]
      rw [hbt]
      exact W_retC c5_ok (r := .tup [.agg [.bool false, .isl true 1 (bools ((valsB v).take 4)), .isl true 0 []], .int .i64 0]) (r' := ansV ⟨false, (valsB v).take 4, [], 0⟩) (σ' := σ) (resV_2A rfl (upd_same _ _ _) rfl) ⟨hfin _, frz_tup (by exact ⟨frz_agg (by exact ⟨.refl _, .isl _ _ _, frz_nil _ _, trivial⟩) (by simp [V.one, boolsV]), .refl _, trivial⟩)⟩ ⟨rfl, rfl⟩
theorem bools_ok (bs : List Bool) : ∀ y ∈ bools bs, y.cells.length = 1 ∧ ∀ c ∈ y.cells, c.one = true := by
  intro y hy; simp only [bools, List.mem_map] at hy; obtain ⟨x, _, rfl⟩ := hy; simp [V.cells, V.one]
set_option maxHeartbeats 1000000 in
theorem specProve_ok {e : Ex} {vars : Int} {cls : List (List Int)} (hF : ∀ Γ σ, Ret Tryz.prog Γ 16 [.int .i64 4, exV e] σ (fA vars cls) σ) (hv : 4 ≤ vars) (hlen : cnfB vars cls = true → ∀ v, modelP vars cls = some v → 4 ≤ (valsB v).length) :
    Ret Tryz.prog Γ 6 [.int .i64 4, exV e] σ (ansV (proveA vars cls)) σ := by
  have hP := proveA.eq_1 vars cls
  have hA := fA.eq_1 vars cls
  refine ret_of c6_ok rfl ?_
  simp (disch := omega) only [c6, go_sem]
  refine SRun.boxR (by show ∀ c ∈ (exV e).cells, _; rw [cells_exV]; exact exC_one e) ?_
  intro b3 hb3
  have g3 := upd_same σ b3 (exC e)
  have hσ : ∀ d x, σ d = some x → upd σ b3 (exC e) d = some x := le_upd hb3
  simp (disch := omega) only [cells_exV, go_sem]
  generalize upd σ b3 (exC e) = s1 at *
  refine SRun.allocR ?_
  intro b4 hb4
  have hσ2 : ∀ d x, σ d = some x → d ≠ b4 ∧ upd s1 b4 [.bool false, .isl true 0 [], .isl true 0 []] d = some x := fun d x h => ⟨fun e => by (subst e; rw [hσ _ _ h] at hb4; cases hb4), le_upd hb4 _ _ (hσ _ _ h)⟩
  have g32 := le_upd (cs := [.bool false, .isl true 0 [], .isl true 0 []]) hb4 _ _ g3
  have g4 := upd_same s1 b4 [.bool false, .isl true 0 [], .isl true 0 []]
  generalize upd s1 b4 [.bool false, .isl true 0 [], .isl true 0 []] = s2 at *
  simp (disch := omega) only [g32, go_sem]
  refine SRun.callR (hF _ _) ⟨[], rfl, rfl⟩ rfl ?_
  cases hq : cnfB vars cls with
  | false =>
    rw [hq, cond_false] at hP hA
    rw [hA, hP]
    simp (disch := omega) only [cnfV, go_sem]
    refine SRun.allocR ?_
    intro b6 hb6
    have g46 := le_upd (cs := [.int .i64 0, .isl false 1 (clsV [])]) hb6 _ _ g4
    simp (disch := omega) only [go_sem]
    simp (disch := omega) only [g46, go_sem]
    exact W_retC c6_ok (r := .tup [.agg [.bool false, .isl true 0 [], .isl true 0 []], .int .i64 11]) (r' := ansV ⟨false, [], [], 11⟩) (σ' := σ) (resV_2A rfl (upd_same _ _ _) rfl) ⟨fun d y hd => by
      obtain ⟨h4, h1⟩ := hσ2 d y hd
      rw [upd_ne _ _ h4]; exact le_upd hb6 _ _ h1, ans_none⟩ ⟨rfl, rfl⟩
  | true =>
    rw [hq, cond_true] at hP hA
    obtain ⟨hc, hv0, hv40, hcl⟩ := clsOK_of hq
    rw [hA]
    simp (disch := omega) only [cnfV, go_sem]
    refine SRun.allocR ?_
    intro b6 hb6
    have g46 := le_upd (cs := [.int .i64 vars, .isl false 1 (clsV cls)]) hb6 _ _ g4
    have hσ3 : ∀ d x, σ d = some x → d ≠ b4 ∧ upd s2 b6 [.int .i64 vars, .isl false 1 (clsV cls)] d = some x := fun d x h => ⟨(hσ2 d x h).1, le_upd hb6 _ _ (hσ2 d x h).2⟩
    simp (disch := omega) only [go_sem]
    have g6 := upd_same s2 b6 [.int .i64 vars, .isl false 1 (clsV cls)]
    generalize upd s2 b6 [.int .i64 vars, .isl false 1 (clsV cls)] = s3 at *
    refine SRun.callR (specLeast_ok hq) ⟨[], rfl, rfl⟩ rfl ?_
    have hfin : ∀ c, ∀ d y, σ d = some y → upd s3 b4 c d = some y := fun c d y hd => by
      obtain ⟨h4, h1⟩ := hσ3 d y hd
      rw [upd_ne _ _ h4]; exact h1
    cases hm : modelP vars cls with
    | none =>
      rw [hm] at hP
      have hL : leastA none = ([], 6) := rfl
      rw [hL]
      simp (disch := omega) only [g6, boolsV, go_sem]
      refine SRun.callR (specRefutation_ok hq (by omega)) ⟨[], rfl, rfl⟩ rfl ?_
      have hr0 := beq_int (refA vars cls).2 0
      generalize (refA vars cls).1 = steps at *
      generalize (refA vars cls).2 = rc at *
      simp (disch := omega) only [go_sem]
      by_cases h0 : rc = 0
      · have d0 : (decide ¬ rc = 0) = false := decide_eq_false (fun h => h h0)
        subst h0
        rw [hP]
        simp (disch := omega) only [d0, g46, go_sem]
        exact W_retC c6_ok (r := .tup [.agg [.bool true, .isl true 0 [], .isl false 2 (stepsV steps)], .int .i64 0]) (r' := ansV ⟨true, [], steps, 0⟩) (σ' := σ) (resV_2A rfl (upd_same _ _ _) rfl) ⟨hfin _, frz_tup (by exact ⟨frz_agg (by exact ⟨.refl _, frz_nil _ _, .refl _, trivial⟩) (by simp [V.one, boolsV]), .refl _, trivial⟩)⟩ ⟨rfl, rfl⟩
      · have d0 : (decide ¬ rc = 0) = true := decide_eq_true h0
        have hP2 : proveA vars cls = ⟨false, [], [], rc⟩ := by
          rw [hP]
          show (bif rc == 0 then _ else _) = _
          rw [hr0, decide_eq_false h0]; rfl
        rw [hP2]
        simp (disch := omega) only [d0, g46, go_sem]
        exact W_retC c6_ok (r := .tup [.agg [.bool false, .isl true 0 [], .isl true 0 []], .int .i64 rc]) (r' := ansV ⟨false, [], [], rc⟩) (σ' := σ) (resV_2A rfl (upd_same _ _ _) rfl) ⟨hfin _, ans_none⟩ ⟨rfl, rfl⟩
    | some v =>
      have h4 := hlen hq v hm
      rw [hm] at hP
      rw [hP]
      have hL : leastA (some v) = (valsB v, 0) := rfl
      have h4b : (4 : Int) ≤ (bools (valsB v)).length := by rw [bools_len]; omega
      have hbt : List.take 4 (bools (valsB v)) = bools ((valsB v).take 4) := by simp [bools, List.map_take]
      rw [hL]
      simp (disch := omega) only [boolsV, h4b, g46, hbt, go_sem]
      refine SRun.appL (OwnL.nil 1 1) rfl (bools_ok _) (by rw [bools_len, List.length_take]; simp only [List.length_nil]; omega) ?_
      intro q s9 ho9
      rw [List.nil_append] at ho9
      have g49 := ho9.get g46
      simp (disch := omega) only [g49, ho9.one, ho9.cells, go_sem]
      exact W_retC c6_ok (r := .tup [.agg [.bool false, q, .isl true 0 []], .int .i64 0]) (r' := ansV ⟨false, (valsB v).take 4, [], 0⟩) (σ' := σ) (resV_2A rfl (upd_same _ _ _) rfl) ⟨fun d y hd => by
          obtain ⟨h4, h1⟩ := hσ3 d y hd
          rw [upd_ne _ _ h4]; exact ho9.get h1, frz_tup (by exact ⟨frz_agg (by exact ⟨.refl _, ho9.frz (fun b hb => upd_ne _ _ fun e => by subst e; rw [g46] at hb; cases hb) (fun b hb => by
          cases hc : σ b with
          | none => rfl
          | some c => rw [(hσ3 b c hc).2] at hb; cases hb), frz_nil _ _, trivial⟩) (by simp [V.one, boolsV]), .refl _, trivial⟩)⟩ ⟨rfl, rfl⟩
end Go.Proofs.YtlidjjjpjndneaaGreat.Lg
