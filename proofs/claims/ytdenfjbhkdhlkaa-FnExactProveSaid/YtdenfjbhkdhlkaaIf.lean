/- The reference's answer of any expression; the program's, given up. -/
import Derived.Test.YtdenfjbhkdhlkaaIe
set_option linter.unusedSimpArgs false
set_option linter.unusedVariables false
namespace Go.Proofs.Ytdenfjbhkdhlkaa.Lg
open Go
attribute [local irreducible] SRun DS DRun
variable {Γ : St} {σ σ0 : St}
theorem PreB.frz {s t : St} {bs : List Bool} {q : V} (h : PreB s bs q) (hn : ∀ b, blk q = some b → t b = none) : Frz s t q (boolsV bs) := by
  rcases h with ⟨rfl, es, rfl⟩ | ⟨b, cap, rest, rfl, hb⟩
  · exact frz_nil _ _
  · have hone : ∀ x ∈ bools bs, x.cells.length = 1 := fun x hx => by obtain ⟨y, _, rfl⟩ := List.mem_map.1 hx; rfl
    have hfl : flat (bools bs) = bools bs := flat_one fun x hx => by obtain ⟨y, _, rfl⟩ := List.mem_map.1 hx; rfl
    refine .msl b 1 0 bs.length cap _ (bools bs) hb (hn b rfl) (by rw [List.length_append, bools_len]; omega) (bools_len bs) hone (by rw [hfl, bools_len]; omega) (fun i x hx => by rw [hfl] at hx; exact bools_one bs x (List.mem_of_getElem? hx)) fun i x y hy hx => ?_
    rw [hfl] at hx
    rw [Nat.zero_add] at hy
    rw [List.getElem?_append_left (List.getElem?_eq_some_iff.1 hx).1] at hy
    rw [hy] at hx
    obtain rfl := Option.some.inj hx
    exact .refl _
theorem bools_ok (bs : List Bool) : ∀ y ∈ bools bs, y.cells.length = 1 ∧ ∀ c ∈ y.cells, c.one = true := by
  intro y hy; simp only [bools, List.mem_map] at hy; obtain ⟨x, _, rfl⟩ := hy; simp [V.cells, V.one]
theorem Prove_ok {inp : Int} {e : Ex} (hsz : sizeE e ≤ 2000000) : Ret Try.prog Γ 7 [.int .i64 inp, exV e] σ (ansV (ansE inp e)) σ :=
  (Prove_own hsz).conv fun r s ⟨hle, qv, q, qs, e1, hA⟩ => by
    subst e1
    exact ⟨_, _, ⟨hle, frz_tup (by exact ⟨frz_agg (by exact ⟨.refl _, hA.vals.frz hA.vnew, (hA.lla.conv preS_ok hle).2, trivial⟩) (by simp [V.one, boolsV]), .refl _, trivial⟩)⟩, rfl, rfl⟩
set_option maxHeartbeats 1000000 in
theorem specProve_ok {inp : Int} {e : Ex} (hsz : sizeE e ≤ 2000000) : Ret Try.prog Γ 5 [.int .i64 inp, exV e] σ (ansV (ansE inp e)) σ := by
  have hF := fun Γ σ => l09FormulaA_ok (Γ := Γ) (σ := σ) (inp := inp) (e := e) hsz
  refine ret_of c5_ok rfl ?_
  simp (disch := omega) only [c5, go_sem]
  refine SRun.boxR (by show ∀ c ∈ (exV e).cells, _; rw [cells_exV]; exact exC_one e) ?_
  intro b3 hb3
  have g3 := upd_same σ b3 (exC e)
  have hσ : ∀ d x, σ d = some x → upd σ b3 (exC e) d = some x := le_upd hb3
  simp (disch := omega) only [cells_exV, go_sem]
  generalize upd σ b3 (exC e) = s1 at *
  refine SRun.allocR ?_
  intro b4 hb4
  have hσ2 : ∀ d x, σ d = some x → d ≠ b4 ∧ upd s1 b4 [.bool false, .isl true 0 [], .isl true 0 []] d = some x := fun d x h => ⟨fun e => by (subst e; rw [hσ _ _ h] at hb4; cases hb4), le_upd hb4 _ _ (hσ _ _ h)⟩
  have g32 := le_upd (cs := [.bool false, .isl true 0 [], .isl true 0 []]) hb4 _ _ g3
  have g4 := upd_same s1 b4 [.bool false, .isl true 0 [], .isl true 0 []]
  generalize upd s1 b4 [.bool false, .isl true 0 [], .isl true 0 []] = s2 at *
  simp (disch := omega) only [g32, go_sem]
  refine SRun.callR (hF _ _) ⟨[], rfl, rfl⟩ rfl ?_
  clear hF
  by_cases hc : codeE inp e = 0
  case neg =>
    have d0 : (decide ¬ codeE inp e = 0) = true := decide_eq_true hc
    rw [fE_bad hc, ansE_bad hc]
    generalize codeE inp e = code at *
    simp (disch := omega) only [cnfV, go_sem]
    refine SRun.allocR ?_
    intro b6 hb6
    have g46 := le_upd (cs := [.int .i64 0, .isl false 1 (clsV [])]) hb6 _ _ g4
    simp (disch := omega) only [go_sem]
    simp (disch := omega) only [d0, g46, go_sem]
    exact W_retC c5_ok (r := .tup [.agg [.bool false, .isl true 0 [], .isl true 0 []], .int .i64 code]) (r' := ansV ⟨false, [], [], code⟩) (σ' := σ) (resV_2A rfl (upd_same _ _ _) rfl) ⟨fun d y hd => by
      obtain ⟨h4, h1⟩ := hσ2 d y hd
      rw [upd_ne _ _ h4]; exact le_upd hb6 _ _ h1, ans_none⟩ ⟨rfl, rfl⟩
  have hB := built hc
  have hinp := hB.rng
  rw [fE_fine hc, ansE_fine hc]
  clear hB hc
  have hvar : inp ≤ inp + ((gsE inp e).length : Int) := by omega
  generalize hvv : inp + ((gsE inp e).length : Int) = vars at *
  generalize tsP inp (gsE inp e) (notP (liE inp e)) = cls at *
  have hP := proveA.eq_1 inp.toNat vars cls
  have hA := fA.eq_1 vars cls
  cases hq : cnfB vars cls with
  | false =>
    rw [hq, cond_false] at hP hA
    rw [hA, hP]
    simp (disch := omega) only [cnfV, go_sem]
    refine SRun.allocR ?_
    intro b6 hb6
    have g46 := le_upd (cs := [.int .i64 0, .isl false 1 (clsV [])]) hb6 _ _ g4
    simp (disch := omega) only [go_sem]
    simp (disch := omega) only [g46, go_sem]
    exact W_retC c5_ok (r := .tup [.agg [.bool false, .isl true 0 [], .isl true 0 []], .int .i64 11]) (r' := ansV ⟨false, [], [], 11⟩) (σ' := σ) (resV_2A rfl (upd_same _ _ _) rfl) ⟨fun d y hd => by
      obtain ⟨h4, h1⟩ := hσ2 d y hd
      rw [upd_ne _ _ h4]; exact le_upd hb6 _ _ h1, ans_none⟩ ⟨rfl, rfl⟩
  | true =>
    rw [hq, cond_true] at hP hA
    obtain ⟨hc, hv0, hv40, hcl⟩ := clsOK_of hq
    rw [hA]
    simp (disch := omega) only [cnfV, go_sem]
    refine SRun.allocR ?_
    intro b6 hb6
    have g46 := le_upd (cs := [.int .i64 vars, .isl false 1 (clsV cls)]) hb6 _ _ g4
    have hσ3 : ∀ d x, σ d = some x → d ≠ b4 ∧ upd s2 b6 [.int .i64 vars, .isl false 1 (clsV cls)] d = some x := fun d x h => ⟨(hσ2 d x h).1, le_upd hb6 _ _ (hσ2 d x h).2⟩
    simp (disch := omega) only [go_sem]
    have g6 := upd_same s2 b6 [.int .i64 vars, .isl false 1 (clsV cls)]
    generalize upd s2 b6 [.int .i64 vars, .isl false 1 (clsV cls)] = s3 at *
    refine SRun.callR (specLeast_ok hq) ⟨[], rfl, rfl⟩ rfl ?_
    have hfin : ∀ c, ∀ d y, σ d = some y → upd s3 b4 c d = some y := fun c d y hd => by
      obtain ⟨h4, h1⟩ := hσ3 d y hd
      rw [upd_ne _ _ h4]; exact h1
    cases hm : modelP vars cls with
    | none =>
      rw [hm] at hP
      have hL : leastA none = ([], 6) := rfl
      rw [hL]
      simp (disch := omega) only [g6, boolsV, go_sem]
      refine SRun.callR (specRefutation_ok hq (by omega)) ⟨[], rfl, rfl⟩ rfl ?_
      have hr0 := beq_int (refA vars cls).2 0
      generalize (refA vars cls).1 = steps at *
      generalize (refA vars cls).2 = rc at *
      simp (disch := omega) only [go_sem]
      by_cases h0 : rc = 0
      · have d0 : (decide ¬ rc = 0) = false := decide_eq_false (fun h => h h0)
        subst h0
        rw [hP]
        simp (disch := omega) only [d0, g46, go_sem]
        exact W_retC c5_ok (r := .tup [.agg [.bool true, .isl true 0 [], .isl false 2 (stepsV steps)], .int .i64 0]) (r' := ansV ⟨true, [], steps, 0⟩) (σ' := σ) (resV_2A rfl (upd_same _ _ _) rfl) ⟨hfin _, frz_tup (by exact ⟨frz_agg (by exact ⟨.refl _, frz_nil _ _, .refl _, trivial⟩) (by simp [V.one, boolsV]), .refl _, trivial⟩)⟩ ⟨rfl, rfl⟩
      · have d0 : (decide ¬ rc = 0) = true := decide_eq_true h0
        have hP2 : proveA inp.toNat vars cls = ⟨false, [], [], rc⟩ := by
          rw [hP]
          show (bif rc == 0 then _ else _) = _
          rw [hr0, decide_eq_false h0]; rfl
        rw [hP2]
        simp (disch := omega) only [d0, g46, go_sem]
        exact W_retC c5_ok (r := .tup [.agg [.bool false, .isl true 0 [], .isl true 0 []], .int .i64 rc]) (r' := ansV ⟨false, [], [], rc⟩) (σ' := σ) (resV_2A rfl (upd_same _ _ _) rfl) ⟨hfin _, ans_none⟩ ⟨rfl, rfl⟩
    | some v =>
      have hlv := (modelP_spec hv0 hc).2 v hm
      rw [hm] at hP
      rw [hP]
      have hL : leastA (some v) = (valsB v, 0) := rfl
      have h4b : inp ≤ (bools (valsB v)).length := by rw [bools_len]; omega
      have hbt : List.take (inp - 0).toNat (bools (valsB v)) = bools ((valsB v).take inp.toNat) := by rw [Int.sub_zero]; simp [bools, List.map_take]
      rw [hL]
      simp (disch := omega) only [boolsV, h4b, g46, hbt, go_sem]
      refine SRun.appL (OwnL.nil 1 1) rfl (bools_ok _) (by rw [bools_len, List.length_take]; simp only [List.length_nil]; omega) ?_
      intro q s9 ho9
      rw [List.nil_append] at ho9
      have g49 := ho9.get g46
      simp (disch := omega) only [g49, ho9.one, ho9.cells, go_sem]
      exact W_retC c5_ok (r := .tup [.agg [.bool false, q, .isl true 0 []], .int .i64 0]) (r' := ansV ⟨false, (valsB v).take inp.toNat, [], 0⟩) (σ' := σ) (resV_2A rfl (upd_same _ _ _) rfl) ⟨fun d y hd => by
          obtain ⟨h4, h1⟩ := hσ3 d y hd
          rw [upd_ne _ _ h4]; exact ho9.get h1, frz_tup (by exact ⟨frz_agg (by exact ⟨.refl _, ho9.frz (fun b hb => upd_ne _ _ fun e => by subst e; rw [g46] at hb; cases hb) (fun b hb => by
          cases hc : σ b with
          | none => rfl
          | some c => rw [(hσ3 b c hc).2] at hb; cases hb), frz_nil _ _, trivial⟩) (by simp [V.one, boolsV]), .refl _, trivial⟩)⟩ ⟨rfl, rfl⟩
end Go.Proofs.Ytdenfjbhkdhlkaa.Lg
