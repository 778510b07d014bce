/- The circuit, and the formula of the opposite, of any expression: the program's and the reference's, with their codes. -/
import Derived.Test.YtdenfjbhkdhlkaaIb
set_option linter.unusedSimpArgs false
set_option linter.unusedVariables false
namespace Go.Proofs.Ytdenfjbhkdhlkaa.Lg
open Go
attribute [local irreducible] SRun DS DRun
variable {Γ : St} {σ σ0 : St}
def bA (inp : Int) (e : Ex) : V := if codeE inp e = 0 then .tup [aigV inp (gsE inp e), intsV [liE inp e], .int .i64 0] else .tup [aigV 0 [], intsV [], .int .i64 (codeE inp e)]
theorem makeL_one (inp : Int) (e : Ex) (gs : List (Int × Int)) : makeL inp [e] gs = ([(makeP inp e gs).1], (makeP inp e gs).2) := by simp only [makeL]
theorem codeE_inp {inp : Int} {e : Ex} (h : ¬ (0 ≤ inp ∧ inp ≤ 12)) : codeE inp e = 5 := by unfold codeE; rw [if_pos (by omega)]
theorem codeE_ok {inp : Int} {e : Ex} (h : 0 ≤ inp ∧ inp ≤ 12) (ho : okE e = false) : codeE inp e = 1 := by unfold codeE; rw [if_neg (by omega), if_pos ho]
theorem codeE_most {inp : Int} {e : Ex} (h : 0 ≤ inp ∧ inp ≤ 12) (ho : okE e = true) (hm : inp ≤ mostE e) : codeE inp e = 5 := by unfold codeE; rw [if_neg (by omega), if_neg (by simp [ho]), if_pos hm]
theorem codeE_many {inp : Int} {e : Ex} (h : 0 ≤ inp ∧ inp ≤ 12) (ho : okE e = true) (hm : mostE e < inp) (hg : 400 < (gsE inp e).length) : codeE inp e = 11 := by unfold codeE; rw [if_neg (by omega), if_neg (by simp [ho]), if_neg (by omega), if_pos hg]
theorem codeE_fine {inp : Int} {e : Ex} (h : 0 ≤ inp ∧ inp ≤ 12) (ho : okE e = true) (hm : mostE e < inp) (hg : (gsE inp e).length ≤ 400) : codeE inp e = 0 := by unfold codeE; rw [if_neg (by omega), if_neg (by simp [ho]), if_neg (by omega), if_neg (by omega)]
theorem bA_bad {inp : Int} {e : Ex} {c : Int} (h : codeE inp e = c) (hc : c ≠ 0) : bA inp e = .tup [aigV 0 [], intsV [], .int .i64 c] := by unfold bA; rw [if_neg (by omega), h]
theorem bad_frz {s : St} {c : Int} {n1 : Nat} : Frz s σ (.tup [.agg [.int .i64 0, .isl true 0 []], .isl true n1 [], .int .i64 c]) (.tup [aigV 0 [], intsV [], .int .i64 c]) :=
  frz_tup (by exact ⟨frz_agg (by exact ⟨.refl _, frz_nil _ _, trivial⟩) (by simp [V.one]), frz_nil _ _, .refl _, trivial⟩)
set_option maxHeartbeats 1000000 in
theorem buildAigA_ok {inp : Int} {e : Ex} {ex : Bool} (hsz : sizeE e ≤ 2000000) :
    Ret Try.prog Γ 35 [.int .i64 inp, .isl ex 3 (exsV [e])] σ (bA inp e) σ := by
  have hlk : ([e] : List Ex).length = 1 := rfl
  have hg0 : ([e] : List Ex).getD 0 default = e := rfl
  have hin := inner_size e
  by_cases hinp : 0 ≤ inp ∧ inp ≤ 12
  case neg =>
    have hb : (decide (0 ≤ inp) && decide (inp ≤ 12)) = false := by simp; omega
    refine ret_of c35_ok rfl ?_
    simp (disch := omega) only [c35, go_sem]
    refine SRun.allocR ?_
    intro b4 hb4
    simp (disch := omega) only [go_sem]
    refine SRun.callR (within_ok inp 0 12) ⟨[], rfl, rfl⟩ rfl ?_
    simp (disch := omega) only [List.getD_cons_zero, List.getD_cons_succ, go_sem]
    simp (disch := omega) only [hb, go_sem]
    exact W_retC c35_ok (r := .tup [.agg [.int .i64 0, .isl true 0 []], .isl true 0 [], .int .i64 5]) (r' := .tup [aigV 0 [], intsV [], .int .i64 5]) (σ' := σ) (resV_3 rfl (upd_same _ _ _) rfl) ⟨le_upd hb4, bad_frz⟩ ⟨(bA_bad (codeE_inp hinp) (by decide)).symm, rfl⟩
  have hb : (decide (0 ≤ inp) && decide (inp ≤ 12)) = true := by simp; omega
  refine ret_of c35_ok rfl ?_
  simp (disch := omega) only [c35, go_sem]
  refine SRun.allocR ?_
  intro b4 hb4
  simp (disch := omega) only [go_sem]
  refine SRun.callR (within_ok inp 0 12) ⟨[], rfl, rfl⟩ rfl ?_
  simp (disch := omega) only [List.getD_cons_zero, List.getD_cons_succ, go_sem]
  simp (disch := omega) only [hb, go_sem]
  refine W_loopC (α := Nat × St) (fun p => p.1 ≤ 1 ∧ (p.1 = 1 → okE e = true ∧ mostE e < inp) ∧ ∀ d x, upd σ b4 [.int .i64 0, .isl true 0 []] d = some x → p.2 d = some x) (fun p => [(0, .int .i64 inp), (1, .isl ex 3 (exsV [e])), (4, .ptr b4 0), (17, .isl ex 3 (exsV [e])), (18, .int .i64 1), (19, .int .i64 (p.1 : Nat))]) (fun p => p.2) (fun p => 1 - p.1) (0, upd σ b4 [.int .i64 0, .isl true 0 []]) ⟨by simp, fun h => by simp at h, fun _ _ h => h⟩ (by simp (disch := omega) only [subT, Int.natCast_add, Int.cast_ofNat_Int, go_sem] <;> (repeat' apply And.intro) <;> first | rfl | (congr 1; omega) | assumption) rfl ?_
  rintro ⟨i, s⟩ ⟨hi, hdone, hs⟩ ih
  dsimp only at hi hdone hs
  have hσ4 : ∀ d x, σ d = some x → d ≠ b4 ∧ s d = some x := fun d x h => ⟨fun e => by (subst e; rw [hb4] at h; cases h), hs _ _ (le_upd hb4 _ _ h)⟩
  simp (disch := omega) only [go_sem]
  first | refine iteW_dec (fun hq => ?_) (fun hq => ?_) | refine iteW_of (fun hq => ?_) (fun hq => ?_)
  · obtain rfl : i = 0 := by omega
    have hc1 := exC_one e
    have g4 := hs b4 _ (upd_same _ _ _)
    simp (disch := omega) only [hg0, go_sem]
    refine SRun.allocR ?_
    intro b8 hb8
    have g48 := le_upd (cs := exC e) hb8 _ _ g4
    have hσ8 : ∀ z d x, σ d = some x → upd (upd s b8 (exC e)) b4 z d = some x := fun z d x h => by rw [upd_ne _ _ (hσ4 d x h).1]; exact le_upd hb8 _ _ (hσ4 d x h).2
    simp (disch := omega) only [hg0, hc1, go_sem]
    refine SRun.callR (isEx_ok (e := e) hsz) ⟨[], rfl, rfl⟩ rfl ?_
    simp (disch := omega) only [List.getD_cons_zero, List.getD_cons_succ, go_sem]
    cases hok : okE e with
    | false =>
      simp (disch := omega) only [g48, go_sem]
      exact W_retC c35_ok (r := .tup [.agg [.int .i64 0, .isl true 0 []], .isl true 0 [], .int .i64 1]) (r' := .tup [aigV 0 [], intsV [], .int .i64 1]) (σ' := σ) (resV_3 rfl (upd_same _ _ _) rfl) ⟨hσ8 _, bad_frz⟩ ⟨(bA_bad (codeE_ok hinp hok) (by decide)).symm, rfl⟩
    | true =>
      have hr := (okE_right hok).1
      simp (disch := omega) only [hok, go_sem]
      refine SRun.callR (mostVar_ok e hr hsz) ⟨[], rfl, rfl⟩ rfl ?_
      simp (disch := omega) only [List.getD_cons_zero, List.getD_cons_succ, go_sem]
      first | refine iteW_dec (fun hm => ?_) (fun hm => ?_) | refine iteW_of (fun hm => ?_) (fun hm => ?_)
      · simp (disch := omega) only [g48, go_sem]
        exact W_retC c35_ok (r := .tup [.agg [.int .i64 0, .isl true 0 []], .isl true 0 [], .int .i64 5]) (r' := .tup [aigV 0 [], intsV [], .int .i64 5]) (σ' := σ) (resV_3 rfl (upd_same _ _ _) rfl) ⟨hσ8 _, bad_frz⟩ ⟨(bA_bad (codeE_most hinp hok (by omega)) (by decide)).symm, rfl⟩
      · simp (disch := omega) only [go_sem]
        exact ih (1, _) _ _ ⟨by simp, fun _ => ⟨hok, by omega⟩, fun d x h => le_upd hb8 _ _ (hs _ _ h)⟩ (by simp) (by simp (disch := omega) only [subT, Int.natCast_add, Int.cast_ofNat_Int, go_sem] <;> (repeat' apply And.intro) <;> first | rfl | (congr 1; omega) | assumption) rfl
  · clear ih
    obtain ⟨hok, hmost⟩ := hdone (by omega)
    have hr := okE_right hok
    have hbnd := (makeP_ok hinp.1 e hr.1 [] hmost).2.2
    simp only [List.length_nil] at hbnd
    have hgs : (makeP inp e []).2 = gsE inp e := rfl
    have hli : (makeP inp e []).1 = liE inp e := rfl
    clear hdone
    have g4 := hs b4 _ (upd_same _ _ _)
    have hσs : ∀ d x, σ d = some x → s d = some x := fun d x h => hs _ _ (le_upd hb4 _ _ h)
    clear hs
    simp (disch := omega) only [go_sem]
    refine SRun.allocR ?_
    intro b9 hb9
    have n49 : b4 ≠ b9 := fun e => by subst e; rw [g4] at hb9; cases hb9
    simp (disch := omega) only [go_sem]
    have hmk0 : Mk2 s b9 inp [] [] (.isl true 0 []) (upd s b9 [.int .i64 inp, .isl true 0 []]) := ⟨.isl true 0 [], _, OwnL.nil _ _, OwnL.nil _ _⟩
    refine W_loopC (α := Nat × List Int × List (Int × Int) × V × St × St) (fun p => p.1 ≤ 1 ∧ Mk2 p.2.2.2.2.1 b9 inp p.2.2.1 p.2.1 p.2.2.2.1 p.2.2.2.2.2 ∧ (p.1 = 0 → p.2.1 = [] ∧ p.2.2.1 = []) ∧ (p.1 = 1 → p.2.1 = [liE inp e] ∧ p.2.2.1 = gsE inp e ∧ (gsE inp e).length ≤ 400) ∧ ∀ d x, s d = some x → p.2.2.2.2.1 d = some x)
      (fun p => [(4, .ptr b4 0), (9, .ptr b9 0), (10, p.2.2.2.1), (35, .isl ex 3 (exsV [e])), (36, .int .i64 1), (37, .int .i64 (p.1 : Nat))]) (fun p => p.2.2.2.2.2) (fun p => 1 - p.1) (0, [], [], .isl true 0 [], s, upd s b9 [.int .i64 inp, .isl true 0 []]) ⟨by simp, hmk0, fun _ => ⟨rfl, rfl⟩, fun h => by simp at h, fun _ _ h => h⟩ (by simp (disch := omega) only [subT, Int.natCast_add, Int.cast_ofNat_Int, go_sem] <;> (repeat' apply And.intro) <;> first | rfl | (congr 1; omega) | assumption) rfl ?_
    rintro ⟨i2, L, g2, t, A2, s2⟩ ⟨hi2, hmk, hz0, hz1, hle2⟩ ih2
    dsimp only at hi2 hmk hz0 hz1 hle2
    simp (disch := omega) only [go_sem]
    first | refine iteW_dec (fun hq2 => ?_) (fun hq2 => ?_) | refine iteW_of (fun hq2 => ?_) (fun hq2 => ?_)
    · obtain rfl : i2 = 0 := by omega
      obtain ⟨rfl, rfl⟩ := hz0 rfl
      have hc1 := exC_one e
      simp (disch := omega) only [hg0, go_sem]
      refine SRun.allocR ?_
      intro b12 hb12
      obtain ⟨hmk12, n12⟩ := hmk.ext (z := exC e) hb12
      have hA12 : A2 b12 = none := by
        cases hc : A2 b12 with
        | none => rfl
        | some x => rw [hmk.get n12 hc] at hb12; cases hb12
      have hle3 : ∀ d x, s d = some x → upd A2 b12 (exC e) d = some x := fun d x h => le_upd hA12 _ _ (hle2 _ _ h)
      simp (disch := omega) only [hc1, go_sem]
      obtain ⟨B, hB1, hB2⟩ := hmk12.mk
      refine SRun.callQ (build_mk hinp _ hr.1 hB1 (by omega) (by simp only [List.length_nil]; omega)) ⟨[], rfl, rfl⟩ rfl ?_
      rintro r s8 ⟨rfl, hm8⟩
      have hmk8 := hB2 _ _ hm8
      obtain ⟨B', hC1, _, hC2⟩ := hmk8.app
      simp (disch := omega) only [go_sem]
      refine SRun.appL hC1 rfl (by simp [V.cells, V.one]) (by simp only [ints_len, List.length_singleton, List.length_nil]; omega) ?_
      intro t' s9 ho9
      rw [ints_app, List.nil_append, hli] at ho9
      rw [hgs] at hC2 hbnd
      have hmk9 := hC2 _ _ _ ho9
      obtain ⟨q, gq, q1, hfin9, Bq, hBq⟩ := hmk9.done
      simp (disch := omega) only [gq, stepW_len_own hBq, gsV_len, go_sem]
      first | refine iteW_dec (fun hmany => ?_) (fun hmany => ?_) | refine iteW_of (fun hmany => ?_) (fun hmany => ?_)
      · have s4 := hmk9.get n49 (hle3 _ _ g4)
        simp (disch := omega) only [s4, go_sem]
        obtain ⟨f1, f2, f3⟩ := hfin9 σ fun d x hd => by
          have h4 : d ≠ b4 := fun e => by subst e; rw [hb4] at hd; cases hd
          have hsd := hσs _ _ hd
          have h9 : d ≠ b9 := fun e => by subst e; rw [hsd] at hb9; cases hb9
          exact ⟨h9, hle3 _ _ hsd⟩
        exact W_retC c35_ok (r := .tup [.agg [.int .i64 0, .isl true 0 []], .isl true 0 [], .int .i64 11]) (r' := .tup [aigV 0 [], intsV [], .int .i64 11]) (σ' := σ) (resV_3 rfl (upd_same _ _ _) rfl) ⟨fun d y hd => by rw [upd_ne _ _ (fun e => by subst e; rw [hb4] at hd; cases hd)]; exact f1 d y hd, bad_frz⟩ ⟨(bA_bad (codeE_many hinp hok hmost (by omega)) (by decide)).symm, rfl⟩
      · simp (disch := omega) only [go_sem]
        exact ih2 (1, [liE inp e], gsE inp e, t', upd A2 b12 (exC e), s9) _ _ ⟨by simp, hmk9, fun h => by simp at h, fun _ => ⟨rfl, rfl, by omega⟩, hle3⟩ (by simp) (by simp (disch := omega) only [subT, Int.natCast_add, Int.cast_ofNat_Int, go_sem] <;> (repeat' apply And.intro) <;> first | rfl | (congr 1; omega) | assumption) rfl
    · obtain rfl : i2 = 1 := by omega
      obtain ⟨rfl, rfl, hfew⟩ := hz1 rfl
      have hA0 : bA inp e = .tup [aigV inp (gsE inp e), intsV [liE inp e], .int .i64 0] := by unfold bA; rw [if_pos (codeE_fine hinp hok hmost hfew)]
      have s4 := hmk.get n49 (hle2 _ _ g4)
      obtain ⟨q, gq, q1, _, _⟩ := hmk.done
      have hmk4 := hmk.upd (z := [.int .i64 inp, q]) n49 (hle2 _ _ g4)
      obtain ⟨q', gq', q1', hfin, _⟩ := hmk4.done
      have hqq : q' = q := by
        rw [upd_ne _ _ n49.symm, gq] at gq'
        simpa using gq'.symm
      subst hqq
      simp (disch := omega) only [gq, s4, q1, go_sem]
      obtain ⟨f1, f2, f3⟩ := hfin σ fun d x hd => by
        have h4 : d ≠ b4 := fun e => by subst e; rw [hb4] at hd; cases hd
        have hsd := hσs _ _ hd
        have h9 : d ≠ b9 := fun e => by subst e; rw [hsd] at hb9; cases hb9
        exact ⟨h9, by rw [upd_ne _ _ h4]; exact hle2 _ _ hsd⟩
      refine W_retC c35_ok (r := .tup [.agg [.int .i64 inp, q'], t, .int .i64 0]) (r' := .tup [aigV inp (gsE inp e), intsV [liE inp e], .int .i64 0]) (σ' := σ) (resV_3 rfl (upd_same _ _ _) rfl) ⟨f1, frz_tup (by exact ⟨frz_agg (by exact ⟨.refl _, f2, trivial⟩) (by simp [V.one]), f3, .refl _, trivial⟩)⟩ ⟨hA0.symm, rfl⟩
set_option maxHeartbeats 1000000 in
theorem BuildAigsA_ok {inp : Int} {e : Ex} {ex : Bool} (hsz : sizeE e ≤ 2000000) :
    Ret Try.prog Γ 29 [.int .i64 inp, .isl ex 3 (exsV [e])] σ (bA inp e) σ := by
  have hlk : ([e] : List Ex).length = 1 := rfl
  have hg0 : ([e] : List Ex).getD 0 default = e := rfl
  have hin := inner_size e
  by_cases hinp : 0 ≤ inp ∧ inp ≤ 12
  case neg =>
    have hb : (decide (0 ≤ inp) && decide (inp ≤ 12)) = false := by simp; omega
    refine ret_of c29_ok rfl ?_
    simp (disch := omega) only [c29, go_sem]
    refine SRun.allocR ?_
    intro b4 hb4
    simp (disch := omega) only [go_sem]
    refine SRun.callR (l01In_ok inp 0 12) ⟨[], rfl, rfl⟩ rfl ?_
    simp (disch := omega) only [List.getD_cons_zero, List.getD_cons_succ, go_sem]
    simp (disch := omega) only [hb, go_sem]
    exact W_retC c29_ok (r := .tup [.agg [.int .i64 0, .isl true 0 []], .isl true 1 [], .int .i64 5]) (r' := .tup [aigV 0 [], intsV [], .int .i64 5]) (σ' := σ) (resV_3 rfl (upd_same _ _ _) rfl) ⟨le_upd hb4, bad_frz⟩ ⟨(bA_bad (codeE_inp hinp) (by decide)).symm, rfl⟩
  have hb : (decide (0 ≤ inp) && decide (inp ≤ 12)) = true := by simp; omega
  refine ret_of c29_ok rfl ?_
  simp (disch := omega) only [c29, go_sem]
  refine SRun.allocR ?_
  intro b4 hb4
  simp (disch := omega) only [go_sem]
  refine SRun.callR (l01In_ok inp 0 12) ⟨[], rfl, rfl⟩ rfl ?_
  simp (disch := omega) only [List.getD_cons_zero, List.getD_cons_succ, go_sem]
  simp (disch := omega) only [hb, go_sem]
  have hσ4 : ∀ z d x, σ d = some x → upd (upd σ b4 [.int .i64 0, .isl true 0 []]) b4 z d = some x := fun z d x h => by
    have e : d ≠ b4 := fun e => by subst e; rw [hb4] at h; cases h
    rw [upd_ne _ _ e, upd_ne _ _ e]; exact h
  refine W_loopC (α := Nat) (fun i => i ≤ 1 ∧ (i = 1 → okE e = true ∧ mostE e < inp)) (fun i => [(0, .int .i64 inp), (1, .isl ex 3 (exsV [e])), (4, .ptr b4 0), (7, .int .i64 (i : Nat))]) (fun _ => upd σ b4 [.int .i64 0, .isl true 0 []]) (fun i => 1 - i) 0 ⟨by omega, fun h => by cases h⟩ (by simp (disch := omega) only [subT, Int.natCast_add, Int.cast_ofNat_Int, go_sem] <;> (repeat' apply And.intro) <;> first | rfl | (congr 1; omega) | assumption) rfl ?_
  rintro i ⟨hi, hdone⟩ ih
  simp (disch := omega) only [go_sem]
  first | refine iteW_dec (fun hq => ?_) (fun hq => ?_) | refine iteW_of (fun hq => ?_) (fun hq => ?_)
  · obtain rfl : i = 0 := by omega
    simp (disch := omega) only [hg0, go_sem]
    refine SRun.callR (ExOKsA_ok (e := e) hsz) ⟨[], rfl, rfl⟩ rfl ?_
    simp (disch := omega) only [List.getD_cons_zero, List.getD_cons_succ, go_sem]
    have hup : ∀ z, upd (upd σ b4 [.int .i64 0, .isl true 0 []]) b4 z = upd σ b4 z := fun z => upd_upd _ _ _ _
    cases hok : okE e with
    | false =>
      simp (disch := omega) only [upd_same, go_sem]
      exact W_retC c29_ok (r := .tup [.agg [.int .i64 0, .isl true 0 []], .isl true 1 [], .int .i64 1]) (r' := .tup [aigV 0 [], intsV [], .int .i64 1]) (σ' := σ) (resV_3 rfl (upd_same _ _ _) rfl) ⟨le_upd hb4, bad_frz⟩ ⟨(bA_bad (codeE_ok hinp hok) (by decide)).symm, rfl⟩
    | true =>
      have hr := (okE_right hok).1
      simp (disch := omega) only [hg0, go_sem]
      refine SRun.callR (l04Most_ok e hr hsz) ⟨[], rfl, rfl⟩ rfl ?_
      simp (disch := omega) only [List.getD_cons_zero, List.getD_cons_succ, go_sem]
      first | refine iteW_dec (fun hm => ?_) (fun hm => ?_) | refine iteW_of (fun hm => ?_) (fun hm => ?_)
      · simp (disch := omega) only [upd_same, go_sem]
        exact W_retC c29_ok (r := .tup [.agg [.int .i64 0, .isl true 0 []], .isl true 1 [], .int .i64 5]) (r' := .tup [aigV 0 [], intsV [], .int .i64 5]) (σ' := σ) (resV_3 rfl (upd_same _ _ _) rfl) ⟨le_upd hb4, bad_frz⟩ ⟨(bA_bad (codeE_most hinp hok (by omega)) (by decide)).symm, rfl⟩
      · simp (disch := omega) only [go_sem]
        exact ih 1 _ _ ⟨by omega, fun _ => ⟨hok, by omega⟩⟩ (by omega) (by simp (disch := omega) only [subT, Int.natCast_add, Int.cast_ofNat_Int, go_sem] <;> (repeat' apply And.intro) <;> first | rfl | (congr 1; omega) | assumption) rfl
  · clear ih
    obtain ⟨hok, hmost⟩ := hdone (by omega)
    have hr := okE_right hok
    have hbnd := (makeP_ok hinp.1 e hr.1 [] hmost).2.2
    simp only [List.length_nil] at hbnd
    have hgs : (makeP inp e []).2 = gsE inp e := rfl
    have hli : (makeP inp e []).1 = liE inp e := rfl
    clear hdone
    have g4 : upd σ b4 [.int .i64 0, .isl true 0 []] b4 = some [.int .i64 0, .isl true 0 []] := upd_same _ _ _
    have hσs : ∀ d x, σ d = some x → upd σ b4 [.int .i64 0, .isl true 0 []] d = some x := fun d x h => le_upd hb4 _ _ h
    generalize upd σ b4 [.int .i64 0, .isl true 0 []] = s at *
    simp (disch := omega) only [go_sem]
    refine SRun.boxR (by simp [ev, look, V.cells, V.one]) ?_
    intro b9 hb9
    have n49 : b4 ≠ b9 := fun e => by subst e; rw [g4] at hb9; cases hb9
    simp (disch := omega) only [go_sem]
    have hmk0 : Mk2 s b9 inp [] [] (.isl true 1 []) (upd s b9 [.int .i64 inp, .isl true 0 []]) := ⟨.isl true 0 [], _, OwnL.nil _ _, OwnL.nil _ _⟩
    refine W_loopC (α := Nat × List Int × List (Int × Int) × V × St) (fun p => p.1 ≤ 1 ∧ Mk2 s b9 inp p.2.2.1 p.2.1 p.2.2.2.1 p.2.2.2.2 ∧ (p.1 = 0 → p.2.1 = [] ∧ p.2.2.1 = []) ∧ (p.1 = 1 → p.2.1 = [liE inp e] ∧ p.2.2.1 = gsE inp e ∧ (gsE inp e).length ≤ 400))
      (fun p => [(1, .isl ex 3 (exsV [e])), (4, .ptr b4 0), (8, .ptr b9 0), (9, p.2.2.2.1), (10, .int .i64 (p.1 : Nat))]) (fun p => p.2.2.2.2) (fun p => 1 - p.1) (0, [], [], .isl true 1 [], upd s b9 [.int .i64 inp, .isl true 0 []]) ⟨by simp, hmk0, fun _ => ⟨rfl, rfl⟩, fun h => by simp at h⟩ (by simp (disch := omega) only [subT, Int.natCast_add, Int.cast_ofNat_Int, go_sem] <;> (repeat' apply And.intro) <;> first | rfl | (congr 1; omega) | assumption) rfl ?_
    rintro ⟨i2, L, g2, t, s2⟩ ⟨hi2, hmk, hz0, hz1⟩ ih2
    dsimp only at hi2 hmk hz0 hz1
    simp (disch := omega) only [go_sem]
    first | refine iteW_dec (fun hq2 => ?_) (fun hq2 => ?_) | refine iteW_of (fun hq2 => ?_) (fun hq2 => ?_)
    · obtain rfl : i2 = 0 := by omega
      obtain ⟨rfl, rfl⟩ := hz0 rfl
      simp (disch := omega) only [hg0, go_sem]
      obtain ⟨B, hB1, hB2⟩ := hmk.mk
      refine SRun.callQ (make_mk hinp _ hr.1 hB1 (by omega) (by simp only [List.length_nil]; omega)) ⟨[], rfl, rfl⟩ rfl ?_
      rintro r s8 ⟨rfl, hm8⟩
      have hmk8 := hB2 _ _ hm8
      obtain ⟨B', hC1, _, hC2⟩ := hmk8.app
      simp (disch := omega) only [go_sem]
      refine SRun.appL hC1 rfl (by simp [V.cells, V.one]) (by simp only [ints_len, List.length_singleton, List.length_nil]; omega) ?_
      intro t' s9 ho9
      rw [ints_app, List.nil_append, hli] at ho9
      rw [hgs] at hC2 hbnd
      have hmk9 := hC2 _ _ _ ho9
      obtain ⟨q, gq, q1, hfin9, Bq, hBq⟩ := hmk9.done
      simp (disch := omega) only [gq, stepW_len_own hBq, gsV_len, go_sem]
      first | refine iteW_dec (fun hmany => ?_) (fun hmany => ?_) | refine iteW_of (fun hmany => ?_) (fun hmany => ?_)
      · have s4 := hmk9.get n49 (g4)
        simp (disch := omega) only [s4, go_sem]
        obtain ⟨f1, f2, f3⟩ := hfin9 σ fun d x hd => by
          have h4 : d ≠ b4 := fun e => by subst e; rw [hb4] at hd; cases hd
          have hsd := hσs _ _ hd
          have h9 : d ≠ b9 := fun e => by subst e; rw [hsd] at hb9; cases hb9
          exact ⟨h9, hsd⟩
        exact W_retC c29_ok (r := .tup [.agg [.int .i64 0, .isl true 0 []], .isl true 1 [], .int .i64 11]) (r' := .tup [aigV 0 [], intsV [], .int .i64 11]) (σ' := σ) (resV_3 rfl (upd_same _ _ _) rfl) ⟨fun d y hd => by rw [upd_ne _ _ (fun e => by subst e; rw [hb4] at hd; cases hd)]; exact f1 d y hd, bad_frz⟩ ⟨(bA_bad (codeE_many hinp hok hmost (by omega)) (by decide)).symm, rfl⟩
      · simp (disch := omega) only [go_sem]
        exact ih2 (1, [liE inp e], gsE inp e, t', s9) _ _ ⟨by simp, hmk9, fun h => by simp at h, fun _ => ⟨rfl, rfl, by omega⟩⟩ (by simp) (by simp (disch := omega) only [subT, Int.natCast_add, Int.cast_ofNat_Int, go_sem] <;> (repeat' apply And.intro) <;> first | rfl | (congr 1; omega) | assumption) rfl
    · obtain rfl : i2 = 1 := by omega
      obtain ⟨rfl, rfl, hfew⟩ := hz1 rfl
      have hA0 : bA inp e = .tup [aigV inp (gsE inp e), intsV [liE inp e], .int .i64 0] := by unfold bA; rw [if_pos (codeE_fine hinp hok hmost hfew)]
      have s4 := hmk.get n49 g4
      obtain ⟨q, gq, q1, _, _⟩ := hmk.done
      have hmk4 := hmk.upd (z := [.int .i64 inp, q]) n49 g4
      obtain ⟨q', gq', q1', hfin, _⟩ := hmk4.done
      have hqq : q' = q := by
        rw [upd_ne _ _ n49.symm, gq] at gq'
        simpa using gq'.symm
      subst hqq
      simp (disch := omega) only [gq, s4, q1, go_sem]
      obtain ⟨f1, f2, f3⟩ := hfin σ fun d x hd => by
        have h4 : d ≠ b4 := fun e => by subst e; rw [hb4] at hd; cases hd
        have hsd := hσs _ _ hd
        have h9 : d ≠ b9 := fun e => by subst e; rw [hsd] at hb9; cases hb9
        exact ⟨h9, by rw [upd_ne _ _ h4]; exact hsd⟩
      exact W_retC c29_ok (r := .tup [.agg [.int .i64 inp, q'], t, .int .i64 0]) (r' := .tup [aigV inp (gsE inp e), intsV [liE inp e], .int .i64 0]) (σ' := σ) (resV_3 rfl (upd_same _ _ _) rfl) ⟨f1, frz_tup (by exact ⟨frz_agg (by exact ⟨.refl _, f2, trivial⟩) (by simp [V.one]), f3, .refl _, trivial⟩)⟩ ⟨hA0.symm, rfl⟩
theorem fE_bad {inp : Int} {e : Ex} (h : codeE inp e ≠ 0) : fE inp e = .tup [cnfV 0 [], .int .i64 (codeE inp e)] := if_neg h
theorem fE_fine {inp : Int} {e : Ex} (h : codeE inp e = 0) : fE inp e = fA (inp + (gsE inp e).length) (tsP inp (gsE inp e) (notP (liE inp e))) := if_pos h
set_option maxHeartbeats 1000000 in
theorem proofFormulaA_ok {inp : Int} {e : Ex} (hsz : sizeE e ≤ 2000000) : Ret Try.prog Γ 18 [.int .i64 inp, exV e] σ (fE inp e) σ := by
  have B2 := fun Γ σ => buildAigA_ok (Γ := Γ) (σ := σ) (inp := inp) (e := e) (ex := true) hsz
  have hbA := bA.eq_1 inp e
  have he1 := exC_one e
  refine ret_of c18_ok rfl ?_
  simp (disch := omega) only [c18, go_sem]
  refine SRun.boxR (by show ∀ c ∈ (exV e).cells, _; rw [cells_exV]; exact exC_one e) ?_
  intro b3 hb3
  have g3 := upd_same σ b3 (exC e)
  have hσ : ∀ d x, σ d = some x → upd σ b3 (exC e) d = some x := le_upd hb3
  simp (disch := omega) only [cells_exV, go_sem]
  generalize upd σ b3 (exC e) = s1 at *
  refine SRun.allocR ?_
  intro b4 hb4
  have hσ2 : ∀ d x, σ d = some x → d ≠ b4 ∧ upd s1 b4 [.int .i64 0, .isl true 0 []] d = some x := fun d x h => ⟨fun e => by (subst e; rw [hσ _ _ h] at hb4; cases hb4), le_upd hb4 _ _ (hσ _ _ h)⟩
  have g32 := le_upd (cs := [.int .i64 0, .isl true 0 []]) hb4 _ _ g3
  have g4 := upd_same s1 b4 [.int .i64 0, .isl true 0 []]
  generalize upd s1 b4 [.int .i64 0, .isl true 0 []] = s2 at *
  simp (disch := omega) only [g32, go_sem]
  refine ⟨he1, ?_⟩
  by_cases hc : codeE inp e = 0
  case neg =>
    have d0 : (decide ¬ codeE inp e = 0) = true := decide_eq_true hc
    rw [if_neg hc] at hbA
    rw [fE_bad hc]
    generalize codeE inp e = code at *
    refine SRun.callR (B2 _ _) ⟨[], rfl, rfl⟩ rfl ?_
    rw [hbA]
    simp (disch := omega) only [aigV, go_sem]
    refine SRun.allocR ?_
    intro b6 hb6
    simp (disch := omega) only [go_sem]
    have g46 := le_upd (cs := [.int .i64 0, .isl false 2 (gsV [])]) hb6 _ _ g4
    simp (disch := omega) only [d0, g46, go_sem]
    exact W_retC c18_ok (r := .tup [.agg [.int .i64 0, .isl true 0 []], .int .i64 code]) (r' := .tup [cnfV 0 [], .int .i64 code]) (σ' := σ) (resV_2 rfl (upd_same _ _ _) rfl) ⟨fun d y hd => by
      obtain ⟨h4, h1⟩ := hσ2 d y hd
      rw [upd_ne _ _ h4]; exact le_upd hb6 _ _ h1, frz_tup (by exact ⟨zero_frz, .refl _, trivial⟩)⟩ ⟨rfl, rfl⟩
  have hB := built hc
  rw [if_pos hc] at hbA
  rw [fE_fine hc]
  have hinp := hB.rng
  have hgo := hB.gates
  have hgl := hB.few
  have hlit := hB.lit
  have hn := hB.nlit
  have hx := xor1 (y := liE inp e) hlit.1 (by have := hlit.2; omega)
  refine SRun.callR (B2 _ _) ⟨[], rfl, rfl⟩ rfl ?_
  rw [hbA]
  clear hbA B2
  generalize gsE inp e = gs at *
  generalize liE inp e = l at *
  simp (disch := omega) only [aigV, go_sem]
  refine SRun.allocR ?_
  intro b6 hb6
  simp (disch := omega) only [go_sem]
  have hσ3 : ∀ d x, σ d = some x → d ≠ b4 ∧ upd s2 b6 [.int .i64 inp, .isl false 2 (gsV gs)] d = some x := fun d x h => ⟨(hσ2 d x h).1, le_upd hb6 _ _ (hσ2 d x h).2⟩
  have g6 := upd_same s2 b6 [.int .i64 inp, .isl false 2 (gsV gs)]
  have g46 := le_upd (cs := [.int .i64 inp, .isl false 2 (gsV gs)]) hb6 _ _ g4
  generalize upd s2 b6 [.int .i64 inp, .isl false 2 (gsV gs)] = s3 at *
  refine W_drawW ?_
  have hl1 : ([l] : List Int).length = 1 := rfl
  have hl0 : ([l] : List Int).getD (0 : Int).toNat 0 = l := rfl
  have hl2 : ([l] : List Int).getD 0 0 = l := rfl
  simp (disch := omega) only [g6, intsV, hl1, hl0, hl2, hx, go_sem]
  refine DRun.callQ (Tseitin_ok (inp := inp) hinp hgl hgo hn) ⟨[], rfl, rfl⟩ ?_
  rintro r s ⟨rfl, hs⟩
  obtain rfl := hs.symm
  rw [tsA_fA]
  generalize inp + gs.length = vars at *
  generalize tsP inp gs (notP l) = cls at *
  have hA := fA.eq_1 vars cls
  generalize hq : cnfB vars cls = qq at *
  have hfin : ∀ c, ∀ d y, σ d = some y → upd s3 b4 c d = some y := fun c d y hd => by
    obtain ⟨h4, h1⟩ := hσ3 d y hd
    rw [upd_ne _ _ h4]; exact h1
  cases qq with
  | true =>
    rw [cond_true] at hA
    rw [hA]
    simp (disch := omega) only [g46, cnfV, go_sem]
    exact W_retC c18_ok (r := .tup [.agg [.int .i64 vars, .isl false 1 (clsV cls)], .int .i64 0]) (σ' := σ) (resV_2 rfl (upd_same _ _ _) rfl) (Conv.drop _ (hfin _)) ⟨rfl, rfl⟩
  | false =>
    rw [cond_false] at hA
    rw [hA]
    simp (disch := omega) only [g46, cnfV, go_sem]
    exact W_retC c18_ok (r := .tup [.agg [.int .i64 0, .isl false 1 (clsV [])], .int .i64 11]) (σ' := σ) (resV_2 rfl (upd_same _ _ _) rfl) (Conv.drop _ (hfin _)) ⟨rfl, rfl⟩
set_option maxHeartbeats 1000000 in
theorem l09FormulaA_ok {inp : Int} {e : Ex} (hsz : sizeE e ≤ 2000000) : Ret Try.prog Γ 14 [.int .i64 inp, exV e] σ (fE inp e) σ := by
  have B2 := fun Γ σ => BuildAigsA_ok (Γ := Γ) (σ := σ) (inp := inp) (e := e) (ex := true) hsz
  have hbA := bA.eq_1 inp e
  have he1 := exC_one e
  refine ret_of c14_ok rfl ?_
  simp (disch := omega) only [c14, go_sem]
  refine SRun.boxR (by show ∀ c ∈ (exV e).cells, _; rw [cells_exV]; exact exC_one e) ?_
  intro b3 hb3
  have g3 := upd_same σ b3 (exC e)
  have hσ : ∀ d x, σ d = some x → upd σ b3 (exC e) d = some x := le_upd hb3
  simp (disch := omega) only [cells_exV, go_sem]
  generalize upd σ b3 (exC e) = s1 at *
  refine SRun.allocR ?_
  intro b4 hb4
  have hσ2 : ∀ d x, σ d = some x → d ≠ b4 ∧ upd s1 b4 [.int .i64 0, .isl true 0 []] d = some x := fun d x h => ⟨fun e => by (subst e; rw [hσ _ _ h] at hb4; cases hb4), le_upd hb4 _ _ (hσ _ _ h)⟩
  have g32 := le_upd (cs := [.int .i64 0, .isl true 0 []]) hb4 _ _ g3
  have g4 := upd_same s1 b4 [.int .i64 0, .isl true 0 []]
  generalize upd s1 b4 [.int .i64 0, .isl true 0 []] = s2 at *
  simp (disch := omega) only [g32, go_sem]
  refine ⟨he1, ?_⟩
  by_cases hc : codeE inp e = 0
  case neg =>
    have d0 : (decide ¬ codeE inp e = 0) = true := decide_eq_true hc
    rw [if_neg hc] at hbA
    rw [fE_bad hc]
    generalize codeE inp e = code at *
    refine SRun.callR (B2 _ _) ⟨[], rfl, rfl⟩ rfl ?_
    rw [hbA]
    simp (disch := omega) only [aigV, go_sem]
    refine SRun.allocR ?_
    intro b6 hb6
    simp (disch := omega) only [go_sem]
    have g46 := le_upd (cs := [.int .i64 0, .isl false 2 (gsV [])]) hb6 _ _ g4
    simp (disch := omega) only [d0, g46, go_sem]
    exact W_retC c14_ok (r := .tup [.agg [.int .i64 0, .isl true 0 []], .int .i64 code]) (r' := .tup [cnfV 0 [], .int .i64 code]) (σ' := σ) (resV_2 rfl (upd_same _ _ _) rfl) ⟨fun d y hd => by
      obtain ⟨h4, h1⟩ := hσ2 d y hd
      rw [upd_ne _ _ h4]; exact le_upd hb6 _ _ h1, frz_tup (by exact ⟨zero_frz, .refl _, trivial⟩)⟩ ⟨rfl, rfl⟩
  have hB := built hc
  rw [if_pos hc] at hbA
  rw [fE_fine hc]
  have hinp := hB.rng
  have hgo := hB.gates
  have hgl := hB.few
  have hlit := hB.lit
  have hn := hB.nlit
  have hx := xor1 (y := liE inp e) hlit.1 (by have := hlit.2; omega)
  refine SRun.callR (B2 _ _) ⟨[], rfl, rfl⟩ rfl ?_
  rw [hbA]
  clear hbA B2
  generalize gsE inp e = gs at *
  generalize liE inp e = l at *
  simp (disch := omega) only [aigV, go_sem]
  refine SRun.allocR ?_
  intro b6 hb6
  simp (disch := omega) only [go_sem]
  have hσ3 : ∀ d x, σ d = some x → d ≠ b4 ∧ upd s2 b6 [.int .i64 inp, .isl false 2 (gsV gs)] d = some x := fun d x h => ⟨(hσ2 d x h).1, le_upd hb6 _ _ (hσ2 d x h).2⟩
  have g6 := upd_same s2 b6 [.int .i64 inp, .isl false 2 (gsV gs)]
  have g46 := le_upd (cs := [.int .i64 inp, .isl false 2 (gsV gs)]) hb6 _ _ g4
  generalize upd s2 b6 [.int .i64 inp, .isl false 2 (gsV gs)] = s3 at *
  refine W_drawW ?_
  refine DRun.mixE rfl ?_
  have hl1 : ([l] : List Int).length = 1 := rfl
  have hl0 : ([l] : List Int).getD (0 : Int).toNat 0 = l := rfl
  have hl2 : ([l] : List Int).getD 0 0 = l := rfl
  simp (disch := omega) only [g6, intsV, hl1, hl0, hl2, hx, go_sem]
  refine DS.callB (l04Not_ok (x := l) ⟨hlit.1, by have := hlit.2; omega⟩) ⟨[], rfl, rfl⟩ rfl rfl ?_
  simp (disch := omega) only [go_sem]
  refine DRun.callQ (Tseitins_ok (inp := inp) hinp hgl hgo hn) ⟨[], rfl, rfl⟩ ?_
  rintro r s ⟨rfl, hs⟩
  obtain rfl := hs.symm
  rw [tsA_fA]
  generalize inp + gs.length = vars at *
  generalize tsP inp gs (notP l) = cls at *
  have hA := fA.eq_1 vars cls
  generalize hq : cnfB vars cls = qq at *
  have hfin : ∀ c, ∀ d y, σ d = some y → upd s3 b4 c d = some y := fun c d y hd => by
    obtain ⟨h4, h1⟩ := hσ3 d y hd
    rw [upd_ne _ _ h4]; exact h1
  cases qq with
  | true =>
    rw [cond_true] at hA
    rw [hA]
    simp (disch := omega) only [g46, cnfV, go_sem]
    exact W_retC c14_ok (r := .tup [.agg [.int .i64 vars, .isl false 1 (clsV cls)], .int .i64 0]) (σ' := σ) (resV_2 rfl (upd_same _ _ _) rfl) (Conv.drop _ (hfin _)) ⟨rfl, rfl⟩
  | false =>
    rw [cond_false] at hA
    rw [hA]
    simp (disch := omega) only [g46, cnfV, go_sem]
    exact W_retC c14_ok (r := .tup [.agg [.int .i64 0, .isl false 1 (clsV [])], .int .i64 11]) (σ' := σ) (resV_2 rfl (upd_same _ _ _) rfl) (Conv.drop _ (hfin _)) ⟨rfl, rfl⟩
theorem stepW_sl_in3 {P : Program} {Γ : St} {f : FuncId} {n : Nat} {Q : V → St → Prop} {g : GI} {l : List GI} {kk : List It} {T : Ts} {σ : St} (ex : Bool) (es : Nat) (xs : List V) (k2 k3 : IntKind) (b c : Int) (h0 : 0 ≤ b) (h1 : b ≤ c) (h2 : c ≤ xs.length) : stepW P Γ f n Q (.sl es (.c (.isl ex es xs)) none (some (.c (.int k2 b))) (some (.c (.int k3 c)))) g l kk T σ = W P Γ f n Q (.ops l :: kk) (putT T g.d (.isl (decide (b = c)) es (xs.take b.toNat))) σ := by
  rw [stepW_pure (fun _ => rfl)]; simp [pureW, pureI, ev, cutV, h0, h1, h2]
def ansV (a : Ans) : V := .tup [.agg [.bool a.valid, boolsV a.vals, .isl false 2 (stepsV a.steps)], .int .i64 a.code]
theorem resV_2A {T : Ts} {a nn b p : Nat} {cs : List V} (h : look T a = .ptr b 0) (hb : σ b = some cs) (hl : nn = cs.length) : resV [.cell a true nn, .t p] T σ = some (.tup [.agg cs, look T p]) := by
  subst hl
  simp [resV, resV1, h, hb]
theorem ans_none {s s' : St} {c : Int} : Frz s s' (.tup [.agg [.bool false, .isl true 0 [], .isl true 0 []], .int .i64 c]) (ansV ⟨false, [], [], c⟩) :=
  frz_tup (by exact ⟨frz_agg (by exact ⟨.refl _, frz_nil _ _, frz_nil _ _, trivial⟩) (by simp [V.one, boolsV]), .refl _, trivial⟩)
theorem beq_int (a b : Int) : (a == b) = decide (a = b) := by by_cases h : a = b <;> simp [h]
end Go.Proofs.Ytdenfjbhkdhlkaa.Lg
