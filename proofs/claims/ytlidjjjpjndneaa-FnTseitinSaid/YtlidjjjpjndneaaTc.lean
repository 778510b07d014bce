/- Circuits as formulas: the reference's answer. -/
import Derived.Test.YtlidjjjpjndneaaTb
set_option linter.unusedSimpArgs false
set_option linter.unusedVariables false
namespace Go.Proofs.Ytlidjjjpjndneaa.Lg
open Go
attribute [local irreducible] SRun DS DRun
variable {Γ : St} {σ σ0 : St}
set_option maxHeartbeats 1000000 in
theorem Tseitins_ok {inp : Int} {gs : List (Int × Int)} {x : Int} (hinp : 0 ≤ inp ∧ inp ≤ 12) (hl : gs.length ≤ 400) (hg : GatesOK inp gs) (hx : LitOK inp gs x) : Ret Try.prog Γ 30 [aigV inp gs, .int .i64 x] σ (tsA inp gs x) σ := by
  have hsm := ts_small hinp.1 hg hx hl
  have hgl := gsV_len gs
  have hx' := hx
  unfold LitOK at hx'
  refine ret_of c30_ok rfl ?_
  simp (disch := omega) only [c30, aigV, go_sem, ↓if_pos, ne_eq, ↓reduceIte]
  refine SRun.boxR (by simp [ev, look, V.cells, V.one]) ?_
  intro b2 hb2
  simp (disch := omega) only [go_sem, ↓if_pos, ne_eq, ↓reduceIte]
  refine SRun.allocR ?_
  intro b4 hb4
  have n42 := (upd_none.1 hb4).1
  have g2 : upd (upd σ b2 [.int .i64 inp, .isl false 2 (gsV gs)]) b4 [.int .i64 0, .isl true 0 []] b2 = some [.int .i64 inp, .isl false 2 (gsV gs)] := by rw [upd_ne _ _ n42.symm, upd_same]
  have g4 : upd (upd σ b2 [.int .i64 inp, .isl false 2 (gsV gs)]) b4 [.int .i64 0, .isl true 0 []] b4 = some [.int .i64 0, .isl true 0 []] := upd_same _ _ _
  have hσ : ∀ d x, σ d = some x → d ≠ b4 ∧ upd (upd σ b2 [.int .i64 inp, .isl false 2 (gsV gs)]) b4 [.int .i64 0, .isl true 0 []] d = some x := fun d x h => ⟨fun e => by (subst e; rw [(upd_none.1 hb4).2] at h; cases h), le_upd hb4 _ _ (le_upd hb2 _ _ h)⟩
  generalize upd (upd σ b2 [.int .i64 inp, .isl false 2 (gsV gs)]) b4 [.int .i64 0, .isl true 0 []] = s1 at *
  simp (disch := omega) only [g2, go_sem, ↓if_pos, ne_eq, ↓reduceIte]
  refine SRun.callR (AigOKs_ok (inp := inp) (gs := gs) hinp hl hg) ⟨[], rfl, rfl⟩ rfl ?_
  simp (disch := omega) only [g2, go_sem, ↓if_pos, ne_eq, ↓reduceIte]
  refine SRun.callR (l04In_ok (inp := inp) (gs := gs) (ex := true) (lits := [x]) hinp hl (by simp) (fun y hy => by rw [List.mem_singleton.1 hy]; exact hx)) ⟨[], rfl, rfl⟩ rfl ?_
  simp (disch := omega) only [g2, hgl, go_sem, ↓if_pos, ne_eq, ↓reduceIte]
  refine SRun.allocR ?_
  intro b6 hb6
  have n62 : b6 ≠ b2 := fun e => by subst e; rw [g2] at hb6; cases hb6
  have n64 : b6 ≠ b4 := fun e => by subst e; rw [g4] at hb6; cases hb6
  simp (disch := omega) only [go_sem, ↓if_pos, ne_eq, ↓reduceIte]
  have own0 : OwnL (upd s1 b6 [.int .i64 (inp + gs.length), .isl true 0 []]) 1 ((tsCls inp gs 0).map rawV) (.isl true 0 []) (upd s1 b6 [.int .i64 (inp + gs.length), .isl true 0 []]) := OwnL.nil _ _
  refine W_loopC (α := Nat × V × St) (fun p => p.1 ≤ gs.length ∧ OwnL (upd s1 b6 [.int .i64 (inp + gs.length), p.2.1]) 1 ((tsCls inp gs p.1).map rawV) p.2.1 p.2.2)
    (fun p => [(1, .int .i64 x), (2, .ptr b2 0), (4, .ptr b4 0), (6, .ptr b6 0), (7, .int .i64 (p.1 : Nat))]) (fun p => p.2.2) (fun p => gs.length - p.1) (0, .isl true 0 [], _) ⟨by simp, own0⟩ (by simp (disch := omega) only [subT, Int.natCast_add, Int.cast_ofNat_Int, go_sem, ↓if_pos, ne_eq, ↓reduceIte] <;> (repeat' apply And.intro) <;> first | rfl | (congr 1; omega) | assumption) rfl ?_
  rintro ⟨i, q, s⟩ ⟨hi, ho⟩ ih
  dsimp only at hi ho
  have gs2 := ho.get (b := b2) (c := [.int .i64 inp, .isl false 2 (gsV gs)]) (by rw [upd_ne _ _ n62.symm]; exact g2)
  have gs6 := ho.get (upd_same _ b6 _)
  have gs4 := ho.get (b := b4) (c := [.int .i64 0, .isl true 0 []]) (by rw [upd_ne _ _ n64.symm]; exact g4)
  have hq1 := ho.one
  simp (disch := omega) only [gs2, hgl, go_sem, ↓if_pos, ne_eq, ↓reduceIte]
  first | refine iteW_dec (fun hq => ?_) (fun hq => ?_) | refine iteW_of (fun hq => ?_) (fun hq => ?_)
  · obtain ⟨q1, q2, q3, _, _⟩ := hg i (by omega)
    have hix : inp + 1 + (i : Int) = 1 + inp + i := by omega
    simp (disch := omega) only [gs2, gsV, go_sem, ↓if_pos, ne_eq, ↓reduceIte]
    generalize hgi : gs.getD i default = g at *
    obtain ⟨u, v⟩ := g
    dsimp only at q1 q2 q3
    have k1 := nodeL_ok (z := u) (N := inp + gs.length) q1 (by omega)
    have k2 := nodeL_ok (z := v) (N := inp + gs.length) (by omega) (by omega)
    simp (disch := omega) only [gV, go_sem, ↓if_pos, ne_eq, ↓reduceIte]
    refine SRun.callR (l04Lit_ok (x := u) (by omega)) ⟨[], rfl, rfl⟩ rfl ?_
    simp (disch := omega) only [List.getD_cons_zero, List.getD_cons_succ, go_sem, ↓if_pos, ne_eq, ↓reduceIte]
    simp (disch := omega) only [gs2, gsV, go_sem, ↓if_pos, ne_eq, ↓reduceIte]
    simp (disch := omega) only [hgi, gV, go_sem, ↓if_pos, ne_eq, ↓reduceIte]
    refine SRun.callR (l04Lit_ok (x := v) (by omega)) ⟨[], rfl, rfl⟩ rfl ?_
    simp (disch := omega) only [List.getD_cons_zero, List.getD_cons_succ, go_sem, ↓if_pos, ne_eq, ↓reduceIte]
    simp (disch := omega) only [gs6, Int.zero_sub, hix, go_sem, ↓if_pos, ne_eq, ↓reduceIte]
    refine SRun.appL (ys := (tsGate inp i (u, v)).map rawV) ho rfl (raw_ok _) (by rw [List.length_map, tsCls_len]; simp only [tsGate, List.length_map, List.length_cons, List.length_nil]; omega) ?_
    intro q' s8 ho8
    have hap : (tsCls inp gs i).map rawV ++ (tsGate inp i (u, v)).map rawV = (tsCls inp gs (i + 1)).map rawV := by rw [tsCls_succ, hgi, List.map_append]
    rw [hap] at ho8
    have g86 := ho8.get (upd_same _ b6 _)
    simp (disch := omega) only [g86, ho8.one, ho8.cells, go_sem, ↓if_pos, ne_eq, ↓reduceIte]
    have ho9 := ho8.upd (c' := [.int .i64 (inp + gs.length), q']) (upd_same _ b6 _)
    rw [upd_upd] at ho9
    exact ih (i + 1, q', _) _ _ ⟨by simp only; omega, ho9⟩ (by simp only; omega) (by simp (disch := omega) only [subT, Int.natCast_add, Int.cast_ofNat_Int, gsV, go_sem, ↓if_pos, ne_eq, ↓reduceIte] <;> (repeat' apply And.intro) <;> first | rfl | (congr 1; omega) | assumption) rfl
  · clear ih
    have hig : i = gs.length := by omega
    rw [hig] at ho
    clear hq
    simp (disch := omega) only [go_sem, ↓if_pos, ne_eq, ↓reduceIte]
    have hσA : ∀ d x, σ d = some x → d ≠ b4 ∧ d ≠ b6 ∧ s1 d = some x := fun d x hd => by
      obtain ⟨h4, h1⟩ := hσ d x hd
      exact ⟨h4, fun e => by (subst e; rw [h1] at hb6; cases hb6), h1⟩
    first | refine iteW_dec (fun h0 => ?_) (fun h0 => ?_) | refine iteW_of (fun h0 => ?_) (fun h0 => ?_)
    · subst h0
      simp (disch := omega) only [gs6, go_sem, ↓if_pos, ne_eq, ↓reduceIte]
      refine SRun.appL (ys := [.isl true 1 []]) ho rfl (by simp [V.cells, V.one]) (by rw [List.length_map, tsCls_len]; simp only [List.length_singleton]; omega) ?_
      intro q' s8 ho8
      have g86 := ho8.get (upd_same _ b6 _)
      have g84 := ho8.get (b := b4) (c := [.int .i64 0, .isl true 0 []]) (by rw [upd_ne _ _ n64.symm]; exact g4)
      simp (disch := omega) only [g86, g84, ho8.one, ho8.cells, go_sem, ↓if_pos, ne_eq, ↓reduceIte]
      have ho9 := ho8.upd (c' := [.int .i64 (inp + gs.length), q']) (upd_same _ b6 _)
      rw [upd_upd] at ho9
      have hrow : RowC (upd s1 b6 [.int .i64 (inp + gs.length), q']) (tsP inp gs 0) q' (upd s8 b6 [.int .i64 (inp + gs.length), q']) := RowC.end (tsCls inp gs gs.length) (.isl true 1 []) [] (by simp [tsP, tsEnd]) rfl ho9 rfl fun σ σ' => frz_nil _ _
      have hF : Frz (upd s8 b6 [.int .i64 (inp + gs.length), q']) emp (.agg [.int .i64 (inp + gs.length), q']) (cnfV (inp + gs.length) (tsP inp gs 0)) := frz_agg (by exact ⟨.refl _, hrow.frz (fun _ _ => rfl) (fun _ _ => rfl), trivial⟩) (by simp [V.one])
      refine SRun.callR (Ret.lendL (cnfOKb_ok hsm) (by exact ⟨hF, trivial⟩) (Plain.bool _)) ⟨[], rfl, rfl⟩ rfl ?_
      have h86 : (upd s8 b6 [.int .i64 (inp + gs.length), q']) b6 = some [.int .i64 (inp + gs.length), q'] := upd_same _ _ _
      have h84 : (upd s8 b6 [.int .i64 (inp + gs.length), q']) b4 = some [.int .i64 0, .isl true 0 []] := by rw [upd_ne _ _ n64.symm]; exact g84
      have hone : (q').one = true := ho8.one
      have hdone := ts_done (b4 := b4) (σ := σ) rfl hrow ⟨_, g4⟩ hσA
      generalize upd s8 b6 [.int .i64 (inp + gs.length), q'] = s9 at *
      generalize hqq : cnfB (inp + gs.length) (tsP inp gs 0) = qq
      have hA : tsA inp gs 0 = bif qq then .tup [cnfV (inp + gs.length) (tsP inp gs 0), .int .i64 0] else .tup [cnfV 0 [], .int .i64 11] := by rw [← hqq]; rfl
      cases qq with
      | true =>
        simp (disch := omega) only [h84, h86, hone, go_sem, ↓if_pos, ne_eq, ↓reduceIte]
        exact W_retC c30_ok (r := .tup [.agg [.int .i64 (inp + gs.length), q'], .int .i64 0]) (r' := .tup [cnfV (inp + gs.length) (tsP inp gs 0), .int .i64 0]) (σ' := σ) (resV_2 rfl (upd_same _ _ _) rfl) ⟨hdone.1, frz_tup (by exact ⟨hdone.2, .refl _, trivial⟩)⟩ ⟨hA.symm, rfl⟩
      | false =>
        simp (disch := omega) only [h84, go_sem, ↓if_pos, ne_eq, ↓reduceIte]
        exact W_retC c30_ok (r := .tup [.agg [.int .i64 0, .isl true 0 []], .int .i64 11]) (r' := .tup [cnfV 0 [], .int .i64 11]) (σ' := σ) (resV_2 rfl (upd_same _ _ _) rfl) ⟨fun d y hd => by have := hdone.1 d y hd; rw [upd_ne _ _ (hσA d y hd).1] at this ⊢; exact this, frz_tup (by exact ⟨zero_frz, .refl _, trivial⟩)⟩ ⟨hA.symm, rfl⟩
    · simp (disch := omega) only [go_sem, ↓if_pos, ne_eq, ↓reduceIte]
      first | refine iteW_dec (fun h1 => ?_) (fun h1 => ?_) | refine iteW_of (fun h1 => ?_) (fun h1 => ?_)
      · subst h1
        have hrow : RowC (upd s1 b6 [.int .i64 (inp + gs.length), q]) (tsP inp gs 1) q s := by
          have : tsP inp gs 1 = tsCls inp gs gs.length := by simp [tsP, tsEnd]
          rw [this]; exact RowC.of ho
        simp (disch := omega) only [gs6, go_sem, ↓if_pos, ne_eq, ↓reduceIte]
        have hF : Frz (s) emp (.agg [.int .i64 (inp + gs.length), q]) (cnfV (inp + gs.length) (tsP inp gs 1)) := frz_agg (by exact ⟨.refl _, hrow.frz (fun _ _ => rfl) (fun _ _ => rfl), trivial⟩) (by simp [V.one])
        refine SRun.callR (Ret.lendL (cnfOKb_ok hsm) (by exact ⟨hF, trivial⟩) (Plain.bool _)) ⟨[], rfl, rfl⟩ rfl ?_
        have h86 : (s) b6 = some [.int .i64 (inp + gs.length), q] := gs6
        have h84 : (s) b4 = some [.int .i64 0, .isl true 0 []] := gs4
        have hone : (q).one = true := hq1
        have hdone := ts_done (b4 := b4) (σ := σ) rfl hrow ⟨_, g4⟩ hσA
        generalize s = s9 at *
        generalize hqq : cnfB (inp + gs.length) (tsP inp gs 1) = qq
        have hA : tsA inp gs 1 = bif qq then .tup [cnfV (inp + gs.length) (tsP inp gs 1), .int .i64 0] else .tup [cnfV 0 [], .int .i64 11] := by rw [← hqq]; rfl
        cases qq with
        | true =>
          simp (disch := omega) only [h84, h86, hone, go_sem, ↓if_pos, ne_eq, ↓reduceIte]
          exact W_retC c30_ok (r := .tup [.agg [.int .i64 (inp + gs.length), q], .int .i64 0]) (r' := .tup [cnfV (inp + gs.length) (tsP inp gs 1), .int .i64 0]) (σ' := σ) (resV_2 rfl (upd_same _ _ _) rfl) ⟨hdone.1, frz_tup (by exact ⟨hdone.2, .refl _, trivial⟩)⟩ ⟨hA.symm, rfl⟩
        | false =>
          simp (disch := omega) only [h84, go_sem, ↓if_pos, ne_eq, ↓reduceIte]
          exact W_retC c30_ok (r := .tup [.agg [.int .i64 0, .isl true 0 []], .int .i64 11]) (r' := .tup [cnfV 0 [], .int .i64 11]) (σ' := σ) (resV_2 rfl (upd_same _ _ _) rfl) ⟨fun d y hd => by have := hdone.1 d y hd; rw [upd_ne _ _ (hσA d y hd).1] at this ⊢; exact this, frz_tup (by exact ⟨zero_frz, .refl _, trivial⟩)⟩ ⟨hA.symm, rfl⟩
      · refine W_drawW ?_
        refine DRun.mixE rfl ?_
        simp (disch := omega) only [gs6, go_sem, ↓if_pos, ne_eq, ↓reduceIte]
        refine DS.callB (l04Lit_ok (x := x) (by omega)) ⟨[], rfl, rfl⟩ rfl rfl ?_
        simp (disch := omega) only [go_sem, ↓if_pos, ne_eq, ↓reduceIte]
        refine DRun.appL (ys := [rawV [nodeL x]]) ho rfl (raw_ok [[nodeL x]]) (by rw [List.length_map, tsCls_len]; simp only [List.length_singleton]; omega) ?_
        intro q' s8 ho8
        have g86 := ho8.get (upd_same _ b6 _)
        have g84 := ho8.get (b := b4) (c := [.int .i64 0, .isl true 0 []]) (by rw [upd_ne _ _ n64.symm]; exact g4)
        simp (disch := omega) only [g86, g84, ho8.one, ho8.cells, go_sem, ↓if_pos, ne_eq, ↓reduceIte]
        have ho9 := ho8.upd (c' := [.int .i64 (inp + gs.length), q']) (upd_same _ b6 _)
        rw [upd_upd] at ho9
        have hrow : RowC (upd s1 b6 [.int .i64 (inp + gs.length), q']) (tsP inp gs x) q' (upd s8 b6 [.int .i64 (inp + gs.length), q']) := RowC.end (tsCls inp gs gs.length) (rawV [nodeL x]) [nodeL x] (by simp [tsP, tsEnd, h0, h1]) rfl ho9 rfl fun σ σ' => rawV_frz _
        have hF : Frz (upd s8 b6 [.int .i64 (inp + gs.length), q']) emp (.agg [.int .i64 (inp + gs.length), q']) (cnfV (inp + gs.length) (tsP inp gs x)) := frz_agg (by exact ⟨.refl _, hrow.frz (fun _ _ => rfl) (fun _ _ => rfl), trivial⟩) (by simp [V.one])
        refine SRun.callR (Ret.lendL (cnfOKb_ok hsm) (by exact ⟨hF, trivial⟩) (Plain.bool _)) ⟨[], rfl, rfl⟩ rfl ?_
        have h86 : (upd s8 b6 [.int .i64 (inp + gs.length), q']) b6 = some [.int .i64 (inp + gs.length), q'] := upd_same _ _ _
        have h84 : (upd s8 b6 [.int .i64 (inp + gs.length), q']) b4 = some [.int .i64 0, .isl true 0 []] := by rw [upd_ne _ _ n64.symm]; exact g84
        have hone : (q').one = true := ho8.one
        have hdone := ts_done (b4 := b4) (σ := σ) rfl hrow ⟨_, g4⟩ hσA
        generalize upd s8 b6 [.int .i64 (inp + gs.length), q'] = s9 at *
        generalize hqq : cnfB (inp + gs.length) (tsP inp gs x) = qq
        have hA : tsA inp gs x = bif qq then .tup [cnfV (inp + gs.length) (tsP inp gs x), .int .i64 0] else .tup [cnfV 0 [], .int .i64 11] := by rw [← hqq]; rfl
        cases qq with
        | true =>
          simp (disch := omega) only [h84, h86, hone, go_sem, ↓if_pos, ne_eq, ↓reduceIte]
          exact W_retC c30_ok (r := .tup [.agg [.int .i64 (inp + gs.length), q'], .int .i64 0]) (r' := .tup [cnfV (inp + gs.length) (tsP inp gs x), .int .i64 0]) (σ' := σ) (resV_2 rfl (upd_same _ _ _) rfl) ⟨hdone.1, frz_tup (by exact ⟨hdone.2, .refl _, trivial⟩)⟩ ⟨hA.symm, rfl⟩
        | false =>
          simp (disch := omega) only [h84, go_sem, ↓if_pos, ne_eq, ↓reduceIte]
          exact W_retC c30_ok (r := .tup [.agg [.int .i64 0, .isl true 0 []], .int .i64 11]) (r' := .tup [cnfV 0 [], .int .i64 11]) (σ' := σ) (resV_2 rfl (upd_same _ _ _) rfl) ⟨fun d y hd => by have := hdone.1 d y hd; rw [upd_ne _ _ (hσA d y hd).1] at this ⊢; exact this, frz_tup (by exact ⟨zero_frz, .refl _, trivial⟩)⟩ ⟨hA.symm, rfl⟩
end Go.Proofs.Ytlidjjjpjndneaa.Lg
