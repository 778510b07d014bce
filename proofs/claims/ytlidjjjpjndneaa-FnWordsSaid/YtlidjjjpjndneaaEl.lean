/- Circuits of expressions: the program's. -/
import Derived.Test.YtlidjjjpjndneaaEk
set_option linter.unusedSimpArgs false
set_option linter.unusedVariables false
namespace Go.Proofs.Ytlidjjjpjndneaa.Lg
open Go
attribute [local irreducible] SRun DS DRun
variable {Γ : St} {σ σ0 : St}
section
variable {A : St} {b : Nat} {inp : Int} {gs : List (Int × Int)} {L : List Int} {t : V} {s : St}
theorem Mk2.blk (h : Mk2 A b inp gs L t s) : ∃ q, s b = some [.int .i64 inp, q] := by
  obtain ⟨B, h1, _⟩ := h.mk; exact h1.blk
theorem Mk2.ext (h : Mk2 A b inp gs L t s) {d : Nat} {z : List V} (hd : s d = none) : Mk2 (upd A d z) b inp gs L t (upd s d z) ∧ d ≠ b := by
  obtain ⟨q0, h0⟩ := h.blk
  have hne : d ≠ b := fun e => by subst e; rw [h0] at hd; cases hd
  obtain ⟨q, B, h1, h2⟩ := h
  have hB : B d = none := by
    cases hc : B d with
    | none => rfl
    | some x => rw [h2.get hc] at hd; cases hd
  have h1' := h1.ext (z := z) hB
  rw [upd_comm _ hne.symm] at h1'
  exact ⟨⟨q, _, h1', h2.ext hd⟩, hne⟩
theorem Mk2.upd (h : Mk2 A b inp gs L t s) {d : Nat} {x z : List V} (hd : d ≠ b) (hA : A d = some x) : Mk2 (Lg.upd A d z) b inp gs L t (Lg.upd s d z) := by
  obtain ⟨q, B, h1, h2⟩ := h
  have h1' := h1.upd (b := d) (c := x) (c' := z) (by rw [upd_ne _ _ hd]; exact hA)
  rw [upd_comm _ hd.symm] at h1'
  exact ⟨q, _, h1', h2.upd (h1.get (by rw [upd_ne _ _ hd]; exact hA))⟩
/-- What is read of it, and what it is given up to. -/
theorem Mk2.done (h : Mk2 A b inp gs L t s) : ∃ q, s b = some [.int .i64 inp, q] ∧ q.one = true ∧ (∀ σ, (∀ d x, σ d = some x → d ≠ b ∧ A d = some x) → (∀ d x, σ d = some x → s d = some x) ∧ Frz s σ q (.isl false 2 (gsV gs)) ∧ Frz s σ t (intsV L)) ∧ ∃ B, OwnL B 2 (gsV gs) q s := by
  obtain ⟨q, B, h1, h2⟩ := h
  obtain ⟨B', h3, h4⟩ := own_swap h1 h2
  have hb := h2.get (h1.get (upd_same _ _ _))
  refine ⟨q, hb, h2.one, fun σ hσ => ?_, B, h2⟩
  have hA : ∀ d x, σ d = some x → Lg.upd A b [.int .i64 inp, q] d = some x := fun d x hd => by
    rw [upd_ne _ _ (hσ d x hd).1]; exact (hσ d x hd).2
  have hn : ∀ {C : St}, (∀ d x, Lg.upd A b [.int .i64 inp, q] d = some x → C d = some x) → ∀ d, C d = none → σ d = none := by
    intro C hC d hd
    cases hc : σ d with
    | none => rfl
    | some x => rw [hC _ _ (hA _ _ hc)] at hd; cases hd
  exact ⟨fun d x hd => h2.le _ _ (h1.le _ _ (hA _ _ hd)), h2.frz (fun _ _ => rfl) (hn h1.le), h4.frz (fun _ _ => rfl) (hn h3.le)⟩
end
theorem resV_3 {T : Ts} {a nn b p q : Nat} {cs : List V} (h : look T a = .ptr b 0) (hb : σ b = some cs) (hl : nn = cs.length) : resV [.cell a true nn, .t p, .t q] T σ = some (.tup [.agg cs, look T p, look T q]) := by
  subst hl
  simp [resV, resV1, h, hb]
def aigV (inp : Int) (gs : List (Int × Int)) : V := .agg [.int .i64 inp, .isl false 2 (gsV gs)]
/-- What a list of expressions must be to be built. -/
structure Fit (inp : Int) (ks : List Ex) : Prop where
  ok : ∀ e ∈ ks, okE e = true
  most : mostL ks < inp
  inner : 3 * innerL ks ≤ 400
  len : ks.length ≤ 1000
theorem okE_right {e : Ex} (h : okE e = true) : rightE e = true ∧ sizeE e ≤ 400 ∧ depthE e ≤ 40 := by
  simp only [okE, Bool.and_eq_true, decide_eq_true_eq] at h
  exact ⟨h.1.1, h.1.2, h.2⟩
set_option maxHeartbeats 1000000 in
theorem buildAig_ok {inp : Int} (hinp : 0 ≤ inp ∧ inp ≤ 12) {ex : Bool} {ks : List Ex} (hf : Fit inp ks) :
    Ret Try.prog Γ 74 [.int .i64 inp, .isl ex 3 (exsV ks)] σ (.tup [aigV inp (makeL inp ks []).2, intsV (makeL inp ks []).1, .int .i64 0]) σ := by
  have hin := hf.inner
  have hlen := hf.len
  have hLL := makeL_ok (inp := inp) (fun e he => makeP_ok hinp.1 e (okE_right (hf.ok e he)).1) hf.most []
  have hb : (decide (0 ≤ inp) && decide (inp ≤ 12)) = true := by simp; omega
  refine ret_of c74_ok rfl ?_
  simp (disch := omega) only [c74, go_sem, ↓if_pos, ne_eq, ↓reduceIte]
  refine SRun.allocR ?_
  intro b4 hb4
  simp (disch := omega) only [go_sem, ↓if_pos, ne_eq, ↓reduceIte]
  refine SRun.callR (within_ok inp 0 12) ⟨[], rfl, rfl⟩ rfl ?_
  simp (disch := omega) only [List.getD_cons_zero, List.getD_cons_succ, go_sem, ↓if_pos, ne_eq, ↓reduceIte]
  simp (disch := omega) only [hb, go_sem, ↓if_pos, ne_eq, ↓reduceIte]
  refine W_loopC (α := Nat × St) (fun p => p.1 ≤ ks.length ∧ ∀ d x, upd σ b4 [.int .i64 0, .isl true 0 []] d = some x → p.2 d = some x) (fun p => [(0, .int .i64 inp), (1, .isl ex 3 (exsV ks)), (4, .ptr b4 0), (17, .isl ex 3 (exsV ks)), (18, .int .i64 ks.length), (19, .int .i64 (p.1 : Nat))]) (fun p => p.2) (fun p => ks.length - p.1) (0, upd σ b4 [.int .i64 0, .isl true 0 []]) ⟨by omega, fun _ _ h => h⟩ (by simp (disch := omega) only [subT, Int.natCast_add, Int.cast_ofNat_Int, go_sem, ↓if_pos, ne_eq, ↓reduceIte] <;> (repeat' apply And.intro) <;> first | rfl | (congr 1; omega) | assumption) rfl ?_
  rintro ⟨i, s⟩ ⟨hi, hs⟩ ih
  dsimp only at hi hs
  simp (disch := omega) only [go_sem, ↓if_pos, ne_eq, ↓reduceIte]
  first | refine iteW_dec (fun hq => ?_) (fun hq => ?_) | refine iteW_of (fun hq => ?_) (fun hq => ?_)
  · have he := getD_mem default (by omega : i < ks.length)
    have hok := hf.ok _ he
    have hr := okE_right hok
    have hmE := mostL_mem he
    have hmost := hf.most
    have hc1 := exC_one (ks.getD i default)
    simp (disch := omega) only [go_sem, ↓if_pos, ne_eq, ↓reduceIte]
    refine SRun.allocR ?_
    intro b8 hb8
    simp (disch := omega) only [hc1, go_sem, ↓if_pos, ne_eq, ↓reduceIte]
    refine SRun.callR (isEx_ok (e := ks.getD i default) (by omega)) ⟨[], rfl, rfl⟩ rfl ?_
    simp (disch := omega) only [List.getD_cons_zero, List.getD_cons_succ, go_sem, ↓if_pos, ne_eq, ↓reduceIte]
    simp (disch := omega) only [hok, go_sem, ↓if_pos, ne_eq, ↓reduceIte]
    refine SRun.callR (mostVar_ok (ks.getD i default) hr.1 (by omega)) ⟨[], rfl, rfl⟩ rfl ?_
    simp (disch := omega) only [List.getD_cons_zero, List.getD_cons_succ, go_sem, ↓if_pos, ne_eq, ↓reduceIte]
    exact ih (i + 1, _) _ _ ⟨by simp only; omega, fun d x h => le_upd hb8 _ _ (hs _ _ h)⟩ (by simp only; omega) (by simp (disch := omega) only [subT, Int.natCast_add, Int.cast_ofNat_Int, go_sem, ↓if_pos, ne_eq, ↓reduceIte] <;> (repeat' apply And.intro) <;> first | rfl | (congr 1; omega) | assumption) rfl
  · clear ih
    have g4 := hs b4 _ (upd_same _ _ _)
    have hσs : ∀ d x, σ d = some x → s d = some x := fun d x h => hs _ _ (le_upd hb4 _ _ h)
    clear hs
    simp (disch := omega) only [go_sem, ↓if_pos, ne_eq, ↓reduceIte]
    refine SRun.allocR ?_
    intro b9 hb9
    have n49 : b4 ≠ b9 := fun e => by subst e; rw [g4] at hb9; cases hb9
    simp (disch := omega) only [go_sem, ↓if_pos, ne_eq, ↓reduceIte]
    have hmk0 : Mk2 s b9 inp [] [] (.isl true 0 []) (upd s b9 [.int .i64 inp, .isl true 0 []]) := ⟨.isl true 0 [], _, OwnL.nil _ _, OwnL.nil _ _⟩
    refine W_loopC (α := List Int × List (Int × Int) × V × St × St) (fun p => p.1.length ≤ ks.length ∧ Mk2 p.2.2.2.1 b9 inp p.2.1 p.1 p.2.2.1 p.2.2.2.2 ∧ makeL inp ks [] = (p.1 ++ (makeL inp (ks.drop p.1.length) p.2.1).1, (makeL inp (ks.drop p.1.length) p.2.1).2) ∧ p.2.1.length + 3 * innerL (ks.drop p.1.length) ≤ 3 * innerL ks ∧
        ∀ d x, s d = some x → p.2.2.2.1 d = some x)
      (fun p => [(4, .ptr b4 0), (9, .ptr b9 0), (10, p.2.2.1), (35, .isl ex 3 (exsV ks)), (36, .int .i64 ks.length), (37, .int .i64 (p.1.length : Nat))]) (fun p => p.2.2.2.2) (fun p => ks.length - p.1.length) ([], [], .isl true 0 [], s, upd s b9 [.int .i64 inp, .isl true 0 []]) ⟨by simp, hmk0, by simp, by simp, fun _ _ h => h⟩ (by simp (disch := omega) only [subT, Int.natCast_add, Int.cast_ofNat_Int, go_sem, ↓if_pos, ne_eq, ↓reduceIte] <;> (repeat' apply And.intro) <;> first | rfl | (congr 1; omega) | assumption) rfl ?_
    rintro ⟨L, g2, t, A2, s2⟩ ⟨hL, hmk, hmake, hing, hle2⟩ ih2
    dsimp only at hL hmk hmake hing hle2
    simp (disch := omega) only [go_sem, ↓if_pos, ne_eq, ↓reduceIte]
    first | refine iteW_dec (fun hq2 => ?_) (fun hq2 => ?_) | refine iteW_of (fun hq2 => ?_) (fun hq2 => ?_)
    · have he := getD_mem default (by omega : L.length < ks.length)
      have hok := hf.ok _ he
      have hr := okE_right hok
      have hmE := mostL_mem he
      have hmost := hf.most
      rw [makeL_drop (by omega)] at hmake
      rw [innerL_drop (by omega)] at hing
      have hc1 := exC_one (ks.getD L.length default)
      simp (disch := omega) only [go_sem, ↓if_pos, ne_eq, ↓reduceIte]
      refine SRun.allocR ?_
      intro b12 hb12
      obtain ⟨hmk12, n12⟩ := hmk.ext (z := exC (ks.getD L.length default)) hb12
      have hA12 : A2 b12 = none := by
        cases hc : A2 b12 with
        | none => rfl
        | some x => rw [hmk.get n12 hc] at hb12; cases hb12
      simp (disch := omega) only [hc1, go_sem, ↓if_pos, ne_eq, ↓reduceIte]
      obtain ⟨B, hB1, hB2⟩ := hmk12.mk
      refine SRun.callQ (build_mk hinp _ hr.1 hB1 (by omega) (by omega)) ⟨[], rfl, rfl⟩ rfl ?_
      rintro r s8 ⟨rfl, hm8⟩
      have hmk8 := hB2 _ _ hm8
      obtain ⟨B', hC1, _, hC2⟩ := hmk8.app
      simp (disch := omega) only [go_sem, ↓if_pos, ne_eq, ↓reduceIte]
      refine SRun.appL hC1 rfl (by simp [V.cells, V.one]) (by simp only [ints_len, List.length_singleton]; omega) ?_
      intro t' s9 ho9
      rw [ints_app] at ho9
      have hmk9 := hC2 _ _ _ ho9
      obtain ⟨q, gq, q1, _, Bq, hBq⟩ := hmk9.done
      have hbnd := (makeP_ok hinp.1 _ hr.1 g2 (by omega)).2.2
      simp (disch := omega) only [gq, stepW_len_own hBq, gsV_len, go_sem, ↓if_pos, ne_eq, ↓reduceIte]
      refine ih2 (L ++ [(makeP inp (ks.getD L.length default) g2).1], (makeP inp (ks.getD L.length default) g2).2, t', upd A2 b12 (exC (ks.getD L.length default)), s9) _ _ ⟨by simp only [List.length_append, List.length_singleton]; omega, hmk9, ?_, ?_, fun d x h => le_upd hA12 _ _ (hle2 _ _ h)⟩ (by simp only [List.length_append, List.length_singleton]; omega) (by simp (disch := omega) only [subT, Int.natCast_add, Int.cast_ofNat_Int, List.length_append, List.length_singleton, go_sem, ↓if_pos, ne_eq, ↓reduceIte] <;> (repeat' apply And.intro) <;> first | rfl | (congr 1; omega) | assumption) rfl
      · simp only [List.length_append, List.length_singleton]; rw [hmake]; simp
      · simp only [List.length_append, List.length_singleton]
        omega
    · have hLk : L.length = ks.length := by omega
      rw [hLk, List.drop_length] at hmake
      simp only [makeL, List.append_nil] at hmake
      rw [hmake]
      have s4 := hmk.get n49 (hle2 _ _ g4)
      obtain ⟨q, gq, q1, _, _⟩ := hmk.done
      have hmk4 := hmk.upd (z := [.int .i64 inp, q]) n49 (hle2 _ _ g4)
      obtain ⟨q', gq', q1', hfin, _⟩ := hmk4.done
      have hqq : q' = q := by
        rw [upd_ne _ _ n49.symm, gq] at gq'
        simpa using gq'.symm
      subst hqq
      simp (disch := omega) only [gq, s4, q1, go_sem, ↓if_pos, ne_eq, ↓reduceIte]
      obtain ⟨f1, f2, f3⟩ := hfin σ fun d x hd => by
        have h4 : d ≠ b4 := fun e => by subst e; rw [hb4] at hd; cases hd
        have hsd := hσs _ _ hd
        have h9 : d ≠ b9 := fun e => by subst e; rw [hsd] at hb9; cases hb9
        exact ⟨h9, by rw [upd_ne _ _ h4]; exact hle2 _ _ hsd⟩
      refine W_retC c74_ok (r := .tup [.agg [.int .i64 inp, q'], t, .int .i64 0]) (r' := .tup [aigV inp g2, intsV L, .int .i64 0]) (σ' := σ) (resV_3 rfl (upd_same _ _ _) rfl) ⟨f1, frz_tup (by exact ⟨frz_agg (by exact ⟨.refl _, f2, trivial⟩) (by simp [V.one]), f3, .refl _, trivial⟩)⟩ ⟨rfl, rfl⟩
theorem BuildAig_ok {inp : Int} (hinp : 0 ≤ inp ∧ inp ≤ 12) {ex : Bool} {ks : List Ex} (hf : Fit inp ks) :
    Ret Try.prog Γ 20 [.int .i64 inp, .isl ex 3 (exsV ks)] σ (.tup [aigV inp (makeL inp ks []).2, intsV (makeL inp ks []).1, .int .i64 0]) σ := by
  have hlen := hf.len
  refine ret_of c20_ok rfl ?_
  simp (disch := omega) only [c20, go_sem, ↓if_pos, ne_eq, ↓reduceIte]
  refine SRun.allocR ?_
  intro b4 hb4
  simp (disch := omega) only [go_sem, ↓if_pos, ne_eq, ↓reduceIte]
  refine SRun.callR (buildAig_ok hinp (ex := ex) hf) ⟨[], rfl, rfl⟩ rfl ?_
  simp (disch := omega) only [List.getD_cons_zero, List.getD_cons_succ, go_sem, ↓if_pos, ne_eq, ↓reduceIte]
  simp (disch := omega) only [aigV, go_sem, ↓if_pos, ne_eq, ↓reduceIte]
  exact W_retC c20_ok (r := .tup [aigV inp (makeL inp ks []).2, intsV (makeL inp ks []).1, .int .i64 0]) (r' := .tup [aigV inp (makeL inp ks []).2, intsV (makeL inp ks []).1, .int .i64 0]) (σ' := σ) (resV_3 rfl (upd_same _ _ _) rfl) (Conv.drop _ (le_upd hb4)) ⟨rfl, rfl⟩
set_option maxHeartbeats 1000000 in
theorem BuildAigs_ok {inp : Int} (hinp : 0 ≤ inp ∧ inp ≤ 12) {ex : Bool} {ks : List Ex} (hf : Fit inp ks) :
    Ret Try.prog Γ 21 [.int .i64 inp, .isl ex 3 (exsV ks)] σ (.tup [aigV inp (makeL inp ks []).2, intsV (makeL inp ks []).1, .int .i64 0]) σ := by
  have hin := hf.inner
  have hlen := hf.len
  have hLL := makeL_ok (inp := inp) (fun e he => makeP_ok hinp.1 e (okE_right (hf.ok e he)).1) hf.most []
  have hb : (decide (0 ≤ inp) && decide (inp ≤ 12)) = true := by simp; omega
  refine ret_of c21_ok rfl ?_
  simp (disch := omega) only [c21, go_sem, ↓if_pos, ne_eq, ↓reduceIte]
  refine SRun.allocR ?_
  intro b4 hb4
  simp (disch := omega) only [go_sem, ↓if_pos, ne_eq, ↓reduceIte]
  refine SRun.callR (l01In_ok inp 0 12) ⟨[], rfl, rfl⟩ rfl ?_
  simp (disch := omega) only [List.getD_cons_zero, List.getD_cons_succ, go_sem, ↓if_pos, ne_eq, ↓reduceIte]
  simp (disch := omega) only [hb, go_sem, ↓if_pos, ne_eq, ↓reduceIte]
  refine W_loopC (α := Nat) (fun i => i ≤ ks.length) (fun i => [(0, .int .i64 inp), (1, .isl ex 3 (exsV ks)), (4, .ptr b4 0), (7, .int .i64 (i : Nat))]) (fun _ => upd σ b4 [.int .i64 0, .isl true 0 []]) (fun i => ks.length - i) 0 (by omega) (by simp (disch := omega) only [subT, Int.natCast_add, Int.cast_ofNat_Int, go_sem, ↓if_pos, ne_eq, ↓reduceIte] <;> (repeat' apply And.intro) <;> first | rfl | (congr 1; omega) | assumption) rfl ?_
  intro i hi ih
  simp (disch := omega) only [go_sem, ↓if_pos, ne_eq, ↓reduceIte]
  first | refine iteW_dec (fun hq => ?_) (fun hq => ?_) | refine iteW_of (fun hq => ?_) (fun hq => ?_)
  · have he := getD_mem default (by omega : i < ks.length)
    have hok := hf.ok _ he
    have hr := okE_right hok
    have hmE := mostL_mem he
    have hmost := hf.most
    simp (disch := omega) only [go_sem, ↓if_pos, ne_eq, ↓reduceIte]
    refine SRun.callR (ExOKs_ok hok) ⟨[], rfl, rfl⟩ rfl ?_
    simp (disch := omega) only [List.getD_cons_zero, List.getD_cons_succ, go_sem, ↓if_pos, ne_eq, ↓reduceIte]
    refine SRun.callR (l04Most_ok (ks.getD i default) hr.1 (by omega)) ⟨[], rfl, rfl⟩ rfl ?_
    simp (disch := omega) only [List.getD_cons_zero, List.getD_cons_succ, go_sem, ↓if_pos, ne_eq, ↓reduceIte]
    exact ih (i + 1) _ _ (by omega) (by omega) (by simp (disch := omega) only [subT, Int.natCast_add, Int.cast_ofNat_Int, go_sem, ↓if_pos, ne_eq, ↓reduceIte] <;> (repeat' apply And.intro) <;> first | rfl | (congr 1; omega) | assumption) rfl
  · clear ih
    have g4 : upd σ b4 [.int .i64 0, .isl true 0 []] b4 = some [.int .i64 0, .isl true 0 []] := upd_same _ _ _
    have hσs : ∀ d x, σ d = some x → upd σ b4 [.int .i64 0, .isl true 0 []] d = some x := fun d x h => le_upd hb4 _ _ h
    generalize upd σ b4 [.int .i64 0, .isl true 0 []] = s at *
    simp (disch := omega) only [go_sem, ↓if_pos, ne_eq, ↓reduceIte]
    refine SRun.boxR (by simp [ev, look, V.cells, V.one]) ?_
    intro b9 hb9
    have n49 : b4 ≠ b9 := fun e => by subst e; rw [g4] at hb9; cases hb9
    simp (disch := omega) only [go_sem, ↓if_pos, ne_eq, ↓reduceIte]
    have hmk0 : Mk2 s b9 inp [] [] (.isl true 1 []) (upd s b9 [.int .i64 inp, .isl true 0 []]) := ⟨.isl true 0 [], _, OwnL.nil _ _, OwnL.nil _ _⟩
    refine W_loopC (α := List Int × List (Int × Int) × V × St) (fun p => p.1.length ≤ ks.length ∧ Mk2 s b9 inp p.2.1 p.1 p.2.2.1 p.2.2.2 ∧ makeL inp ks [] = (p.1 ++ (makeL inp (ks.drop p.1.length) p.2.1).1, (makeL inp (ks.drop p.1.length) p.2.1).2) ∧ p.2.1.length + 3 * innerL (ks.drop p.1.length) ≤ 3 * innerL ks)
      (fun p => [(1, .isl ex 3 (exsV ks)), (4, .ptr b4 0), (8, .ptr b9 0), (9, p.2.2.1), (10, .int .i64 (p.1.length : Nat))]) (fun p => p.2.2.2) (fun p => ks.length - p.1.length) ([], [], .isl true 1 [], upd s b9 [.int .i64 inp, .isl true 0 []]) ⟨by simp, hmk0, by simp, by simp⟩ (by simp (disch := omega) only [subT, Int.natCast_add, Int.cast_ofNat_Int, go_sem, ↓if_pos, ne_eq, ↓reduceIte] <;> (repeat' apply And.intro) <;> first | rfl | (congr 1; omega) | assumption) rfl ?_
    rintro ⟨L, g2, t, s2⟩ ⟨hL, hmk, hmake, hing⟩ ih2
    dsimp only at hL hmk hmake hing
    simp (disch := omega) only [go_sem, ↓if_pos, ne_eq, ↓reduceIte]
    first | refine iteW_dec (fun hq2 => ?_) (fun hq2 => ?_) | refine iteW_of (fun hq2 => ?_) (fun hq2 => ?_)
    · have he := getD_mem default (by omega : L.length < ks.length)
      have hok := hf.ok _ he
      have hr := okE_right hok
      have hmE := mostL_mem he
      have hmost := hf.most
      rw [makeL_drop (by omega)] at hmake
      rw [innerL_drop (by omega)] at hing
      simp (disch := omega) only [go_sem, ↓if_pos, ne_eq, ↓reduceIte]
      obtain ⟨B, hB1, hB2⟩ := hmk.mk
      refine SRun.callQ (make_mk hinp _ hr.1 hB1 (by omega) (by omega)) ⟨[], rfl, rfl⟩ rfl ?_
      rintro r s8 ⟨rfl, hm8⟩
      have hmk8 := hB2 _ _ hm8
      obtain ⟨B', hC1, _, hC2⟩ := hmk8.app
      simp (disch := omega) only [go_sem, ↓if_pos, ne_eq, ↓reduceIte]
      refine SRun.appL hC1 rfl (by simp [V.cells, V.one]) (by simp only [ints_len, List.length_singleton]; omega) ?_
      intro t' s9 ho9
      rw [ints_app] at ho9
      have hmk9 := hC2 _ _ _ ho9
      obtain ⟨q, gq, q1, _, Bq, hBq⟩ := hmk9.done
      have hbnd := (makeP_ok hinp.1 _ hr.1 g2 (by omega)).2.2
      simp (disch := omega) only [gq, stepW_len_own hBq, gsV_len, go_sem, ↓if_pos, ne_eq, ↓reduceIte]
      refine ih2 (L ++ [(makeP inp (ks.getD L.length default) g2).1], (makeP inp (ks.getD L.length default) g2).2, t', s9) _ _ ⟨by simp only [List.length_append, List.length_singleton]; omega, hmk9, ?_, ?_⟩ (by simp only [List.length_append, List.length_singleton]; omega) (by simp (disch := omega) only [subT, Int.natCast_add, Int.cast_ofNat_Int, List.length_append, List.length_singleton, go_sem, ↓if_pos, ne_eq, ↓reduceIte] <;> (repeat' apply And.intro) <;> first | rfl | (congr 1; omega) | assumption) rfl
      · simp only [List.length_append, List.length_singleton]; rw [hmake]; simp
      · simp only [List.length_append, List.length_singleton]
        omega
    · have hLk : L.length = ks.length := by omega
      rw [hLk, List.drop_length] at hmake
      simp only [makeL, List.append_nil] at hmake
      rw [hmake]
      have s4 := hmk.get n49 g4
      obtain ⟨q, gq, q1, _, _⟩ := hmk.done
      have hmk4 := hmk.upd (z := [.int .i64 inp, q]) n49 g4
      obtain ⟨q', gq', q1', hfin, _⟩ := hmk4.done
      have hqq : q' = q := by
        rw [upd_ne _ _ n49.symm, gq] at gq'
        simpa using gq'.symm
      subst hqq
      simp (disch := omega) only [gq, s4, q1, go_sem, ↓if_pos, ne_eq, ↓reduceIte]
      obtain ⟨f1, f2, f3⟩ := hfin σ fun d x hd => by
        have h4 : d ≠ b4 := fun e => by subst e; rw [hb4] at hd; cases hd
        have hsd := hσs _ _ hd
        have h9 : d ≠ b9 := fun e => by subst e; rw [hsd] at hb9; cases hb9
        exact ⟨h9, by rw [upd_ne _ _ h4]; exact hsd⟩
      exact W_retC c21_ok (r := .tup [.agg [.int .i64 inp, q'], t, .int .i64 0]) (r' := .tup [aigV inp g2, intsV L, .int .i64 0]) (σ' := σ) (resV_3 rfl (upd_same _ _ _) rfl) ⟨f1, frz_tup (by exact ⟨frz_agg (by exact ⟨.refl _, f2, trivial⟩) (by simp [V.one]), f3, .refl _, trivial⟩)⟩ ⟨rfl, rfl⟩
end Go.Proofs.Ytlidjjjpjndneaa.Lg
