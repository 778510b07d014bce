/- Circuits: the builder of the reference. -/
import Derived.Test.YtlidjjjpjndneaaEj
set_option linter.unusedSimpArgs false
set_option linter.unusedVariables false
namespace Go.Proofs.Ytlidjjjpjndneaa.Lg
open Go
attribute [local irreducible] SRun DS DRun
variable {Γ : St} {σ σ0 : St}
theorem own_swap {A B C : St} {e1 e2 : Nat} {xs ys : List V} {p q : V} (h1 : OwnL A e1 xs p B) (h2 : OwnL B e2 ys q C) : ∃ B', OwnL A e2 ys q B' ∧ OwnL B' e1 xs p C := by
  rcases h1.1 with ⟨a1, a2, a3, a4⟩ | ⟨b1, c1, a1, a2, a3, a4⟩
  · subst a3
    exact ⟨C, h2, .inl ⟨a1, a2, rfl, a4⟩, h1.2⟩
  · subst a3
    rcases h2.1 with ⟨d1, d2, d3, d4⟩ | ⟨b2, c2, d1, d2, d3, d4⟩
    · subst d3
      exact ⟨A, ⟨.inl ⟨d1, d2, rfl, d4⟩, h2.2⟩, h1⟩
    · subst d3
      have hn := upd_none.1 d1
      refine ⟨upd A b2 (flat ys), ⟨.inr ⟨b2, c2, hn.2, d2, rfl, d4⟩, h2.2⟩, .inr ⟨b1, c1, upd_none.2 ⟨hn.1.symm, a1⟩, a2, ?_, a4⟩, h1.2⟩
      rw [upd_comm _ hn.1.symm]
/-- A circuit that is made, and a row of numbers beside it. -/
def Mk2 (A : St) (b : Nat) (inp : Int) (gs : List (Int × Int)) (L : List Int) (t : V) (s : St) : Prop := ∃ q B, OwnL (upd A b [.int .i64 inp, q]) 1 (ints L) t B ∧ OwnL B 2 (gsV gs) q s
section
variable {A : St} {b : Nat} {inp : Int} {gs : List (Int × Int)} {L : List Int} {t : V} {s : St}
theorem Mk2.start (h : Mk A b inp gs s) (e : Nat) : Mk2 A b inp gs [] (.isl true e []) s := by
  obtain ⟨q, h⟩ := h; exact ⟨q, _, OwnL.nil _ _, h⟩
theorem Mk2.mk (h : Mk2 A b inp gs L t s) : ∃ B, Mk B b inp gs s ∧ ∀ gs' s', Mk B b inp gs' s' → Mk2 A b inp gs' L t s' := by
  obtain ⟨q, B, h1, h2⟩ := h
  have hB := h1.get (upd_same _ _ _)
  refine ⟨B, ⟨q, by rw [upd_self _ hB]; exact h2⟩, ?_⟩
  rintro gs' s' ⟨q', h3⟩
  have h4 := h1.upd (c' := [.int .i64 inp, q']) (upd_same _ b _)
  rw [upd_upd] at h4
  exact ⟨q', _, h4, h3⟩
theorem Mk2.app (h : Mk2 A b inp gs L t s) : ∃ B, OwnL B 1 (ints L) t s ∧ Mk A b inp gs B ∧ ∀ L' t' s', OwnL B 1 (ints L') t' s' → Mk2 A b inp gs L' t' s' := by
  obtain ⟨q, B, h1, h2⟩ := h
  obtain ⟨B', h3, h4⟩ := own_swap h1 h2
  refine ⟨B', h4, ⟨q, h3⟩, fun L' t' s' h5 => ?_⟩
  obtain ⟨B2, h6, h7⟩ := own_swap h3 h5
  exact ⟨q, B2, h6, h7⟩
theorem Mk2.get (h : Mk2 A b inp gs L t s) {d : Nat} {x : List V} (hd : d ≠ b) (hA : A d = some x) : s d = some x := by
  obtain ⟨B, h1, h2, _⟩ := h.app
  exact h1.get (h2.get hd hA)
theorem Mk2.row (h : Mk2 A b inp gs L t s) (hne : L ≠ []) : ∃ bq cap, t = .msl bq 1 0 (ints L).length cap ∧ s bq = some (ints L) := by
  obtain ⟨B, h1, _, _⟩ := h.app
  obtain ⟨bq, cap, e1, e2, _⟩ := h1.at (fun e => hne (by have := congrArg List.length e; rw [ints_len] at this; exact List.eq_nil_of_length_eq_zero this))
  rw [flat_one (ints_one L)] at e2
  exact ⟨bq, cap, e1, e2⟩
end
set_option maxHeartbeats 1000000 in
theorem make_mk {inp : Int} (hinp : 0 ≤ inp ∧ inp ≤ 12) : ∀ e, ∀ {Γ σ A : St} {b : Nat} {gs : List (Int × Int)}, rightE e = true → Mk A b inp gs σ → mostE e < inp → gs.length + 3 * innerE e ≤ 90000 →
    ACalls Try.prog Γ 77 [.ptr b 0, exV e] σ fun r σ' => r = .int .i64 (makeP inp e gs).1 ∧ Mk A b inp (makeP inp e gs).2 σ' := by
  refine Ex.ind fun k n ks ih Γ σ A b gs hr hm hmost hgl => ?_
  have hk := right_kids hr
  have hkinds := kinds hr
  have har := arity_le k
  simp only [mostE, innerE] at hmost hgl
  have hlen : ks.length ≤ 3 := by
    rcases hkinds with ⟨_, rfl, _⟩ | ⟨_, rfl, _⟩ | ⟨_, _, _, hl⟩
    · simp
    · simp
    · omega
  have hLL := makeL_ok (inp := inp) (fun e he => makeP_ok hinp.1 e (hk e he)) (by omega) gs
  refine acalls_W c77_ok rfl ?_
  simp (disch := omega) only [c77, exV_mk, go_sem, ↓if_pos, ne_eq, ↓reduceIte]
  refine SRun.boxR (by simp [ev, look, V.cells, V.one]) ?_
  intro b3 hb3
  obtain ⟨hm3, n3⟩ := hm.ext (z := [.int .i64 k, .int .i64 n, .isl false 3 (exsV ks)]) hb3
  have A3 : upd A b3 [.int .i64 k, .int .i64 n, .isl false 3 (exsV ks)] b3 = some [.int .i64 k, .int .i64 n, .isl false 3 (exsV ks)] := upd_same _ _ _
  have hle2 : ∀ d x, d ≠ b → A d = some x → upd A b3 [.int .i64 k, .int .i64 n, .isl false 3 (exsV ks)] d = some x := by
    intro d x hd hA
    have hσ := hm.get hd hA
    have h3 : d ≠ b3 := fun e => by subst e; rw [hσ] at hb3; cases hb3
    rw [upd_ne _ _ h3]; exact hA
  generalize upd A b3 [.int .i64 k, .int .i64 n, .isl false 3 (exsV ks)] = A2 at *
  rcases hkinds with ⟨rfl, rfl, h0, h1⟩ | ⟨rfl, rfl, h0⟩ | ⟨h3, h7, rfl, hl⟩
  · obtain ⟨s9, hle9, hm9⟩ := hm3.shrink hle2
    simp only [makeP, ↓reduceIte]
    simp (disch := omega) only [exC_mk, go_sem, ↓if_pos, ne_eq, ↓reduceIte]
    exact W_retC c77_ok (r := .int .i64 (2 * (n + 1))) (r' := .int .i64 (2 * (n + 1))) (σ' := s9) rfl (Conv.drop _ hle9) ⟨by rw [Int.mul_add]; rfl, hm9⟩
  · obtain ⟨s9, hle9, hm9⟩ := hm3.shrink hle2
    simp only [makeP, ↓reduceIte, Int.reduceEq]
    simp (disch := omega) only [exC_mk, go_sem, ↓if_pos, ne_eq, ↓reduceIte]
    exact W_retC c77_ok (r := .int .i64 n) (r' := .int .i64 n) (σ' := s9) rfl (Conv.drop _ hle9) ⟨rfl, hm9⟩
  · have hk1 : ¬ k = 1 := by omega
    have hk2 : ¬ k = 2 := by omega
    have hgl' : gs.length + 3 * innerL ks ≤ 90000 := by split at hgl <;> omega
    simp (disch := omega) only [exC_mk, go_sem, ↓if_pos, ne_eq, ↓reduceIte]
    refine W_loopC (α := List Int × List (Int × Int) × V × St) (fun p => p.1.length ≤ ks.length ∧ Mk2 A2 b inp p.2.1 p.1 p.2.2.1 p.2.2.2 ∧ makeL inp ks gs = (p.1 ++ (makeL inp (ks.drop p.1.length) p.2.1).1, (makeL inp (ks.drop p.1.length) p.2.1).2) ∧ p.2.1.length + 3 * innerL (ks.drop p.1.length) ≤ gs.length + 3 * innerL ks)
      (fun p => [(0, .ptr b 0), (3, .ptr b3 0), (5, p.2.2.1), (6, .int .i64 (p.1.length : Nat))]) (fun p => p.2.2.2) (fun p => ks.length - p.1.length) ([], gs, .isl true 1 [], _) ⟨by simp, Mk2.start hm3 1, by simp, by simp⟩ (by simp (disch := omega) only [subT, Int.natCast_add, Int.cast_ofNat_Int, go_sem, ↓if_pos, ne_eq, ↓reduceIte] <;> (repeat' apply And.intro) <;> first | rfl | (congr 1; omega) | assumption) rfl ?_
    rintro ⟨L, g2, t, s⟩ ⟨hL, hmk, hmake, hin⟩ ih2
    dsimp only at hL hmk hmake hin
    have s3 := hmk.get n3 A3
    simp (disch := omega) only [s3, exC_mk, go_sem, ↓if_pos, ne_eq, ↓reduceIte]
    first | refine iteW_dec (fun hq => ?_) (fun hq => ?_) | refine iteW_of (fun hq => ?_) (fun hq => ?_)
    · have he := getD_mem default (by omega : L.length < ks.length)
      rw [makeL_drop (by omega)] at hmake
      rw [innerL_drop (by omega)] at hin
      have hmE := mostL_mem he
      simp (disch := omega) only [s3, exC_mk, go_sem, ↓if_pos, ne_eq, ↓reduceIte]
      obtain ⟨B, hB1, hB2⟩ := hmk.mk
      refine SRun.callQ (ih _ he (hk _ he) hB1 (by omega) (by omega)) ⟨[], rfl, rfl⟩ rfl ?_
      rintro r s8 ⟨rfl, hm8⟩
      have hmk8 := hB2 _ _ hm8
      obtain ⟨B', hC1, _, hC2⟩ := hmk8.app
      simp (disch := omega) only [go_sem, ↓if_pos, ne_eq, ↓reduceIte]
      refine SRun.appL hC1 rfl (by simp [V.cells, V.one]) (by simp only [ints_len, List.length_singleton]; omega) ?_
      intro t' s9 ho9
      rw [ints_app] at ho9
      have hmk9 := hC2 _ _ _ ho9
      simp (disch := omega) only [go_sem, ↓if_pos, ne_eq, ↓reduceIte]
      refine ih2 (L ++ [(makeP inp (ks.getD L.length default) g2).1], (makeP inp (ks.getD L.length default) g2).2, t', s9) _ _ ⟨by simp only [List.length_append, List.length_singleton]; omega, hmk9, ?_, ?_⟩ (by simp only [List.length_append, List.length_singleton]; omega) (by simp (disch := omega) only [subT, Int.natCast_add, Int.cast_ofNat_Int, List.length_append, List.length_singleton, go_sem, ↓if_pos, ne_eq, ↓reduceIte] <;> (repeat' apply And.intro) <;> first | rfl | (congr 1; omega) | assumption) rfl
      · simp only [List.length_append, List.length_singleton]; rw [hmake]; simp
      · simp only [List.length_append, List.length_singleton]
        have := (makeP_ok hinp.1 _ (hk _ he) g2 (by omega)).2.2
        omega
    · have hLk : L.length = ks.length := by omega
      rw [hLk, List.drop_length] at hmake
      simp only [makeL, List.append_nil] at hmake
      rw [hmake] at hLL
      have hlit := hLL.1
      have hmp : makeP inp (.mk k 0 ks) gs = opP inp k L g2 := by
        simp only [makeP]; rw [if_neg hk1, if_neg hk2, hmake]
      rw [hmp]
      have hne : L ≠ [] := fun e => by
        rw [e] at hLk
        have : arity k = 0 := by rw [← hl, ← hLk]; rfl
        unfold arity at this
        rw [if_neg (by omega)] at this
        (repeat' split at this) <;> omega
      have hg2 : g2.length ≤ 90000 := by omega
      have hkk : k = 3 ∨ k = 4 ∨ k = 5 ∨ k = 6 ∨ k = 7 := by omega
      rcases hkk with rfl | rfl | rfl | rfl | rfl
      · simp [arity] at hl
        have h0 : LitOK inp g2 (L.getD 0 0) := hlit _ (getD_mem 0 (by omega))
        have h0' := h0
        unfold LitOK at h0'
        obtain ⟨bq, cap, rfl, hbq⟩ := hmk.row hne
        have i0 := ints_get (getD_some 0 (by omega : 0 < L.length))
        have hil := ints_len L
        simp (disch := omega) only [s3, exC_mk, hbq, i0, go_sem, ↓if_pos, ne_eq, ↓reduceIte]
        refine SRun.callR (l04Not_ok (x := L.getD 0 0) (by omega)) ⟨[], rfl, rfl⟩ rfl ?_
        simp (disch := omega) only [List.getD_cons_zero, List.getD_cons_succ, go_sem, ↓if_pos, ne_eq, ↓reduceIte]
        obtain ⟨B', hD1, hD2, _⟩ := hmk.app
        obtain ⟨t9, hlt9, hn9⟩ := hD2.shrink hle2
        exact W_retC c77_ok (r := .int .i64 (notP (L.getD 0 0))) (r' := .int .i64 (notP (L.getD 0 0))) (σ' := t9) rfl (Conv.drop _ fun d x h => hD1.le _ _ (hlt9 _ _ h)) ⟨rfl, hn9⟩
      · simp [arity] at hl
        have h0 : LitOK inp g2 (L.getD 0 0) := hlit _ (getD_mem 0 (by omega))
        have h0' := h0
        unfold LitOK at h0'
        have i0 := ints_get (getD_some 0 (by omega : 0 < L.length))
        have h1 : LitOK inp g2 (L.getD 1 0) := hlit _ (getD_mem 0 (by omega))
        have h1' := h1
        unfold LitOK at h1'
        have i1 := ints_get (getD_some 0 (by omega : 1 < L.length))
        obtain ⟨bq, cap, rfl, hbq⟩ := hmk.row hne
        have hil := ints_len L
        obtain ⟨B, hB1, hB2⟩ := hmk.mk
        simp (disch := omega) only [s3, exC_mk, go_sem, ↓if_pos, ne_eq, ↓reduceIte]
        refine W_drawW ?_
        simp (disch := omega) only [hbq, i0, i1, go_sem, ↓if_pos, ne_eq, ↓reduceIte]
        refine DRun.callQ (ands_mk hB1 h0 h1 (by omega) (by omega)) ⟨[], rfl, rfl⟩ ?_
        rintro r t1 ⟨rfl, hm1⟩
        obtain ⟨B', hD1, hD2, _⟩ := (hB2 _ _ hm1).app
        obtain ⟨t9, hlt9, hn9⟩ := hD2.shrink hle2
        simp (disch := omega) only [go_sem, ↓if_pos, ne_eq, ↓reduceIte]
        exact W_retC c77_ok (r := .int .i64 _) (r' := .int .i64 _) (σ' := t9) rfl (Conv.drop _ fun d x h => hD1.le _ _ (hlt9 _ _ h)) ⟨rfl, hn9⟩
      · simp [arity] at hl
        have h0 : LitOK inp g2 (L.getD 0 0) := hlit _ (getD_mem 0 (by omega))
        have h0' := h0
        unfold LitOK at h0'
        have i0 := ints_get (getD_some 0 (by omega : 0 < L.length))
        have h1 : LitOK inp g2 (L.getD 1 0) := hlit _ (getD_mem 0 (by omega))
        have h1' := h1
        unfold LitOK at h1'
        have i1 := ints_get (getD_some 0 (by omega : 1 < L.length))
        obtain ⟨bq, cap, rfl, hbq⟩ := hmk.row hne
        have hil := ints_len L
        obtain ⟨B, hB1, hB2⟩ := hmk.mk
        simp (disch := omega) only [s3, exC_mk, go_sem, ↓if_pos, ne_eq, ↓reduceIte]
        refine W_drawW ?_
        simp (disch := omega) only [hbq, i0, i1, go_sem, ↓if_pos, ne_eq, ↓reduceIte]
        refine DRun.callQ (ors_mk hB1 h0 h1 (by omega) (by omega)) ⟨[], rfl, rfl⟩ ?_
        rintro r t1 ⟨rfl, hm1⟩
        obtain ⟨B', hD1, hD2, _⟩ := (hB2 _ _ hm1).app
        obtain ⟨t9, hlt9, hn9⟩ := hD2.shrink hle2
        simp (disch := omega) only [go_sem, ↓if_pos, ne_eq, ↓reduceIte]
        exact W_retC c77_ok (r := .int .i64 _) (r' := .int .i64 _) (σ' := t9) rfl (Conv.drop _ fun d x h => hD1.le _ _ (hlt9 _ _ h)) ⟨rfl, hn9⟩
      · simp [arity] at hl
        have h0 : LitOK inp g2 (L.getD 0 0) := hlit _ (getD_mem 0 (by omega))
        have h0' := h0
        unfold LitOK at h0'
        have i0 := ints_get (getD_some 0 (by omega : 0 < L.length))
        have h1 : LitOK inp g2 (L.getD 1 0) := hlit _ (getD_mem 0 (by omega))
        have h1' := h1
        unfold LitOK at h1'
        have i1 := ints_get (getD_some 0 (by omega : 1 < L.length))
        obtain ⟨bq, cap, rfl, hbq⟩ := hmk.row hne
        have hil := ints_len L
        obtain ⟨B, hB1, hB2⟩ := hmk.mk
        simp (disch := omega) only [s3, exC_mk, go_sem, ↓if_pos, ne_eq, ↓reduceIte]
        rw [W_draw]
        refine DRun.start (DRun.mixE rfl ?_)
        simp (disch := omega) only [hbq, i0, i1, go_sem, ↓if_pos, ne_eq, ↓reduceIte]
        refine DS.callQ (l04Not_ok (x := L.getD 1 0) (by omega)) ⟨[], rfl, rfl⟩ rfl ?_
        rintro r s ⟨rfl, rfl⟩ _
        simp (disch := omega) only [go_sem, ↓if_pos, ne_eq, ↓reduceIte]
        obtain ⟨p1, p2, p3⟩ := andP_ok hinp.1 h0 (notP_ok h1)
        refine DRun.callQ (ands_mk hB1 h0 (notP_ok h1) (by omega) (by omega)) ⟨[], rfl, rfl⟩ ?_
        rintro r t1 ⟨rfl, hm1⟩
        obtain ⟨bq', cap', e, hbq'⟩ := (hB2 _ _ hm1).row hne
        cases e
        simp (disch := omega) only [go_sem, ↓if_pos, ne_eq, ↓reduceIte]
        rw [W_draw]
        refine DRun.start (DRun.mixE rfl ?_)
        simp (disch := omega) only [hbq', i0, i1, go_sem, ↓if_pos, ne_eq, ↓reduceIte]
        refine DS.callQ (l04Not_ok (x := L.getD 0 0) (by omega)) ⟨[], rfl, rfl⟩ rfl ?_
        rintro r s ⟨rfl, rfl⟩ _
        simp (disch := omega) only [go_sem, ↓if_pos, ne_eq, ↓reduceIte]
        obtain ⟨q1, q2, q3⟩ := andP_ok hinp.1 ((notP_ok h0).mono p2) (h1.mono p2)
        refine DRun.callQ (ands_mk hm1 ((notP_ok h0).mono p2) (h1.mono p2) (by omega) (by omega)) ⟨[], rfl, rfl⟩ ?_
        rintro r t2 ⟨rfl, hm2⟩
        simp (disch := omega) only [go_sem, ↓if_pos, ne_eq, ↓reduceIte]
        refine SRun.callQ (ors_mk hm2 (p1.mono q2) q1 (by omega) (by omega)) ⟨[], rfl, rfl⟩ rfl ?_
        rintro r t3 ⟨rfl, hm3⟩
        obtain ⟨B', hD1, hD2, _⟩ := (hB2 _ _ hm3).app
        obtain ⟨t9, hlt9, hn9⟩ := hD2.shrink hle2
        simp (disch := omega) only [go_sem, ↓if_pos, ne_eq, ↓reduceIte]
        exact W_retC c77_ok (r := .int .i64 _) (r' := .int .i64 _) (σ' := t9) rfl (Conv.drop _ fun d x h => hD1.le _ _ (hlt9 _ _ h)) ⟨rfl, hn9⟩
      · simp [arity] at hl
        have h0 : LitOK inp g2 (L.getD 0 0) := hlit _ (getD_mem 0 (by omega))
        have h0' := h0
        unfold LitOK at h0'
        have i0 := ints_get (getD_some 0 (by omega : 0 < L.length))
        have h1 : LitOK inp g2 (L.getD 1 0) := hlit _ (getD_mem 0 (by omega))
        have h1' := h1
        unfold LitOK at h1'
        have i1 := ints_get (getD_some 0 (by omega : 1 < L.length))
        have h2 : LitOK inp g2 (L.getD 2 0) := hlit _ (getD_mem 0 (by omega))
        have h2' := h2
        unfold LitOK at h2'
        have i2 := ints_get (getD_some 0 (by omega : 2 < L.length))
        obtain ⟨bq, cap, rfl, hbq⟩ := hmk.row hne
        have hil := ints_len L
        obtain ⟨B, hB1, hB2⟩ := hmk.mk
        simp (disch := omega) only [s3, exC_mk, go_sem, ↓if_pos, ne_eq, ↓reduceIte]
        refine W_drawW ?_
        simp (disch := omega) only [hbq, i0, i1, go_sem, ↓if_pos, ne_eq, ↓reduceIte]
        obtain ⟨p1, p2, p3⟩ := andP_ok hinp.1 h0 h1
        refine DRun.callQ (ands_mk hB1 h0 h1 (by omega) (by omega)) ⟨[], rfl, rfl⟩ ?_
        rintro r t1 ⟨rfl, hm1⟩
        obtain ⟨bq', cap', e, hbq'⟩ := (hB2 _ _ hm1).row hne
        cases e
        simp (disch := omega) only [go_sem, ↓if_pos, ne_eq, ↓reduceIte]
        rw [W_draw]
        refine DRun.start (DRun.mixE rfl ?_)
        simp (disch := omega) only [hbq', i0, i2, go_sem, ↓if_pos, ne_eq, ↓reduceIte]
        refine DS.callQ (l04Not_ok (x := L.getD 0 0) (by omega)) ⟨[], rfl, rfl⟩ rfl ?_
        rintro r s ⟨rfl, rfl⟩ _
        simp (disch := omega) only [go_sem, ↓if_pos, ne_eq, ↓reduceIte]
        obtain ⟨q1, q2, q3⟩ := andP_ok hinp.1 ((notP_ok h0).mono p2) (h2.mono p2)
        refine DRun.callQ (ands_mk hm1 ((notP_ok h0).mono p2) (h2.mono p2) (by omega) (by omega)) ⟨[], rfl, rfl⟩ ?_
        rintro r t2 ⟨rfl, hm2⟩
        simp (disch := omega) only [go_sem, ↓if_pos, ne_eq, ↓reduceIte]
        refine SRun.callQ (ors_mk hm2 (p1.mono q2) q1 (by omega) (by omega)) ⟨[], rfl, rfl⟩ rfl ?_
        rintro r t3 ⟨rfl, hm3⟩
        obtain ⟨B', hD1, hD2, _⟩ := (hB2 _ _ hm3).app
        obtain ⟨t9, hlt9, hn9⟩ := hD2.shrink hle2
        simp (disch := omega) only [go_sem, ↓if_pos, ne_eq, ↓reduceIte]
        exact W_retC c77_ok (r := .int .i64 _) (r' := .int .i64 _) (σ' := t9) rfl (Conv.drop _ fun d x h => hD1.le _ _ (hlt9 _ _ h)) ⟨rfl, hn9⟩
end Go.Proofs.Ytlidjjjpjndneaa.Lg
