/- Circuits: the builder of the program. -/
import Derived.Test.YtlidjjjpjndneaaEi
set_option linter.unusedSimpArgs false
set_option linter.unusedVariables false
namespace Go.Proofs.Ytlidjjjpjndneaa.Lg
open Go
attribute [local irreducible] SRun DS DRun
variable {Γ : St} {σ σ0 : St}
theorem OwnL.shrink {A A' : St} {es : Nat} {xs : List V} {q : V} (h : OwnL A es xs q σ) (hle : ∀ d x, A' d = some x → A d = some x) : ∃ σ', (∀ d x, σ' d = some x → σ d = some x) ∧ OwnL A' es xs q σ' := by
  rcases h.1 with ⟨hc, hl, rfl, es', rfl⟩ | ⟨b2, cap, hb, rfl, rfl, h4⟩
  · exact ⟨A', hle, .inl ⟨hc, hl, rfl, es', rfl⟩, h.2⟩
  · have hb' : A' b2 = none := by
      cases hc : A' b2 with
      | none => rfl
      | some x => rw [hle _ _ hc] at hb; cases hb
    exact ⟨Lg.upd A' b2 (flat xs), le_under hle, .inr ⟨b2, cap, hb', rfl, rfl, h4⟩, h.2⟩
section
variable {A : St} {b : Nat} {inp : Int} {gs : List (Int × Int)}
theorem Mk.blk (h : Mk A b inp gs σ) : ∃ q, σ b = some [.int .i64 inp, q] := by
  obtain ⟨q, h⟩ := h; exact ⟨q, h.get (upd_same _ _ _)⟩
theorem Mk.ext (h : Mk A b inp gs σ) {b3 : Nat} {z : List V} (hb : σ b3 = none) : Mk (upd A b3 z) b inp gs (upd σ b3 z) ∧ b3 ≠ b := by
  obtain ⟨q0, h0⟩ := h.blk
  have hne : b3 ≠ b := fun e => by subst e; rw [h0] at hb; cases hb
  obtain ⟨q, h⟩ := h
  have h' := h.ext (z := z) hb
  rw [upd_comm _ hne.symm] at h'
  exact ⟨⟨q, h'⟩, hne⟩
theorem Mk.get (h : Mk A b inp gs σ) {d : Nat} {x : List V} (hd : d ≠ b) (hA : A d = some x) : σ d = some x := by
  obtain ⟨q, h⟩ := h; exact h.get (by rw [upd_ne _ _ hd]; exact hA)
theorem Mk.upd (h : Mk A b inp gs σ) {d : Nat} {x z : List V} (hd : d ≠ b) (hA : A d = some x) : Mk (Lg.upd A d z) b inp gs (Lg.upd σ d z) := by
  obtain ⟨q, h⟩ := h
  have h' := h.upd (b := d) (c := x) (c' := z) (by rw [upd_ne _ _ hd]; exact hA)
  rw [upd_comm _ hd.symm] at h'
  exact ⟨q, h'⟩
theorem Mk.shrink (h : Mk A b inp gs σ) {A' : St} (hle : ∀ d x, d ≠ b → A' d = some x → A d = some x) : ∃ σ', (∀ d x, σ' d = some x → σ d = some x) ∧ Mk A' b inp gs σ' := by
  obtain ⟨q, h⟩ := h
  obtain ⟨σ', h1, h2⟩ := h.shrink (A' := Lg.upd A' b [.int .i64 inp, q]) (fun d x hd => by
    by_cases e : d = b
    · subst e; rw [upd_same] at hd ⊢; exact hd
    · rw [upd_ne _ _ e] at hd ⊢; exact hle _ _ e hd)
  exact ⟨σ', h1, q, h2⟩
end
def arr3 (L : List Int) : List V := [.int .i64 (L.getD 0 0), .int .i64 (L.getD 1 0), .int .i64 (L.getD 2 0)]
theorem arr3_set {L : List Int} {v : Int} (h : L.length < 3) : (arr3 L).set L.length (.int .i64 v) = arr3 (L ++ [v]) := by
  match L, h with
  | [], _ => rfl
  | [a], _ => rfl
  | [a, b], _ => rfl
theorem makeL_drop {inp : Int} {ks : List Ex} {i : Nat} {gs : List (Int × Int)} (h : i < ks.length) : makeL inp (ks.drop i) gs = ((makeP inp (ks.getD i default) gs).1 :: (makeL inp (ks.drop (i + 1)) (makeP inp (ks.getD i default) gs).2).1, (makeL inp (ks.drop (i + 1)) (makeP inp (ks.getD i default) gs).2).2) := by
  rw [drop_cons default h]; rfl
theorem innerL_drop {ks : List Ex} {i : Nat} (h : i < ks.length) : innerL (ks.drop i) = innerE (ks.getD i default) + innerL (ks.drop (i + 1)) := by
  rw [drop_cons default h]; rfl
set_option maxHeartbeats 1000000 in
theorem build_mk {inp : Int} (hinp : 0 ≤ inp ∧ inp ≤ 12) : ∀ e, ∀ {Γ σ A : St} {b : Nat} {gs : List (Int × Int)}, rightE e = true → Mk A b inp gs σ → mostE e < inp → gs.length + 3 * innerE e ≤ 90000 →
    ACalls Try.prog Γ 152 [.ptr b 0, exV e] σ fun r σ' => r = .int .i64 (makeP inp e gs).1 ∧ Mk A b inp (makeP inp e gs).2 σ' := by
  refine Ex.ind fun k n ks ih Γ σ A b gs hr hm hmost hgl => ?_
  have hk := right_kids hr
  have hkinds := kinds hr
  have har := arity_le k
  simp only [mostE, innerE] at hmost hgl
  have hlen : ks.length ≤ 3 := by
    rcases hkinds with ⟨_, rfl, _⟩ | ⟨_, rfl, _⟩ | ⟨_, _, _, hl⟩
    · simp
    · simp
    · omega
  have hLL := makeL_ok (inp := inp) (fun e he => makeP_ok hinp.1 e (hk e he)) (by omega) gs
  refine acalls_W c152_ok rfl ?_
  simp (disch := omega) only [c152, exV_mk, go_sem, ↓if_pos, ne_eq, ↓reduceIte]
  refine SRun.boxR (by simp [ev, look, V.cells, V.one]) ?_
  intro b3 hb3
  obtain ⟨hm3, n3⟩ := hm.ext (z := [.int .i64 k, .int .i64 n, .isl false 3 (exsV ks)]) hb3
  simp (disch := omega) only [go_sem, ↓if_pos, ne_eq, ↓reduceIte]
  refine SRun.allocR ?_
  intro b5 hb5
  have n53 := (upd_none.1 hb5).1
  obtain ⟨hm5, n5⟩ := hm3.ext (z := [.int .i64 0, .int .i64 0, .int .i64 0]) hb5
  have g3 := hm5.get n3 (by rw [upd_ne _ _ n53.symm, upd_same])
  have hle : ∀ d x, d ≠ b → A d = some x → upd (upd A b3 [.int .i64 k, .int .i64 n, .isl false 3 (exsV ks)]) b5 [.int .i64 0, .int .i64 0, .int .i64 0] d = some x := by
    intro d x hd hA
    have hσ := hm.get hd hA
    have h3 : d ≠ b3 := fun e => by subst e; rw [hσ] at hb3; cases hb3
    have h5 : d ≠ b5 := fun e => by subst e; rw [le_upd hb3 _ _ hσ] at hb5; cases hb5
    rw [upd_ne _ _ h5, upd_ne _ _ h3]; exact hA
  have A3 : upd (upd A b3 [.int .i64 k, .int .i64 n, .isl false 3 (exsV ks)]) b5 [.int .i64 0, .int .i64 0, .int .i64 0] b3 = some [.int .i64 k, .int .i64 n, .isl false 3 (exsV ks)] := by rw [upd_ne _ _ n53.symm, upd_same]
  have A5 : upd (upd A b3 [.int .i64 k, .int .i64 n, .isl false 3 (exsV ks)]) b5 [.int .i64 0, .int .i64 0, .int .i64 0] b5 = some (arr3 []) := by rw [upd_same]; rfl
  simp (disch := omega) only [g3, exC_mk, go_sem, ↓if_pos, ne_eq, ↓reduceIte]
  refine W_loopC (α := List Int × List (Int × Int) × St × St) (fun p => p.1.length ≤ ks.length ∧ Mk p.2.2.1 b inp p.2.1 p.2.2.2 ∧ makeL inp ks gs = (p.1 ++ (makeL inp (ks.drop p.1.length) p.2.1).1, (makeL inp (ks.drop p.1.length) p.2.1).2) ∧ p.2.1.length + 3 * innerL (ks.drop p.1.length) ≤ gs.length + 3 * innerL ks ∧
      p.2.2.1 b3 = some [.int .i64 k, .int .i64 n, .isl false 3 (exsV ks)] ∧ p.2.2.1 b5 = some (arr3 p.1) ∧ ∀ d x, d ≠ b → A d = some x → p.2.2.1 d = some x)
    (fun p => [(0, .ptr b 0), (3, .ptr b3 0), (5, .ptr b5 0), (11, .isl false 3 (exsV ks)), (12, .int .i64 ks.length), (13, .int .i64 (p.1.length : Nat))]) (fun p => p.2.2.2) (fun p => ks.length - p.1.length) ([], gs, upd (upd A b3 [.int .i64 k, .int .i64 n, .isl false 3 (exsV ks)]) b5 [.int .i64 0, .int .i64 0, .int .i64 0], upd (upd σ b3 [.int .i64 k, .int .i64 n, .isl false 3 (exsV ks)]) b5 [.int .i64 0, .int .i64 0, .int .i64 0]) ⟨by simp, hm5, by simp, by simp, A3, A5, hle⟩ (by simp (disch := omega) only [subT, Int.natCast_add, Int.cast_ofNat_Int, go_sem, ↓if_pos, ne_eq, ↓reduceIte] <;> (repeat' apply And.intro) <;> first | rfl | (congr 1; omega) | assumption) rfl ?_
  rintro ⟨L, g2, A2, s⟩ ⟨hL, hmk, hmake, hin, a3, a5, hle2⟩ ih2
  dsimp only at hL hmk hmake hin a3 a5 hle2
  have s3 := hmk.get n3 a3
  have s5 := hmk.get n5 a5
  simp (disch := omega) only [go_sem, ↓if_pos, ne_eq, ↓reduceIte]
  first | refine iteW_dec (fun hq => ?_) (fun hq => ?_) | refine iteW_of (fun hq => ?_) (fun hq => ?_)
  · have he := getD_mem default (by omega : L.length < ks.length)
    rw [makeL_drop (by omega)] at hmake
    rw [innerL_drop (by omega)] at hin
    have hmE := mostL_mem he
    have hc1 := exC_one (ks.getD L.length default)
    simp (disch := omega) only [go_sem, ↓if_pos, ne_eq, ↓reduceIte]
    refine SRun.allocR ?_
    intro b7 hb7
    obtain ⟨hm7, n7⟩ := hmk.ext (z := exC (ks.getD L.length default)) hb7
    have hA7 : A2 b7 = none := by
      cases hc : A2 b7 with
      | none => rfl
      | some x => rw [hmk.get n7 hc] at hb7; cases hb7
    simp (disch := omega) only [hc1, go_sem, ↓if_pos, ne_eq, ↓reduceIte]
    refine SRun.callQ (ih _ he (hk _ he) hm7 (by omega) (by omega)) ⟨[], rfl, rfl⟩ rfl ?_
    rintro r s8 ⟨rfl, hm8⟩
    have a5' : upd A2 b7 (exC (ks.getD L.length default)) b5 = some (arr3 L) := le_upd hA7 _ _ a5
    have s85 := hm8.get n5 a5'
    have al : (arr3 L).length = 3 := rfl
    have hm9 := hm8.upd n5 a5' (z := arr3 (L ++ [(makeP inp (ks.getD L.length default) g2).1]))
    simp (disch := omega) only [s85, go_sem, ↓if_pos, ne_eq, ↓reduceIte]
    rw [arr3_set (by omega)]
    refine ih2 (L ++ [(makeP inp (ks.getD L.length default) g2).1], (makeP inp (ks.getD L.length default) g2).2, upd (upd A2 b7 (exC (ks.getD L.length default))) b5 (arr3 (L ++ [(makeP inp (ks.getD L.length default) g2).1])), upd s8 b5 (arr3 (L ++ [(makeP inp (ks.getD L.length default) g2).1]))) _ _ ⟨by simp only [List.length_append, List.length_singleton]; omega, hm9, ?_, ?_, ?_, upd_same _ _ _, ?_⟩ (by simp only [List.length_append, List.length_singleton]; omega) (by simp (disch := omega) only [subT, Int.natCast_add, Int.cast_ofNat_Int, List.length_append, List.length_singleton, go_sem, ↓if_pos, ne_eq, ↓reduceIte] <;> (repeat' apply And.intro) <;> first | rfl | (congr 1; omega) | assumption) rfl
    · simp only [List.length_append, List.length_singleton]; rw [hmake]; simp
    · simp only [List.length_append, List.length_singleton]
      have := (makeP_ok hinp.1 _ (hk _ he) g2 (by omega)).2.2
      omega
    · show upd (upd A2 b7 (exC (ks.getD L.length default))) b5 _ b3 = _
      rw [upd_ne _ _ n53.symm]; exact le_upd hA7 _ _ a3
    · intro d x hd hA
      show upd (upd A2 b7 (exC (ks.getD L.length default))) b5 _ d = _
      have h2 := hle2 _ _ hd hA
      by_cases e5 : d = b5
      · subst e5
        exfalso
        rw [le_upd hb3 _ _ (hm.get hd hA)] at hb5; cases hb5
      · rw [upd_ne _ _ e5]; exact le_upd hA7 _ _ h2
  · have hLk : L.length = ks.length := by omega
    have hg2 : g2.length ≤ 90000 := by split at hgl <;> omega
    rw [hLk, List.drop_length] at hmake
    simp only [makeL, List.append_nil] at hmake
    rw [hmake] at hLL
    have hlit := hLL.1
    obtain ⟨s9, hle9, hm9⟩ := hmk.shrink hle2
    rcases hkinds with ⟨rfl, rfl, h0, h1⟩ | ⟨rfl, rfl, h0⟩ | ⟨h3, h7, rfl, hl⟩
    · simp only [makeP, ↓reduceIte]
      simp only [makeL] at hmake
      obtain ⟨rfl, rfl⟩ := Prod.mk.inj hmake
      simp (disch := omega) only [s3, exC_mk, go_sem, ↓if_pos, ne_eq, ↓reduceIte]
      exact W_retC c152_ok (r := .int .i64 (2 * n + 2)) (r' := .int .i64 (2 * n + 2)) (σ' := s9) rfl (Conv.drop _ hle9) ⟨rfl, hm9⟩
    · simp only [makeP, ↓reduceIte, Int.reduceEq]
      simp only [makeL] at hmake
      obtain ⟨rfl, rfl⟩ := Prod.mk.inj hmake
      simp (disch := omega) only [s3, exC_mk, go_sem, ↓if_pos, ne_eq, ↓reduceIte]
      exact W_retC c152_ok (r := .int .i64 n) (r' := .int .i64 n) (σ' := s9) rfl (Conv.drop _ hle9) ⟨rfl, hm9⟩
    · have hmp : makeP inp (.mk k 0 ks) gs = opP inp k L g2 := by
        simp only [makeP]; rw [if_neg (by omega), if_neg (by omega), hmake]
      rw [hmp]
      have hkk : k = 3 ∨ k = 4 ∨ k = 5 ∨ k = 6 ∨ k = 7 := by omega
      rcases hkk with rfl | rfl | rfl | rfl | rfl
      · have h0 : LitOK inp g2 (L.getD 0 0) := hlit _ (getD_mem 0 (by rw [hLk]; simp [arity] at hl; omega))
        have h0' := h0
        unfold LitOK at h0'
        have e0 := xor1 (y := L.getD 0 0) (by omega) (by omega)
        simp (disch := omega) only [s3, s5, exC_mk, arr3, e0, go_sem, ↓if_pos, ne_eq, ↓reduceIte]
        exact W_retC c152_ok (r := .int .i64 (notP (L.getD 0 0))) (r' := .int .i64 (notP (L.getD 0 0))) (σ' := s9) rfl (Conv.drop _ hle9) ⟨rfl, hm9⟩
      · have h0 : LitOK inp g2 (L.getD 0 0) := hlit _ (getD_mem 0 (by rw [hLk]; simp [arity] at hl; omega))
        have h1 : LitOK inp g2 (L.getD 1 0) := hlit _ (getD_mem 0 (by rw [hLk]; simp [arity] at hl; omega))
        simp (disch := omega) only [s3, s5, exC_mk, arr3, go_sem, ↓if_pos, ne_eq, ↓reduceIte]
        refine SRun.callQ (and_mk hmk h0 h1 (by omega) (by omega)) ⟨[], rfl, rfl⟩ rfl ?_
        rintro r t1 ⟨rfl, hm1⟩
        obtain ⟨t9, hlt9, hn9⟩ := hm1.shrink hle2
        simp (disch := omega) only [go_sem, ↓if_pos, ne_eq, ↓reduceIte]
        exact W_retC c152_ok (r := .int .i64 _) (r' := .int .i64 _) (σ' := t9) rfl (Conv.drop _ hlt9) ⟨rfl, hn9⟩
      · have h0 : LitOK inp g2 (L.getD 0 0) := hlit _ (getD_mem 0 (by rw [hLk]; simp [arity] at hl; omega))
        have h1 : LitOK inp g2 (L.getD 1 0) := hlit _ (getD_mem 0 (by rw [hLk]; simp [arity] at hl; omega))
        simp (disch := omega) only [s3, s5, exC_mk, arr3, go_sem, ↓if_pos, ne_eq, ↓reduceIte]
        refine SRun.callQ (or_mk hmk h0 h1 (by omega) (by omega)) ⟨[], rfl, rfl⟩ rfl ?_
        rintro r t1 ⟨rfl, hm1⟩
        obtain ⟨t9, hlt9, hn9⟩ := hm1.shrink hle2
        simp (disch := omega) only [go_sem, ↓if_pos, ne_eq, ↓reduceIte]
        exact W_retC c152_ok (r := .int .i64 _) (r' := .int .i64 _) (σ' := t9) rfl (Conv.drop _ hlt9) ⟨rfl, hn9⟩
      · have h0 : LitOK inp g2 (L.getD 0 0) := hlit _ (getD_mem 0 (by rw [hLk]; simp [arity] at hl; omega))
        have h1 : LitOK inp g2 (L.getD 1 0) := hlit _ (getD_mem 0 (by rw [hLk]; simp [arity] at hl; omega))
        have h0' := h0
        have h1' := h1
        unfold LitOK at h0' h1'
        have e0 := xor1 (y := L.getD 0 0) (by omega) (by omega)
        have e1 := xor1 (y := L.getD 1 0) (by omega) (by omega)
        simp (disch := omega) only [s3, s5, exC_mk, arr3, e1, go_sem, ↓if_pos, ne_eq, ↓reduceIte]
        obtain ⟨p1, p2, p3⟩ := andP_ok hinp.1 h0 (notP_ok h1)
        refine SRun.callQ (and_mk hmk h0 (notP_ok h1) (by omega) (by omega)) ⟨[], rfl, rfl⟩ rfl ?_
        rintro r t1 ⟨rfl, hm1⟩
        have t15 := hm1.get n5 a5
        simp (disch := omega) only [t15, arr3, e0, go_sem, ↓if_pos, ne_eq, ↓reduceIte]
        obtain ⟨q1, q2, q3⟩ := andP_ok hinp.1 ((notP_ok h0).mono p2) (h1.mono p2)
        refine SRun.callQ (and_mk hm1 ((notP_ok h0).mono p2) (h1.mono p2) (by omega) (by omega)) ⟨[], rfl, rfl⟩ rfl ?_
        rintro r t2 ⟨rfl, hm2⟩
        simp (disch := omega) only [go_sem, ↓if_pos, ne_eq, ↓reduceIte]
        refine SRun.callQ (or_mk hm2 (p1.mono q2) q1 (by omega) (by omega)) ⟨[], rfl, rfl⟩ rfl ?_
        rintro r t3 ⟨rfl, hm3⟩
        obtain ⟨t9, hlt9, hn9⟩ := hm3.shrink hle2
        simp (disch := omega) only [go_sem, ↓if_pos, ne_eq, ↓reduceIte]
        exact W_retC c152_ok (r := .int .i64 _) (r' := .int .i64 _) (σ' := t9) rfl (Conv.drop _ hlt9) ⟨rfl, hn9⟩
      · have h0 : LitOK inp g2 (L.getD 0 0) := hlit _ (getD_mem 0 (by rw [hLk]; simp [arity] at hl; omega))
        have h1 : LitOK inp g2 (L.getD 1 0) := hlit _ (getD_mem 0 (by rw [hLk]; simp [arity] at hl; omega))
        have h2 : LitOK inp g2 (L.getD 2 0) := hlit _ (getD_mem 0 (by rw [hLk]; simp [arity] at hl; omega))
        have h0' := h0
        unfold LitOK at h0'
        have e0 := xor1 (y := L.getD 0 0) (by omega) (by omega)
        simp (disch := omega) only [s3, s5, exC_mk, arr3, go_sem, ↓if_pos, ne_eq, ↓reduceIte]
        obtain ⟨p1, p2, p3⟩ := andP_ok hinp.1 h0 h1
        refine SRun.callQ (and_mk hmk h0 h1 (by omega) (by omega)) ⟨[], rfl, rfl⟩ rfl ?_
        rintro r t1 ⟨rfl, hm1⟩
        have t15 := hm1.get n5 a5
        simp (disch := omega) only [t15, arr3, e0, go_sem, ↓if_pos, ne_eq, ↓reduceIte]
        obtain ⟨q1, q2, q3⟩ := andP_ok hinp.1 ((notP_ok h0).mono p2) (h2.mono p2)
        refine SRun.callQ (and_mk hm1 ((notP_ok h0).mono p2) (h2.mono p2) (by omega) (by omega)) ⟨[], rfl, rfl⟩ rfl ?_
        rintro r t2 ⟨rfl, hm2⟩
        simp (disch := omega) only [go_sem, ↓if_pos, ne_eq, ↓reduceIte]
        refine SRun.callQ (or_mk hm2 (p1.mono q2) q1 (by omega) (by omega)) ⟨[], rfl, rfl⟩ rfl ?_
        rintro r t3 ⟨rfl, hm3⟩
        obtain ⟨t9, hlt9, hn9⟩ := hm3.shrink hle2
        simp (disch := omega) only [go_sem, ↓if_pos, ne_eq, ↓reduceIte]
        exact W_retC c152_ok (r := .int .i64 _) (r' := .int .i64 _) (σ' := t9) rfl (Conv.drop _ hlt9) ⟨rfl, hn9⟩
end Go.Proofs.Ytlidjjjpjndneaa.Lg
