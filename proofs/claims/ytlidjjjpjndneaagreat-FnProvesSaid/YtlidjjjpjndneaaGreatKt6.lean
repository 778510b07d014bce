/- What is told of the functions that are reached, as far as it is asked here. -/
import Derived.Test.YtlidjjjpjndneaaGreatKt5
import Derived.KernelRfl
set_option linter.unusedSimpArgs false
set_option linter.unusedVariables false
namespace Go.Proofs.YtlidjjjpjndneaaGreat.Lg
open Go
section
attribute [local irreducible] SRun DS DRun
variable {Γ : St} {σ σ0 : St}
theorem OwnL.shrink {A A' : St} {es : Nat} {xs : List V} {q : V} (h : OwnL A es xs q σ) (hle : ∀ d x, A' d = some x → A d = some x) : ∃ σ', (∀ d x, σ' d = some x → σ d = some x) ∧ OwnL A' es xs q σ' := by
 rcases h.1 with ⟨hc, hl, rfl, es', rfl⟩ | ⟨b2, cap, hb, rfl, rfl, h4⟩
 ·exact ⟨A', hle, .inl ⟨hc, hl, rfl, es', rfl⟩, h.2⟩
 ·have hb' : A' b2 = none := by
   cases hc : A' b2 with
   | none => rfl
   | some x => rw [hle _ _ hc] at hb; cases hb
  exact ⟨Lg.upd A' b2 (flat xs), le_under hle, .inr ⟨b2, cap, hb', rfl, rfl, h4⟩, h.2⟩
section
variable {A : St} {b : Nat} {inp : Int} {gs : List (Int × Int)}
theorem Mk.blk (h : Mk A b inp gs σ) : ∃ q, σ b = some [.int .i64 inp, q] := by
 obtain ⟨q, h⟩ := h; exact ⟨q, h.get (upd_same _ _ _)⟩
theorem Mk.ext (h : Mk A b inp gs σ) {b3 : Nat} {z : List V} (hb : σ b3 = none) : Mk (upd A b3 z) b inp gs (upd σ b3 z) ∧ b3 ≠ b := by
 obtain ⟨q0, h0⟩ := h.blk
 have hne : b3 ≠ b := fun e => by subst e; rw [h0] at hb; cases hb
 obtain ⟨q, h⟩ := h
 have h' := h.ext (z := z) hb
 rw [upd_comm _ hne.symm] at h'
 exact ⟨⟨q, h'⟩, hne⟩
theorem Mk.get (h : Mk A b inp gs σ) {d : Nat} {x : List V} (hd : d ≠ b) (hA : A d = some x) : σ d = some x := by
 obtain ⟨q, h⟩ := h; exact h.get (by rw [upd_ne _ _ hd]; exact hA)
theorem Mk.upd (h : Mk A b inp gs σ) {d : Nat} {x z : List V} (hd : d ≠ b) (hA : A d = some x) : Mk (Lg.upd A d z) b inp gs (Lg.upd σ d z) := by
 obtain ⟨q, h⟩ := h
 have h' := h.upd (b := d) (c := x) (c' := z) (by rw [upd_ne _ _ hd]; exact hA)
 rw [upd_comm _ hd.symm] at h'
 exact ⟨q, h'⟩
theorem Mk.shrink (h : Mk A b inp gs σ) {A' : St} (hle : ∀ d x, d ≠ b → A' d = some x → A d = some x) : ∃ σ', (∀ d x, σ' d = some x → σ d = some x) ∧ Mk A' b inp gs σ' := by
 obtain ⟨q, h⟩ := h
 obtain ⟨σ', h1, h2⟩ := h.shrink (A' := Lg.upd A' b [.int .i64 inp, q]) (fun d x hd => by
  by_cases e : d = b
  ·subst e; rw [upd_same] at hd ⊢; exact hd
  ·rw [upd_ne _ _ e] at hd ⊢; exact hle _ _ e hd)
 exact ⟨σ', h1, q, h2⟩
end
def arr3 (L : List Int) : List V := [.int .i64 (L.getD 0 0), .int .i64 (L.getD 1 0), .int .i64 (L.getD 2 0)]
theorem arr3_set {L : List Int} {v : Int} (h : L.length < 3) : (arr3 L).set L.length (.int .i64 v) = arr3 (L ++ [v]) := by
 match L, h with
 | [], _ => rfl
 | [a], _ => rfl
 | [a, b], _ => rfl
theorem makeL_drop {inp : Int} {ks : List Ex} {i : Nat} {gs : List (Int × Int)} (h : i < ks.length) : makeL inp (ks.drop i) gs = ((makeP inp (ks.getD i default) gs).1 :: (makeL inp (ks.drop (i + 1)) (makeP inp (ks.getD i default) gs).2).1, (makeL inp (ks.drop (i + 1)) (makeP inp (ks.getD i default) gs).2).2) := by
 rw [drop_cons default h]; rfl
theorem innerL_drop {ks : List Ex} {i : Nat} (h : i < ks.length) : innerL (ks.drop i) = innerE (ks.getD i default) + innerL (ks.drop (i + 1)) := by
 rw [drop_cons default h]; rfl
set_option maxHeartbeats 1000000 in
theorem build_mk {inp : Int} (hinp : 0 ≤ inp ∧ inp ≤ 12) : ∀ e, ∀ {Γ σ A : St} {b : Nat} {gs : List (Int × Int)}, rightE e = true → Mk A b inp gs σ → mostE e < inp → gs.length + 3 * innerE e ≤ 90000 →
  ACalls Tryz.prog Γ 58 [.ptr b 0, exV e] σ fun r σ' => r = .int .i64 (makeP inp e gs).1 ∧ Mk A b inp (makeP inp e gs).2 σ' := by
 refine Ex.ind fun k n ks ih Γ σ A b gs hr hm hmost hgl => ?_
 have hk := right_kids hr
 have hkinds := kinds hr
 have har := arity_le k
 simp only [mostE, innerE] at hmost hgl
 have hlen : ks.length ≤ 3 := by
  rcases hkinds with ⟨_, rfl, _⟩ | ⟨_, rfl, _⟩ | ⟨_, _, _, hl⟩
  ·simp
  ·simp
  ·omega
 have hLL := makeL_ok (inp := inp) (fun e he => makeP_ok hinp.1 e (hk e he)) (by omega) gs
 refine acalls_W c58_ok rfl ?_
 simp (disch := omega) only [c58, exV_mk, go_sem]
 refine SRun.boxR (by simp [ev, look, V.cells, V.one]) ?_
 intro b3 hb3
 obtain ⟨hm3, n3⟩ := hm.ext (z := [.int .i64 k, .int .i64 n, .isl false 3 (exsV ks)]) hb3
 simp (disch := omega) only [go_sem]
 refine SRun.allocR ?_
 intro b5 hb5
 have n53 := (upd_none.1 hb5).1
 obtain ⟨hm5, n5⟩ := hm3.ext (z := [.int .i64 0, .int .i64 0, .int .i64 0]) hb5
 have g3 := hm5.get n3 (by rw [upd_ne _ _ n53.symm, upd_same])
 have hle : ∀ d x, d ≠ b → A d = some x → upd (upd A b3 [.int .i64 k, .int .i64 n, .isl false 3 (exsV ks)]) b5 [.int .i64 0, .int .i64 0, .int .i64 0] d = some x := by
  intro d x hd hA
  have hσ := hm.get hd hA
  have h3 : d ≠ b3 := fun e => by subst e; rw [hσ] at hb3; cases hb3
  have h5 : d ≠ b5 := fun e => by subst e; rw [le_upd hb3 _ _ hσ] at hb5; cases hb5
  rw [upd_ne _ _ h5, upd_ne _ _ h3]; exact hA
 have A3 : upd (upd A b3 [.int .i64 k, .int .i64 n, .isl false 3 (exsV ks)]) b5 [.int .i64 0, .int .i64 0, .int .i64 0] b3 = some [.int .i64 k, .int .i64 n, .isl false 3 (exsV ks)] := by rw [upd_ne _ _ n53.symm, upd_same]
 have A5 : upd (upd A b3 [.int .i64 k, .int .i64 n, .isl false 3 (exsV ks)]) b5 [.int .i64 0, .int .i64 0, .int .i64 0] b5 = some (arr3 []) := by rw [upd_same]; rfl
 simp (disch := omega) only [g3, exC_mk, go_sem]
 refine W_loopC (α := List Int × List (Int × Int) × St × St) (fun p => p.1.length ≤ ks.length ∧ Mk p.2.2.1 b inp p.2.1 p.2.2.2 ∧ makeL inp ks gs = (p.1 ++ (makeL inp (ks.drop p.1.length) p.2.1).1, (makeL inp (ks.drop p.1.length) p.2.1).2) ∧ p.2.1.length + 3 * innerL (ks.drop p.1.length) ≤ gs.length + 3 * innerL ks ∧
   p.2.2.1 b3 = some [.int .i64 k, .int .i64 n, .isl false 3 (exsV ks)] ∧ p.2.2.1 b5 = some (arr3 p.1) ∧ ∀ d x, d ≠ b → A d = some x → p.2.2.1 d = some x)
  (fun p => [(0, .ptr b 0), (3, .ptr b3 0), (5, .ptr b5 0), (11, .isl false 3 (exsV ks)), (12, .int .i64 ks.length), (13, .int .i64 (p.1.length : Nat))]) (fun p => p.2.2.2) (fun p => ks.length - p.1.length) ([], gs, upd (upd A b3 [.int .i64 k, .int .i64 n, .isl false 3 (exsV ks)]) b5 [.int .i64 0, .int .i64 0, .int .i64 0], upd (upd σ b3 [.int .i64 k, .int .i64 n, .isl false 3 (exsV ks)]) b5 [.int .i64 0, .int .i64 0, .int .i64 0]) ⟨by simp, hm5, by simp, by simp, A3, A5, hle⟩ (by simp (disch := omega) only [subT, Int.natCast_add, Int.cast_ofNat_Int, go_sem] <;> (repeat' apply And.intro) <;> first | rfl | (congr 1; omega) | assumption) rfl ?_
 rintro ⟨L, g2, A2, s⟩ ⟨hL, hmk, hmake, hin, a3, a5, hle2⟩ ih2
 dsimp only at hL hmk hmake hin a3 a5 hle2
 have s3 := hmk.get n3 a3
 have s5 := hmk.get n5 a5
 simp (disch := omega) only [go_sem]
 first | refine iteW_dec (fun hq => ?_) (fun hq => ?_) | refine iteW_of (fun hq => ?_) (fun hq => ?_)
 ·have he := getD_mem default (by omega : L.length < ks.length)
  rw [makeL_drop (by omega)] at hmake
  rw [innerL_drop (by omega)] at hin
  have hmE := mostL_mem he
  have hc1 := exC_one (ks.getD L.length default)
  simp (disch := omega) only [go_sem]
  refine SRun.allocR ?_
  intro b7 hb7
  obtain ⟨hm7, n7⟩ := hmk.ext (z := exC (ks.getD L.length default)) hb7
  have hA7 : A2 b7 = none := by
   cases hc : A2 b7 with
   | none => rfl
   | some x => rw [hmk.get n7 hc] at hb7; cases hb7
  simp (disch := omega) only [hc1, go_sem]
  refine SRun.callQ (ih _ he (hk _ he) hm7 (by omega) (by omega)) ⟨[], rfl, rfl⟩ rfl ?_
  rintro r s8 ⟨rfl, hm8⟩
  have a5' : upd A2 b7 (exC (ks.getD L.length default)) b5 = some (arr3 L) := le_upd hA7 _ _ a5
  have s85 := hm8.get n5 a5'
  have al : (arr3 L).length = 3 := rfl
  have hm9 := hm8.upd n5 a5' (z := arr3 (L ++ [(makeP inp (ks.getD L.length default) g2).1]))
  simp (disch := omega) only [s85, go_sem]
  rw [arr3_set (by omega)]
  refine ih2 (L ++ [(makeP inp (ks.getD L.length default) g2).1], (makeP inp (ks.getD L.length default) g2).2, upd (upd A2 b7 (exC (ks.getD L.length default))) b5 (arr3 (L ++ [(makeP inp (ks.getD L.length default) g2).1])), upd s8 b5 (arr3 (L ++ [(makeP inp (ks.getD L.length default) g2).1]))) _ _ ⟨by simp only [List.length_append, List.length_singleton]; omega, hm9, ?_, ?_, ?_, upd_same _ _ _, ?_⟩ (by simp only [List.length_append, List.length_singleton]; omega) (by simp (disch := omega) only [subT, Int.natCast_add, Int.cast_ofNat_Int, List.length_append, List.length_singleton, go_sem] <;> (repeat' apply And.intro) <;> first | rfl | (congr 1; omega) | assumption) rfl
  ·simp only [List.length_append, List.length_singleton]; rw [hmake]; simp
  ·simp only [List.length_append, List.length_singleton]
   have := (makeP_ok hinp.1 _ (hk _ he) g2 (by omega)).2.2
   omega
  ·show upd (upd A2 b7 (exC (ks.getD L.length default))) b5 _ b3 = _
   rw [upd_ne _ _ n53.symm]; exact le_upd hA7 _ _ a3
  ·intro d x hd hA
   show upd (upd A2 b7 (exC (ks.getD L.length default))) b5 _ d = _
   have h2 := hle2 _ _ hd hA
   by_cases e5 : d = b5
   ·subst e5
    exfalso
    rw [le_upd hb3 _ _ (hm.get hd hA)] at hb5; cases hb5
   ·rw [upd_ne _ _ e5]; exact le_upd hA7 _ _ h2
 ·have hLk : L.length = ks.length := by omega
  have hg2 : g2.length ≤ 90000 := by split at hgl <;> omega
  rw [hLk, List.drop_length] at hmake
  simp only [makeL, List.append_nil] at hmake
  rw [hmake] at hLL
  have hlit := hLL.1
  obtain ⟨s9, hle9, hm9⟩ := hmk.shrink hle2
  rcases hkinds with ⟨rfl, rfl, h0, h1⟩ | ⟨rfl, rfl, h0⟩ | ⟨h3, h7, rfl, hl⟩
  ·simp only [makeP, ↓reduceIte]
   simp only [makeL] at hmake
   obtain ⟨rfl, rfl⟩ := Prod.mk.inj hmake
   simp (disch := omega) only [s3, exC_mk, go_sem]
   exact W_retC c58_ok (r := .int .i64 (2 * n + 2)) (r' := .int .i64 (2 * n + 2)) (σ' := s9) rfl (Conv.drop _ hle9) ⟨rfl, hm9⟩
  ·simp only [makeP, ↓reduceIte, Int.reduceEq]
   simp only [makeL] at hmake
   obtain ⟨rfl, rfl⟩ := Prod.mk.inj hmake
   simp (disch := omega) only [s3, exC_mk, go_sem]
   exact W_retC c58_ok (r := .int .i64 n) (r' := .int .i64 n) (σ' := s9) rfl (Conv.drop _ hle9) ⟨rfl, hm9⟩
  ·have hmp : makeP inp (.mk k 0 ks) gs = opP inp k L g2 := by
    simp only [makeP]; rw [if_neg (by omega), if_neg (by omega), hmake]
   rw [hmp]
   have hkk : k = 3 ∨ k = 4 ∨ k = 5 ∨ k = 6 ∨ k = 7 := by omega
   rcases hkk with rfl | rfl | rfl | rfl | rfl
   ·have h0 : LitOK inp g2 (L.getD 0 0) := hlit _ (getD_mem 0 (by rw [hLk]; simp [arity] at hl; omega))
    have h0' := h0
    unfold LitOK at h0'
    have e0 := xor1 (y := L.getD 0 0) (by omega) (by omega)
    simp (disch := omega) only [s3, s5, exC_mk, arr3, e0, go_sem]
    exact W_retC c58_ok (r := .int .i64 (notP (L.getD 0 0))) (r' := .int .i64 (notP (L.getD 0 0))) (σ' := s9) rfl (Conv.drop _ hle9) ⟨rfl, hm9⟩
   ·have h0 : LitOK inp g2 (L.getD 0 0) := hlit _ (getD_mem 0 (by rw [hLk]; simp [arity] at hl; omega))
    have h1 : LitOK inp g2 (L.getD 1 0) := hlit _ (getD_mem 0 (by rw [hLk]; simp [arity] at hl; omega))
    simp (disch := omega) only [s3, s5, exC_mk, arr3, go_sem]
    refine SRun.callQ (and_mk hmk h0 h1 (by omega) (by omega)) ⟨[], rfl, rfl⟩ rfl ?_
    rintro r t1 ⟨rfl, hm1⟩
    obtain ⟨t9, hlt9, hn9⟩ := hm1.shrink hle2
    simp (disch := omega) only [go_sem]
    exact W_retC c58_ok (r := .int .i64 _) (r' := .int .i64 _) (σ' := t9) rfl (Conv.drop _ hlt9) ⟨rfl, hn9⟩
   ·have h0 : LitOK inp g2 (L.getD 0 0) := hlit _ (getD_mem 0 (by rw [hLk]; simp [arity] at hl; omega))
    have h1 : LitOK inp g2 (L.getD 1 0) := hlit _ (getD_mem 0 (by rw [hLk]; simp [arity] at hl; omega))
    simp (disch := omega) only [s3, s5, exC_mk, arr3, go_sem]
    refine SRun.callQ (or_mk hmk h0 h1 (by omega) (by omega)) ⟨[], rfl, rfl⟩ rfl ?_
    rintro r t1 ⟨rfl, hm1⟩
    obtain ⟨t9, hlt9, hn9⟩ := hm1.shrink hle2
    simp (disch := omega) only [go_sem]
    exact W_retC c58_ok (r := .int .i64 _) (r' := .int .i64 _) (σ' := t9) rfl (Conv.drop _ hlt9) ⟨rfl, hn9⟩
   ·have h0 : LitOK inp g2 (L.getD 0 0) := hlit _ (getD_mem 0 (by rw [hLk]; simp [arity] at hl; omega))
    have h1 : LitOK inp g2 (L.getD 1 0) := hlit _ (getD_mem 0 (by rw [hLk]; simp [arity] at hl; omega))
    have h0' := h0
    have h1' := h1
    unfold LitOK at h0' h1'
    have e0 := xor1 (y := L.getD 0 0) (by omega) (by omega)
    have e1 := xor1 (y := L.getD 1 0) (by omega) (by omega)
    simp (disch := omega) only [s3, s5, exC_mk, arr3, e1, go_sem]
    obtain ⟨p1, p2, p3⟩ := andP_ok hinp.1 h0 (notP_ok h1)
    refine SRun.callQ (and_mk hmk h0 (notP_ok h1) (by omega) (by omega)) ⟨[], rfl, rfl⟩ rfl ?_
    rintro r t1 ⟨rfl, hm1⟩
    have t15 := hm1.get n5 a5
    simp (disch := omega) only [t15, arr3, e0, go_sem]
    obtain ⟨q1, q2, q3⟩ := andP_ok hinp.1 ((notP_ok h0).mono p2) (h1.mono p2)
    refine SRun.callQ (and_mk hm1 ((notP_ok h0).mono p2) (h1.mono p2) (by omega) (by omega)) ⟨[], rfl, rfl⟩ rfl ?_
    rintro r t2 ⟨rfl, hm2⟩
    simp (disch := omega) only [go_sem]
    refine SRun.callQ (or_mk hm2 (p1.mono q2) q1 (by omega) (by omega)) ⟨[], rfl, rfl⟩ rfl ?_
    rintro r t3 ⟨rfl, hm3⟩
    obtain ⟨t9, hlt9, hn9⟩ := hm3.shrink hle2
    simp (disch := omega) only [go_sem]
    exact W_retC c58_ok (r := .int .i64 _) (r' := .int .i64 _) (σ' := t9) rfl (Conv.drop _ hlt9) ⟨rfl, hn9⟩
   ·have h0 : LitOK inp g2 (L.getD 0 0) := hlit _ (getD_mem 0 (by rw [hLk]; simp [arity] at hl; omega))
    have h1 : LitOK inp g2 (L.getD 1 0) := hlit _ (getD_mem 0 (by rw [hLk]; simp [arity] at hl; omega))
    have h2 : LitOK inp g2 (L.getD 2 0) := hlit _ (getD_mem 0 (by rw [hLk]; simp [arity] at hl; omega))
    have h0' := h0
    unfold LitOK at h0'
    have e0 := xor1 (y := L.getD 0 0) (by omega) (by omega)
    simp (disch := omega) only [s3, s5, exC_mk, arr3, go_sem]
    obtain ⟨p1, p2, p3⟩ := andP_ok hinp.1 h0 h1
    refine SRun.callQ (and_mk hmk h0 h1 (by omega) (by omega)) ⟨[], rfl, rfl⟩ rfl ?_
    rintro r t1 ⟨rfl, hm1⟩
    have t15 := hm1.get n5 a5
    simp (disch := omega) only [t15, arr3, e0, go_sem]
    obtain ⟨q1, q2, q3⟩ := andP_ok hinp.1 ((notP_ok h0).mono p2) (h2.mono p2)
    refine SRun.callQ (and_mk hm1 ((notP_ok h0).mono p2) (h2.mono p2) (by omega) (by omega)) ⟨[], rfl, rfl⟩ rfl ?_
    rintro r t2 ⟨rfl, hm2⟩
    simp (disch := omega) only [go_sem]
    refine SRun.callQ (or_mk hm2 (p1.mono q2) q1 (by omega) (by omega)) ⟨[], rfl, rfl⟩ rfl ?_
    rintro r t3 ⟨rfl, hm3⟩
    obtain ⟨t9, hlt9, hn9⟩ := hm3.shrink hle2
    simp (disch := omega) only [go_sem]
    exact W_retC c58_ok (r := .int .i64 _) (r' := .int .i64 _) (σ' := t9) rfl (Conv.drop _ hlt9) ⟨rfl, hn9⟩
end
section
attribute [local irreducible] SRun DS DRun
variable {Γ : St} {σ σ0 : St}
theorem own_swap {A B C : St} {e1 e2 : Nat} {xs ys : List V} {p q : V} (h1 : OwnL A e1 xs p B) (h2 : OwnL B e2 ys q C) : ∃ B', OwnL A e2 ys q B' ∧ OwnL B' e1 xs p C := by
 rcases h1.1 with ⟨a1, a2, a3, a4⟩ | ⟨b1, c1, a1, a2, a3, a4⟩
 ·subst a3
  exact ⟨C, h2, .inl ⟨a1, a2, rfl, a4⟩, h1.2⟩
 ·subst a3
  rcases h2.1 with ⟨d1, d2, d3, d4⟩ | ⟨b2, c2, d1, d2, d3, d4⟩
  ·subst d3
   exact ⟨A, ⟨.inl ⟨d1, d2, rfl, d4⟩, h2.2⟩, h1⟩
  ·subst d3
   have hn := upd_none.1 d1
   refine ⟨upd A b2 (flat ys), ⟨.inr ⟨b2, c2, hn.2, d2, rfl, d4⟩, h2.2⟩, .inr ⟨b1, c1, upd_none.2 ⟨hn.1.symm, a1⟩, a2, ?_, a4⟩, h1.2⟩
   rw [upd_comm _ hn.1.symm]
/-- A circuit that is made, and a row of numbers beside it. -/
def Mk2 (A : St) (b : Nat) (inp : Int) (gs : List (Int × Int)) (L : List Int) (t : V) (s : St) : Prop := ∃ q B, OwnL (upd A b [.int .i64 inp, q]) 1 (ints L) t B ∧ OwnL B 2 (gsV gs) q s
section
variable {A : St} {b : Nat} {inp : Int} {gs : List (Int × Int)} {L : List Int} {t : V} {s : St}
theorem Mk2.start (h : Mk A b inp gs s) (e : Nat) : Mk2 A b inp gs [] (.isl true e []) s := by
 obtain ⟨q, h⟩ := h; exact ⟨q, _, OwnL.nil _ _, h⟩
theorem Mk2.mk (h : Mk2 A b inp gs L t s) : ∃ B, Mk B b inp gs s ∧ ∀ gs' s', Mk B b inp gs' s' → Mk2 A b inp gs' L t s' := by
 obtain ⟨q, B, h1, h2⟩ := h
 have hB := h1.get (upd_same _ _ _)
 refine ⟨B, ⟨q, by rw [upd_self _ hB]; exact h2⟩, ?_⟩
 rintro gs' s' ⟨q', h3⟩
 have h4 := h1.upd (c' := [.int .i64 inp, q']) (upd_same _ b _)
 rw [upd_upd] at h4
 exact ⟨q', _, h4, h3⟩
theorem Mk2.app (h : Mk2 A b inp gs L t s) : ∃ B, OwnL B 1 (ints L) t s ∧ Mk A b inp gs B ∧ ∀ L' t' s', OwnL B 1 (ints L') t' s' → Mk2 A b inp gs L' t' s' := by
 obtain ⟨q, B, h1, h2⟩ := h
 obtain ⟨B', h3, h4⟩ := own_swap h1 h2
 refine ⟨B', h4, ⟨q, h3⟩, fun L' t' s' h5 => ?_⟩
 obtain ⟨B2, h6, h7⟩ := own_swap h3 h5
 exact ⟨q, B2, h6, h7⟩
theorem Mk2.get (h : Mk2 A b inp gs L t s) {d : Nat} {x : List V} (hd : d ≠ b) (hA : A d = some x) : s d = some x := by
 obtain ⟨B, h1, h2, _⟩ := h.app
 exact h1.get (h2.get hd hA)
theorem Mk2.row (h : Mk2 A b inp gs L t s) (hne : L ≠ []) : ∃ bq cap, t = .msl bq 1 0 (ints L).length cap ∧ s bq = some (ints L) := by
 obtain ⟨B, h1, _, _⟩ := h.app
 obtain ⟨bq, cap, e1, e2, _⟩ := h1.at (fun e => hne (by have := congrArg List.length e; rw [ints_len] at this; exact List.eq_nil_of_length_eq_zero this))
 rw [flat_one (ints_one L)] at e2
 exact ⟨bq, cap, e1, e2⟩
end
set_option maxHeartbeats 1000000 in
theorem make_mk {inp : Int} (hinp : 0 ≤ inp ∧ inp ≤ 12) : ∀ e, ∀ {Γ σ A : St} {b : Nat} {gs : List (Int × Int)}, rightE e = true → Mk A b inp gs σ → mostE e < inp → gs.length + 3 * innerE e ≤ 90000 →
  ACalls Tryz.prog Γ 70 [.ptr b 0, exV e] σ fun r σ' => r = .int .i64 (makeP inp e gs).1 ∧ Mk A b inp (makeP inp e gs).2 σ' := by
 refine Ex.ind fun k n ks ih Γ σ A b gs hr hm hmost hgl => ?_
 have hk := right_kids hr
 have hkinds := kinds hr
 have har := arity_le k
 simp only [mostE, innerE] at hmost hgl
 have hlen : ks.length ≤ 3 := by
  rcases hkinds with ⟨_, rfl, _⟩ | ⟨_, rfl, _⟩ | ⟨_, _, _, hl⟩
  ·simp
  ·simp
  ·omega
 have hLL := makeL_ok (inp := inp) (fun e he => makeP_ok hinp.1 e (hk e he)) (by omega) gs
 refine acalls_W c70_ok rfl ?_
 simp (disch := omega) only [c70, exV_mk, go_sem]
 refine SRun.boxR (by simp [ev, look, V.cells, V.one]) ?_
 intro b3 hb3
 obtain ⟨hm3, n3⟩ := hm.ext (z := [.int .i64 k, .int .i64 n, .isl false 3 (exsV ks)]) hb3
 have A3 : upd A b3 [.int .i64 k, .int .i64 n, .isl false 3 (exsV ks)] b3 = some [.int .i64 k, .int .i64 n, .isl false 3 (exsV ks)] := upd_same _ _ _
 have hle2 : ∀ d x, d ≠ b → A d = some x → upd A b3 [.int .i64 k, .int .i64 n, .isl false 3 (exsV ks)] d = some x := by
  intro d x hd hA
  have hσ := hm.get hd hA
  have h3 : d ≠ b3 := fun e => by subst e; rw [hσ] at hb3; cases hb3
  rw [upd_ne _ _ h3]; exact hA
 generalize upd A b3 [.int .i64 k, .int .i64 n, .isl false 3 (exsV ks)] = A2 at *
 rcases hkinds with ⟨rfl, rfl, h0, h1⟩ | ⟨rfl, rfl, h0⟩ | ⟨h3, h7, rfl, hl⟩
 ·obtain ⟨s9, hle9, hm9⟩ := hm3.shrink hle2
  simp only [makeP, ↓reduceIte]
  simp (disch := omega) only [exC_mk, go_sem]
  exact W_retC c70_ok (r := .int .i64 (2 * (n + 1))) (r' := .int .i64 (2 * (n + 1))) (σ' := s9) rfl (Conv.drop _ hle9) ⟨by rw [Int.mul_add]; rfl, hm9⟩
 ·obtain ⟨s9, hle9, hm9⟩ := hm3.shrink hle2
  simp only [makeP, ↓reduceIte, Int.reduceEq]
  simp (disch := omega) only [exC_mk, go_sem]
  exact W_retC c70_ok (r := .int .i64 n) (r' := .int .i64 n) (σ' := s9) rfl (Conv.drop _ hle9) ⟨rfl, hm9⟩
 ·have hk1 : ¬ k = 1 := by omega
  have hk2 : ¬ k = 2 := by omega
  have hgl' : gs.length + 3 * innerL ks ≤ 90000 := by split at hgl <;> omega
  simp (disch := omega) only [exC_mk, go_sem]
  refine W_loopC (α := List Int × List (Int × Int) × V × St) (fun p => p.1.length ≤ ks.length ∧ Mk2 A2 b inp p.2.1 p.1 p.2.2.1 p.2.2.2 ∧ makeL inp ks gs = (p.1 ++ (makeL inp (ks.drop p.1.length) p.2.1).1, (makeL inp (ks.drop p.1.length) p.2.1).2) ∧ p.2.1.length + 3 * innerL (ks.drop p.1.length) ≤ gs.length + 3 * innerL ks)
   (fun p => [(0, .ptr b 0), (3, .ptr b3 0), (5, p.2.2.1), (6, .int .i64 (p.1.length : Nat))]) (fun p => p.2.2.2) (fun p => ks.length - p.1.length) ([], gs, .isl true 1 [], _) ⟨by simp, Mk2.start hm3 1, by simp, by simp⟩ (by simp (disch := omega) only [subT, Int.natCast_add, Int.cast_ofNat_Int, go_sem] <;> (repeat' apply And.intro) <;> first | rfl | (congr 1; omega) | assumption) rfl ?_
  rintro ⟨L, g2, t, s⟩ ⟨hL, hmk, hmake, hin⟩ ih2
  dsimp only at hL hmk hmake hin
  have s3 := hmk.get n3 A3
  simp (disch := omega) only [s3, exC_mk, go_sem]
  first | refine iteW_dec (fun hq => ?_) (fun hq => ?_) | refine iteW_of (fun hq => ?_) (fun hq => ?_)
  ·have he := getD_mem default (by omega : L.length < ks.length)
   rw [makeL_drop (by omega)] at hmake
   rw [innerL_drop (by omega)] at hin
   have hmE := mostL_mem he
   simp (disch := omega) only [s3, exC_mk, go_sem]
   obtain ⟨B, hB1, hB2⟩ := hmk.mk
   refine SRun.callQ (ih _ he (hk _ he) hB1 (by omega) (by omega)) ⟨[], rfl, rfl⟩ rfl ?_
   rintro r s8 ⟨rfl, hm8⟩
   have hmk8 := hB2 _ _ hm8
   obtain ⟨B', hC1, _, hC2⟩ := hmk8.app
   simp (disch := omega) only [go_sem]
   refine SRun.appL hC1 rfl (by simp [V.cells, V.one]) (by simp only [ints_len, List.length_singleton]; omega) ?_
   intro t' s9 ho9
   rw [ints_app] at ho9
   have hmk9 := hC2 _ _ _ ho9
   simp (disch := omega) only [go_sem]
   refine ih2 (L ++ [(makeP inp (ks.getD L.length default) g2).1], (makeP inp (ks.getD L.length default) g2).2, t', s9) _ _ ⟨by simp only [List.length_append, List.length_singleton]; omega, hmk9, ?_, ?_⟩ (by simp only [List.length_append, List.length_singleton]; omega) (by simp (disch := omega) only [subT, Int.natCast_add, Int.cast_ofNat_Int, List.length_append, List.length_singleton, go_sem] <;> (repeat' apply And.intro) <;> first | rfl | (congr 1; omega) | assumption) rfl
   ·simp only [List.length_append, List.length_singleton]; rw [hmake]; simp
   ·simp only [List.length_append, List.length_singleton]
    have := (makeP_ok hinp.1 _ (hk _ he) g2 (by omega)).2.2
    omega
  ·have hLk : L.length = ks.length := by omega
   rw [hLk, List.drop_length] at hmake
   simp only [makeL, List.append_nil] at hmake
   rw [hmake] at hLL
   have hlit := hLL.1
   have hmp : makeP inp (.mk k 0 ks) gs = opP inp k L g2 := by
    simp only [makeP]; rw [if_neg hk1, if_neg hk2, hmake]
   rw [hmp]
   have hne : L ≠ [] := fun e => by
    rw [e] at hLk
    have : arity k = 0 := by rw [← hl, ← hLk]; rfl
    unfold arity at this
    rw [if_neg (by omega)] at this
    (repeat' split at this) <;> omega
   have hg2 : g2.length ≤ 90000 := by omega
   have hkk : k = 3 ∨ k = 4 ∨ k = 5 ∨ k = 6 ∨ k = 7 := by omega
   rcases hkk with rfl | rfl | rfl | rfl | rfl
   ·simp [arity] at hl
    have h0 : LitOK inp g2 (L.getD 0 0) := hlit _ (getD_mem 0 (by omega))
    have h0' := h0
    unfold LitOK at h0'
    obtain ⟨bq, cap, rfl, hbq⟩ := hmk.row hne
    have i0 := ints_get (getD_some 0 (by omega : 0 < L.length))
    have hil := ints_len L
    simp (disch := omega) only [s3, exC_mk, hbq, i0, go_sem]
    refine SRun.callR (l04Not_ok (x := L.getD 0 0) (by omega)) ⟨[], rfl, rfl⟩ rfl ?_
    simp (disch := omega) only [List.getD_cons_zero, List.getD_cons_succ, go_sem]
    obtain ⟨B', hD1, hD2, _⟩ := hmk.app
    obtain ⟨t9, hlt9, hn9⟩ := hD2.shrink hle2
    exact W_retC c70_ok (r := .int .i64 (notP (L.getD 0 0))) (r' := .int .i64 (notP (L.getD 0 0))) (σ' := t9) rfl (Conv.drop _ fun d x h => hD1.le _ _ (hlt9 _ _ h)) ⟨rfl, hn9⟩
   ·simp [arity] at hl
    have h0 : LitOK inp g2 (L.getD 0 0) := hlit _ (getD_mem 0 (by omega))
    have h0' := h0
    unfold LitOK at h0'
    have i0 := ints_get (getD_some 0 (by omega : 0 < L.length))
    have h1 : LitOK inp g2 (L.getD 1 0) := hlit _ (getD_mem 0 (by omega))
    have h1' := h1
    unfold LitOK at h1'
    have i1 := ints_get (getD_some 0 (by omega : 1 < L.length))
    obtain ⟨bq, cap, rfl, hbq⟩ := hmk.row hne
    have hil := ints_len L
    obtain ⟨B, hB1, hB2⟩ := hmk.mk
    simp (disch := omega) only [s3, exC_mk, go_sem]
    refine W_drawW ?_
    simp (disch := omega) only [hbq, i0, i1, go_sem]
    refine DRun.callQ (ands_mk hB1 h0 h1 (by omega) (by omega)) ⟨[], rfl, rfl⟩ ?_
    rintro r t1 ⟨rfl, hm1⟩
    obtain ⟨B', hD1, hD2, _⟩ := (hB2 _ _ hm1).app
    obtain ⟨t9, hlt9, hn9⟩ := hD2.shrink hle2
    simp (disch := omega) only [go_sem]
    exact W_retC c70_ok (r := .int .i64 _) (r' := .int .i64 _) (σ' := t9) rfl (Conv.drop _ fun d x h => hD1.le _ _ (hlt9 _ _ h)) ⟨rfl, hn9⟩
   ·simp [arity] at hl
    have h0 : LitOK inp g2 (L.getD 0 0) := hlit _ (getD_mem 0 (by omega))
    have h0' := h0
    unfold LitOK at h0'
    have i0 := ints_get (getD_some 0 (by omega : 0 < L.length))
    have h1 : LitOK inp g2 (L.getD 1 0) := hlit _ (getD_mem 0 (by omega))
    have h1' := h1
    unfold LitOK at h1'
    have i1 := ints_get (getD_some 0 (by omega : 1 < L.length))
    obtain ⟨bq, cap, rfl, hbq⟩ := hmk.row hne
    have hil := ints_len L
    obtain ⟨B, hB1, hB2⟩ := hmk.mk
    simp (disch := omega) only [s3, exC_mk, go_sem]
    refine W_drawW ?_
    simp (disch := omega) only [hbq, i0, i1, go_sem]
    refine DRun.callQ (ors_mk hB1 h0 h1 (by omega) (by omega)) ⟨[], rfl, rfl⟩ ?_
    rintro r t1 ⟨rfl, hm1⟩
    obtain ⟨B', hD1, hD2, _⟩ := (hB2 _ _ hm1).app
    obtain ⟨t9, hlt9, hn9⟩ := hD2.shrink hle2
    simp (disch := omega) only [go_sem]
    exact W_retC c70_ok (r := .int .i64 _) (r' := .int .i64 _) (σ' := t9) rfl (Conv.drop _ fun d x h => hD1.le _ _ (hlt9 _ _ h)) ⟨rfl, hn9⟩
   ·simp [arity] at hl
    have h0 : LitOK inp g2 (L.getD 0 0) := hlit _ (getD_mem 0 (by omega))
    have h0' := h0
    unfold LitOK at h0'
    have i0 := ints_get (getD_some 0 (by omega : 0 < L.length))
    have h1 : LitOK inp g2 (L.getD 1 0) := hlit _ (getD_mem 0 (by omega))
    have h1' := h1
    unfold LitOK at h1'
    have i1 := ints_get (getD_some 0 (by omega : 1 < L.length))
    obtain ⟨bq, cap, rfl, hbq⟩ := hmk.row hne
    have hil := ints_len L
    obtain ⟨B, hB1, hB2⟩ := hmk.mk
    simp (disch := omega) only [s3, exC_mk, go_sem]
    rw [W_draw]
    refine DRun.start (DRun.mixE rfl ?_)
    simp (disch := omega) only [hbq, i0, i1, go_sem]
    refine DS.callQ (l04Not_ok (x := L.getD 1 0) (by omega)) ⟨[], rfl, rfl⟩ rfl ?_
    rintro r s ⟨rfl, rfl⟩ _
    simp (disch := omega) only [go_sem]
    obtain ⟨p1, p2, p3⟩ := andP_ok hinp.1 h0 (notP_ok h1)
    refine DRun.callQ (ands_mk hB1 h0 (notP_ok h1) (by omega) (by omega)) ⟨[], rfl, rfl⟩ ?_
    rintro r t1 ⟨rfl, hm1⟩
    obtain ⟨bq', cap', e, hbq'⟩ := (hB2 _ _ hm1).row hne
    cases e
    simp (disch := omega) only [go_sem]
    rw [W_draw]
    refine DRun.start (DRun.mixE rfl ?_)
    simp (disch := omega) only [hbq', i0, i1, go_sem]
    refine DS.callQ (l04Not_ok (x := L.getD 0 0) (by omega)) ⟨[], rfl, rfl⟩ rfl ?_
    rintro r s ⟨rfl, rfl⟩ _
    simp (disch := omega) only [go_sem]
    obtain ⟨q1, q2, q3⟩ := andP_ok hinp.1 ((notP_ok h0).mono p2) (h1.mono p2)
    refine DRun.callQ (ands_mk hm1 ((notP_ok h0).mono p2) (h1.mono p2) (by omega) (by omega)) ⟨[], rfl, rfl⟩ ?_
    rintro r t2 ⟨rfl, hm2⟩
    simp (disch := omega) only [go_sem]
    refine SRun.callQ (ors_mk hm2 (p1.mono q2) q1 (by omega) (by omega)) ⟨[], rfl, rfl⟩ rfl ?_
    rintro r t3 ⟨rfl, hm3⟩
    obtain ⟨B', hD1, hD2, _⟩ := (hB2 _ _ hm3).app
    obtain ⟨t9, hlt9, hn9⟩ := hD2.shrink hle2
    simp (disch := omega) only [go_sem]
    exact W_retC c70_ok (r := .int .i64 _) (r' := .int .i64 _) (σ' := t9) rfl (Conv.drop _ fun d x h => hD1.le _ _ (hlt9 _ _ h)) ⟨rfl, hn9⟩
   ·simp [arity] at hl
    have h0 : LitOK inp g2 (L.getD 0 0) := hlit _ (getD_mem 0 (by omega))
    have h0' := h0
    unfold LitOK at h0'
    have i0 := ints_get (getD_some 0 (by omega : 0 < L.length))
    have h1 : LitOK inp g2 (L.getD 1 0) := hlit _ (getD_mem 0 (by omega))
    have h1' := h1
    unfold LitOK at h1'
    have i1 := ints_get (getD_some 0 (by omega : 1 < L.length))
    have h2 : LitOK inp g2 (L.getD 2 0) := hlit _ (getD_mem 0 (by omega))
    have h2' := h2
    unfold LitOK at h2'
    have i2 := ints_get (getD_some 0 (by omega : 2 < L.length))
    obtain ⟨bq, cap, rfl, hbq⟩ := hmk.row hne
    have hil := ints_len L
    obtain ⟨B, hB1, hB2⟩ := hmk.mk
    simp (disch := omega) only [s3, exC_mk, go_sem]
    refine W_drawW ?_
    simp (disch := omega) only [hbq, i0, i1, go_sem]
    obtain ⟨p1, p2, p3⟩ := andP_ok hinp.1 h0 h1
    refine DRun.callQ (ands_mk hB1 h0 h1 (by omega) (by omega)) ⟨[], rfl, rfl⟩ ?_
    rintro r t1 ⟨rfl, hm1⟩
    obtain ⟨bq', cap', e, hbq'⟩ := (hB2 _ _ hm1).row hne
    cases e
    simp (disch := omega) only [go_sem]
    rw [W_draw]
    refine DRun.start (DRun.mixE rfl ?_)
    simp (disch := omega) only [hbq', i0, i2, go_sem]
    refine DS.callQ (l04Not_ok (x := L.getD 0 0) (by omega)) ⟨[], rfl, rfl⟩ rfl ?_
    rintro r s ⟨rfl, rfl⟩ _
    simp (disch := omega) only [go_sem]
    obtain ⟨q1, q2, q3⟩ := andP_ok hinp.1 ((notP_ok h0).mono p2) (h2.mono p2)
    refine DRun.callQ (ands_mk hm1 ((notP_ok h0).mono p2) (h2.mono p2) (by omega) (by omega)) ⟨[], rfl, rfl⟩ ?_
    rintro r t2 ⟨rfl, hm2⟩
    simp (disch := omega) only [go_sem]
    refine SRun.callQ (ors_mk hm2 (p1.mono q2) q1 (by omega) (by omega)) ⟨[], rfl, rfl⟩ rfl ?_
    rintro r t3 ⟨rfl, hm3⟩
    obtain ⟨B', hD1, hD2, _⟩ := (hB2 _ _ hm3).app
    obtain ⟨t9, hlt9, hn9⟩ := hD2.shrink hle2
    simp (disch := omega) only [go_sem]
    exact W_retC c70_ok (r := .int .i64 _) (r' := .int .i64 _) (σ' := t9) rfl (Conv.drop _ fun d x h => hD1.le _ _ (hlt9 _ _ h)) ⟨rfl, hn9⟩
end
section
attribute [local irreducible] SRun DS DRun
variable {Γ : St} {σ σ0 : St}
section
variable {A : St} {b : Nat} {inp : Int} {gs : List (Int × Int)} {L : List Int} {t : V} {s : St}
theorem Mk2.blk (h : Mk2 A b inp gs L t s) : ∃ q, s b = some [.int .i64 inp, q] := by
 obtain ⟨B, h1, _⟩ := h.mk; exact h1.blk
theorem Mk2.ext (h : Mk2 A b inp gs L t s) {d : Nat} {z : List V} (hd : s d = none) : Mk2 (upd A d z) b inp gs L t (upd s d z) ∧ d ≠ b := by
 obtain ⟨q0, h0⟩ := h.blk
 have hne : d ≠ b := fun e => by subst e; rw [h0] at hd; cases hd
 obtain ⟨q, B, h1, h2⟩ := h
 have hB : B d = none := by
  cases hc : B d with
  | none => rfl
  | some x => rw [h2.get hc] at hd; cases hd
 have h1' := h1.ext (z := z) hB
 rw [upd_comm _ hne.symm] at h1'
 exact ⟨⟨q, _, h1', h2.ext hd⟩, hne⟩
theorem Mk2.upd (h : Mk2 A b inp gs L t s) {d : Nat} {x z : List V} (hd : d ≠ b) (hA : A d = some x) : Mk2 (Lg.upd A d z) b inp gs L t (Lg.upd s d z) := by
 obtain ⟨q, B, h1, h2⟩ := h
 have h1' := h1.upd (b := d) (c := x) (c' := z) (by rw [upd_ne _ _ hd]; exact hA)
 rw [upd_comm _ hd.symm] at h1'
 exact ⟨q, _, h1', h2.upd (h1.get (by rw [upd_ne _ _ hd]; exact hA))⟩
/-- What is read of it, and what it is given up to. -/
theorem Mk2.done (h : Mk2 A b inp gs L t s) : ∃ q, s b = some [.int .i64 inp, q] ∧ q.one = true ∧ (∀ σ, (∀ d x, σ d = some x → d ≠ b ∧ A d = some x) → (∀ d x, σ d = some x → s d = some x) ∧ Frz s σ q (.isl false 2 (gsV gs)) ∧ Frz s σ t (intsV L)) ∧ ∃ B, OwnL B 2 (gsV gs) q s := by
 obtain ⟨q, B, h1, h2⟩ := h
 obtain ⟨B', h3, h4⟩ := own_swap h1 h2
 have hb := h2.get (h1.get (upd_same _ _ _))
 refine ⟨q, hb, h2.one, fun σ hσ => ?_, B, h2⟩
 have hA : ∀ d x, σ d = some x → Lg.upd A b [.int .i64 inp, q] d = some x := fun d x hd => by
  rw [upd_ne _ _ (hσ d x hd).1]; exact (hσ d x hd).2
 have hn : ∀ {C : St}, (∀ d x, Lg.upd A b [.int .i64 inp, q] d = some x → C d = some x) → ∀ d, C d = none → σ d = none := by
  intro C hC d hd
  cases hc : σ d with
  | none => rfl
  | some x => rw [hC _ _ (hA _ _ hc)] at hd; cases hd
 exact ⟨fun d x hd => h2.le _ _ (h1.le _ _ (hA _ _ hd)), h2.frz (fun _ _ => rfl) (hn h1.le), h4.frz (fun _ _ => rfl) (hn h3.le)⟩
end
theorem resV_3 {T : Ts} {a nn b p q : Nat} {cs : List V} (h : look T a = .ptr b 0) (hb : σ b = some cs) (hl : nn = cs.length) : resV [.cell a true nn, .t p, .t q] T σ = some (.tup [.agg cs, look T p, look T q]) := by
 subst hl
 simp [resV, resV1, h, hb]
def aigV (inp : Int) (gs : List (Int × Int)) : V := .agg [.int .i64 inp, .isl false 2 (gsV gs)]
/-- What a list of expressions must be to be built. -/
structure Fit (inp : Int) (ks : List Ex) : Prop where
 ok : ∀ e ∈ ks, okE e = true
 most : mostL ks < inp
 inner : 3 * innerL ks ≤ 400
 len : ks.length ≤ 1000
theorem okE_right {e : Ex} (h : okE e = true) : rightE e = true ∧ sizeE e ≤ 400 ∧ depthE e ≤ 40 := by
 simp only [okE, Bool.and_eq_true, decide_eq_true_eq] at h
 exact ⟨h.1.1, h.1.2, h.2⟩
set_option maxHeartbeats 1000000 in
theorem buildAig_ok {inp : Int} (hinp : 0 ≤ inp ∧ inp ≤ 12) {ex : Bool} {ks : List Ex} (hf : Fit inp ks) :
  Ret Tryz.prog Γ 30 [.int .i64 inp, .isl ex 3 (exsV ks)] σ (.tup [aigV inp (makeL inp ks []).2, intsV (makeL inp ks []).1, .int .i64 0]) σ := by
 have hin := hf.inner
 have hlen := hf.len
 have hLL := makeL_ok (inp := inp) (fun e he => makeP_ok hinp.1 e (okE_right (hf.ok e he)).1) hf.most []
 have hb : (decide (0 ≤ inp) && decide (inp ≤ 12)) = true := by simp; omega
 refine ret_of c30_ok rfl ?_
 simp (disch := omega) only [c30, go_sem]
 refine SRun.allocR ?_
 intro b4 hb4
 simp (disch := omega) only [go_sem]
 refine SRun.callR (within_ok inp 0 12) ⟨[], rfl, rfl⟩ rfl ?_
 simp (disch := omega) only [List.getD_cons_zero, List.getD_cons_succ, go_sem]
 simp (disch := omega) only [hb, go_sem]
 refine W_loopC (α := Nat × St) (fun p => p.1 ≤ ks.length ∧ ∀ d x, upd σ b4 [.int .i64 0, .isl true 0 []] d = some x → p.2 d = some x) (fun p => [(0, .int .i64 inp), (1, .isl ex 3 (exsV ks)), (4, .ptr b4 0), (17, .isl ex 3 (exsV ks)), (18, .int .i64 ks.length), (19, .int .i64 (p.1 : Nat))]) (fun p => p.2) (fun p => ks.length - p.1) (0, upd σ b4 [.int .i64 0, .isl true 0 []]) ⟨by omega, fun _ _ h => h⟩ (by simp (disch := omega) only [subT, Int.natCast_add, Int.cast_ofNat_Int, go_sem] <;> (repeat' apply And.intro) <;> first | rfl | (congr 1; omega) | assumption) rfl ?_
 rintro ⟨i, s⟩ ⟨hi, hs⟩ ih
 dsimp only at hi hs
 simp (disch := omega) only [go_sem]
 first | refine iteW_dec (fun hq => ?_) (fun hq => ?_) | refine iteW_of (fun hq => ?_) (fun hq => ?_)
 ·have he := getD_mem default (by omega : i < ks.length)
  have hok := hf.ok _ he
  have hr := okE_right hok
  have hmE := mostL_mem he
  have hmost := hf.most
  have hc1 := exC_one (ks.getD i default)
  simp (disch := omega) only [go_sem]
  refine SRun.allocR ?_
  intro b8 hb8
  simp (disch := omega) only [hc1, go_sem]
  refine SRun.callR (isEx_ok (e := ks.getD i default) (by omega)) ⟨[], rfl, rfl⟩ rfl ?_
  simp (disch := omega) only [List.getD_cons_zero, List.getD_cons_succ, go_sem]
  simp (disch := omega) only [hok, go_sem]
  refine SRun.callR (mostVar_ok (ks.getD i default) hr.1 (by omega)) ⟨[], rfl, rfl⟩ rfl ?_
  simp (disch := omega) only [List.getD_cons_zero, List.getD_cons_succ, go_sem]
  exact ih (i + 1, _) _ _ ⟨by simp only; omega, fun d x h => le_upd hb8 _ _ (hs _ _ h)⟩ (by simp only; omega) (by simp (disch := omega) only [subT, Int.natCast_add, Int.cast_ofNat_Int, go_sem] <;> (repeat' apply And.intro) <;> first | rfl | (congr 1; omega) | assumption) rfl
 ·clear ih
  have g4 := hs b4 _ (upd_same _ _ _)
  have hσs : ∀ d x, σ d = some x → s d = some x := fun d x h => hs _ _ (le_upd hb4 _ _ h)
  clear hs
  simp (disch := omega) only [go_sem]
  refine SRun.allocR ?_
  intro b9 hb9
  have n49 : b4 ≠ b9 := fun e => by subst e; rw [g4] at hb9; cases hb9
  simp (disch := omega) only [go_sem]
  have hmk0 : Mk2 s b9 inp [] [] (.isl true 0 []) (upd s b9 [.int .i64 inp, .isl true 0 []]) := ⟨.isl true 0 [], _, OwnL.nil _ _, OwnL.nil _ _⟩
  refine W_loopC (α := List Int × List (Int × Int) × V × St × St) (fun p => p.1.length ≤ ks.length ∧ Mk2 p.2.2.2.1 b9 inp p.2.1 p.1 p.2.2.1 p.2.2.2.2 ∧ makeL inp ks [] = (p.1 ++ (makeL inp (ks.drop p.1.length) p.2.1).1, (makeL inp (ks.drop p.1.length) p.2.1).2) ∧ p.2.1.length + 3 * innerL (ks.drop p.1.length) ≤ 3 * innerL ks ∧
    ∀ d x, s d = some x → p.2.2.2.1 d = some x)
   (fun p => [(4, .ptr b4 0), (9, .ptr b9 0), (10, p.2.2.1), (35, .isl ex 3 (exsV ks)), (36, .int .i64 ks.length), (37, .int .i64 (p.1.length : Nat))]) (fun p => p.2.2.2.2) (fun p => ks.length - p.1.length) ([], [], .isl true 0 [], s, upd s b9 [.int .i64 inp, .isl true 0 []]) ⟨by simp, hmk0, by simp, by simp, fun _ _ h => h⟩ (by simp (disch := omega) only [subT, Int.natCast_add, Int.cast_ofNat_Int, go_sem] <;> (repeat' apply And.intro) <;> first | rfl | (congr 1; omega) | assumption) rfl ?_
  rintro ⟨L, g2, t, A2, s2⟩ ⟨hL, hmk, hmake, hing, hle2⟩ ih2
  dsimp only at hL hmk hmake hing hle2
  simp (disch := omega) only [go_sem]
  first | refine iteW_dec (fun hq2 => ?_) (fun hq2 => ?_) | refine iteW_of (fun hq2 => ?_) (fun hq2 => ?_)
  ·have he := getD_mem default (by omega : L.length < ks.length)
   have hok := hf.ok _ he
   have hr := okE_right hok
   have hmE := mostL_mem he
   have hmost := hf.most
   rw [makeL_drop (by omega)] at hmake
   rw [innerL_drop (by omega)] at hing
   have hc1 := exC_one (ks.getD L.length default)
   simp (disch := omega) only [go_sem]
   refine SRun.allocR ?_
   intro b12 hb12
   obtain ⟨hmk12, n12⟩ := hmk.ext (z := exC (ks.getD L.length default)) hb12
   have hA12 : A2 b12 = none := by
    cases hc : A2 b12 with
    | none => rfl
    | some x => rw [hmk.get n12 hc] at hb12; cases hb12
   simp (disch := omega) only [hc1, go_sem]
   obtain ⟨B, hB1, hB2⟩ := hmk12.mk
   refine SRun.callQ (build_mk hinp _ hr.1 hB1 (by omega) (by omega)) ⟨[], rfl, rfl⟩ rfl ?_
   rintro r s8 ⟨rfl, hm8⟩
   have hmk8 := hB2 _ _ hm8
   obtain ⟨B', hC1, _, hC2⟩ := hmk8.app
   simp (disch := omega) only [go_sem]
   refine SRun.appL hC1 rfl (by simp [V.cells, V.one]) (by simp only [ints_len, List.length_singleton]; omega) ?_
   intro t' s9 ho9
   rw [ints_app] at ho9
   have hmk9 := hC2 _ _ _ ho9
   obtain ⟨q, gq, q1, _, Bq, hBq⟩ := hmk9.done
   have hbnd := (makeP_ok hinp.1 _ hr.1 g2 (by omega)).2.2
   simp (disch := omega) only [gq, stepW_len_own hBq, gsV_len, go_sem]
   refine ih2 (L ++ [(makeP inp (ks.getD L.length default) g2).1], (makeP inp (ks.getD L.length default) g2).2, t', upd A2 b12 (exC (ks.getD L.length default)), s9) _ _ ⟨by simp only [List.length_append, List.length_singleton]; omega, hmk9, ?_, ?_, fun d x h => le_upd hA12 _ _ (hle2 _ _ h)⟩ (by simp only [List.length_append, List.length_singleton]; omega) (by simp (disch := omega) only [subT, Int.natCast_add, Int.cast_ofNat_Int, List.length_append, List.length_singleton, go_sem] <;> (repeat' apply And.intro) <;> first | rfl | (congr 1; omega) | assumption) rfl
   ·simp only [List.length_append, List.length_singleton]; rw [hmake]; simp
   ·simp only [List.length_append, List.length_singleton]
    omega
  ·have hLk : L.length = ks.length := by omega
   rw [hLk, List.drop_length] at hmake
   simp only [makeL, List.append_nil] at hmake
   rw [hmake]
   have s4 := hmk.get n49 (hle2 _ _ g4)
   obtain ⟨q, gq, q1, _, _⟩ := hmk.done
   have hmk4 := hmk.upd (z := [.int .i64 inp, q]) n49 (hle2 _ _ g4)
   obtain ⟨q', gq', q1', hfin, _⟩ := hmk4.done
   have hqq : q' = q := by
    rw [upd_ne _ _ n49.symm, gq] at gq'
    simpa using gq'.symm
   subst hqq
   simp (disch := omega) only [gq, s4, q1, go_sem]
   obtain ⟨f1, f2, f3⟩ := hfin σ fun d x hd => by
    have h4 : d ≠ b4 := fun e => by subst e; rw [hb4] at hd; cases hd
    have hsd := hσs _ _ hd
    have h9 : d ≠ b9 := fun e => by subst e; rw [hsd] at hb9; cases hb9
    exact ⟨h9, by rw [upd_ne _ _ h4]; exact hle2 _ _ hsd⟩
   refine W_retC c30_ok (r := .tup [.agg [.int .i64 inp, q'], t, .int .i64 0]) (r' := .tup [aigV inp g2, intsV L, .int .i64 0]) (σ' := σ) (resV_3 rfl (upd_same _ _ _) rfl) ⟨f1, frz_tup (by exact ⟨frz_agg (by exact ⟨.refl _, f2, trivial⟩) (by simp [V.one]), f3, .refl _, trivial⟩)⟩ ⟨rfl, rfl⟩
set_option maxHeartbeats 1000000 in
theorem BuildAigs_ok {inp : Int} (hinp : 0 ≤ inp ∧ inp ≤ 12) {ex : Bool} {ks : List Ex} (hf : Fit inp ks) :
  Ret Tryz.prog Γ 36 [.int .i64 inp, .isl ex 3 (exsV ks)] σ (.tup [aigV inp (makeL inp ks []).2, intsV (makeL inp ks []).1, .int .i64 0]) σ := by
 have hin := hf.inner
 have hlen := hf.len
 have hLL := makeL_ok (inp := inp) (fun e he => makeP_ok hinp.1 e (okE_right (hf.ok e he)).1) hf.most []
 have hb : (decide (0 ≤ inp) && decide (inp ≤ 12)) = true := by simp; omega
 refine ret_of c36_ok rfl ?_
 simp (disch := omega) only [c36, go_sem]
 refine SRun.allocR ?_
 intro b4 hb4
 simp (disch := omega) only [go_sem]
 refine SRun.callR (l01In_ok inp 0 12) ⟨[], rfl, rfl⟩ rfl ?_
 simp (disch := omega) only [List.getD_cons_zero, List.getD_cons_succ, go_sem]
 simp (disch := omega) only [hb, go_sem]
 refine W_loopC (α := Nat) (fun i => i ≤ ks.length) (fun i => [(0, .int .i64 inp), (1, .isl ex 3 (exsV ks)), (4, .ptr b4 0), (7, .int .i64 (i : Nat))]) (fun _ => upd σ b4 [.int .i64 0, .isl true 0 []]) (fun i => ks.length - i) 0 (by omega) (by simp (disch := omega) only [subT, Int.natCast_add, Int.cast_ofNat_Int, go_sem] <;> (repeat' apply And.intro) <;> first | rfl | (congr 1; omega) | assumption) rfl ?_
 intro i hi ih
 simp (disch := omega) only [go_sem]
 first | refine iteW_dec (fun hq => ?_) (fun hq => ?_) | refine iteW_of (fun hq => ?_) (fun hq => ?_)
 ·have he := getD_mem default (by omega : i < ks.length)
  have hok := hf.ok _ he
  have hr := okE_right hok
  have hmE := mostL_mem he
  have hmost := hf.most
  simp (disch := omega) only [go_sem]
  refine SRun.callR (ExOKs_ok hok) ⟨[], rfl, rfl⟩ rfl ?_
  simp (disch := omega) only [List.getD_cons_zero, List.getD_cons_succ, go_sem]
  refine SRun.callR (l04Most_ok (ks.getD i default) hr.1 (by omega)) ⟨[], rfl, rfl⟩ rfl ?_
  simp (disch := omega) only [List.getD_cons_zero, List.getD_cons_succ, go_sem]
  exact ih (i + 1) _ _ (by omega) (by omega) (by simp (disch := omega) only [subT, Int.natCast_add, Int.cast_ofNat_Int, go_sem] <;> (repeat' apply And.intro) <;> first | rfl | (congr 1; omega) | assumption) rfl
 ·clear ih
  have g4 : upd σ b4 [.int .i64 0, .isl true 0 []] b4 = some [.int .i64 0, .isl true 0 []] := upd_same _ _ _
  have hσs : ∀ d x, σ d = some x → upd σ b4 [.int .i64 0, .isl true 0 []] d = some x := fun d x h => le_upd hb4 _ _ h
  generalize upd σ b4 [.int .i64 0, .isl true 0 []] = s at *
  simp (disch := omega) only [go_sem]
  refine SRun.boxR (by simp [ev, look, V.cells, V.one]) ?_
  intro b9 hb9
  have n49 : b4 ≠ b9 := fun e => by subst e; rw [g4] at hb9; cases hb9
  simp (disch := omega) only [go_sem]
  have hmk0 : Mk2 s b9 inp [] [] (.isl true 1 []) (upd s b9 [.int .i64 inp, .isl true 0 []]) := ⟨.isl true 0 [], _, OwnL.nil _ _, OwnL.nil _ _⟩
  refine W_loopC (α := List Int × List (Int × Int) × V × St) (fun p => p.1.length ≤ ks.length ∧ Mk2 s b9 inp p.2.1 p.1 p.2.2.1 p.2.2.2 ∧ makeL inp ks [] = (p.1 ++ (makeL inp (ks.drop p.1.length) p.2.1).1, (makeL inp (ks.drop p.1.length) p.2.1).2) ∧ p.2.1.length + 3 * innerL (ks.drop p.1.length) ≤ 3 * innerL ks)
   (fun p => [(1, .isl ex 3 (exsV ks)), (4, .ptr b4 0), (8, .ptr b9 0), (9, p.2.2.1), (10, .int .i64 (p.1.length : Nat))]) (fun p => p.2.2.2) (fun p => ks.length - p.1.length) ([], [], .isl true 1 [], upd s b9 [.int .i64 inp, .isl true 0 []]) ⟨by simp, hmk0, by simp, by simp⟩ (by simp (disch := omega) only [subT, Int.natCast_add, Int.cast_ofNat_Int, go_sem] <;> (repeat' apply And.intro) <;> first | rfl | (congr 1; omega) | assumption) rfl ?_
  rintro ⟨L, g2, t, s2⟩ ⟨hL, hmk, hmake, hing⟩ ih2
  dsimp only at hL hmk hmake hing
  simp (disch := omega) only [go_sem]
  first | refine iteW_dec (fun hq2 => ?_) (fun hq2 => ?_) | refine iteW_of (fun hq2 => ?_) (fun hq2 => ?_)
  ·have he := getD_mem default (by omega : L.length < ks.length)
   have hok := hf.ok _ he
   have hr := okE_right hok
   have hmE := mostL_mem he
   have hmost := hf.most
   rw [makeL_drop (by omega)] at hmake
   rw [innerL_drop (by omega)] at hing
   simp (disch := omega) only [go_sem]
   obtain ⟨B, hB1, hB2⟩ := hmk.mk
   refine SRun.callQ (make_mk hinp _ hr.1 hB1 (by omega) (by omega)) ⟨[], rfl, rfl⟩ rfl ?_
   rintro r s8 ⟨rfl, hm8⟩
   have hmk8 := hB2 _ _ hm8
   obtain ⟨B', hC1, _, hC2⟩ := hmk8.app
   simp (disch := omega) only [go_sem]
   refine SRun.appL hC1 rfl (by simp [V.cells, V.one]) (by simp only [ints_len, List.length_singleton]; omega) ?_
   intro t' s9 ho9
   rw [ints_app] at ho9
   have hmk9 := hC2 _ _ _ ho9
   obtain ⟨q, gq, q1, _, Bq, hBq⟩ := hmk9.done
   have hbnd := (makeP_ok hinp.1 _ hr.1 g2 (by omega)).2.2
   simp (disch := omega) only [gq, stepW_len_own hBq, gsV_len, go_sem]
   refine ih2 (L ++ [(makeP inp (ks.getD L.length default) g2).1], (makeP inp (ks.getD L.length default) g2).2, t', s9) _ _ ⟨by simp only [List.length_append, List.length_singleton]; omega, hmk9, ?_, ?_⟩ (by simp only [List.length_append, List.length_singleton]; omega) (by simp (disch := omega) only [subT, Int.natCast_add, Int.cast_ofNat_Int, List.length_append, List.length_singleton, go_sem] <;> (repeat' apply And.intro) <;> first | rfl | (congr 1; omega) | assumption) rfl
   ·simp only [List.length_append, List.length_singleton]; rw [hmake]; simp
   ·simp only [List.length_append, List.length_singleton]
    omega
  ·have hLk : L.length = ks.length := by omega
   rw [hLk, List.drop_length] at hmake
   simp only [makeL, List.append_nil] at hmake
   rw [hmake]
   have s4 := hmk.get n49 g4
   obtain ⟨q, gq, q1, _, _⟩ := hmk.done
   have hmk4 := hmk.upd (z := [.int .i64 inp, q]) n49 g4
   obtain ⟨q', gq', q1', hfin, _⟩ := hmk4.done
   have hqq : q' = q := by
    rw [upd_ne _ _ n49.symm, gq] at gq'
    simpa using gq'.symm
   subst hqq
   simp (disch := omega) only [gq, s4, q1, go_sem]
   obtain ⟨f1, f2, f3⟩ := hfin σ fun d x hd => by
    have h4 : d ≠ b4 := fun e => by subst e; rw [hb4] at hd; cases hd
    have hsd := hσs _ _ hd
    have h9 : d ≠ b9 := fun e => by subst e; rw [hsd] at hb9; cases hb9
    exact ⟨h9, by rw [upd_ne _ _ h4]; exact hsd⟩
   exact W_retC c36_ok (r := .tup [.agg [.int .i64 inp, q'], t, .int .i64 0]) (r' := .tup [aigV inp g2, intsV L, .int .i64 0]) (σ' := σ) (resV_3 rfl (upd_same _ _ _) rfl) ⟨f1, frz_tup (by exact ⟨frz_agg (by exact ⟨.refl _, f2, trivial⟩) (by simp [V.one]), f3, .refl _, trivial⟩)⟩ ⟨rfl, rfl⟩
end
section
attribute [local irreducible] SRun DS DRun
variable {Γ : St} {σ σ0 : St}
/-- The gates of a circuit are right. -/
def GatesOK (inp : Int) (gs : List (Int × Int)) : Prop := ∀ i, i < gs.length → 2 ≤ (gs.getD i default).1 ∧ (gs.getD i default).1 < (gs.getD i default).2 ∧ (gs.getD i default).2 < 2 * (1 + inp + i) ∧ ¬ (gs.getD i default).1 / 2 = (gs.getD i default).2 / 2 ∧ (gs.take i).findIdx? (· == gs.getD i default) = none
theorem containsGate_ok {ex : Bool} {gs : List (Int × Int)} {g : Int × Int} (hl : gs.length ≤ 1000000) (hn : gs.findIdx? (· == g) = none) : Ret Tryz.prog Γ 92 [.isl ex 2 (gsV gs), gV g] σ (.bool false) σ := by
 obtain ⟨x, y⟩ := g
 refine ret_of c92_ok rfl ?_
 simp (disch := omega) only [c92, gV, go_sem]
 refine SRun.boxR (by simp [ev, look, V.cells, V.one]) ?_
 intro b3 hb3
 simp (disch := omega) only [go_sem]
 refine SRun.callR (indexGate_ok (ex := ex) (g := (x, y)) hl) ⟨[], rfl, rfl⟩ rfl ?_
 rw [hn]
 simp (disch := omega) only [go_sem]
 exact W_retC c92_ok rfl (Conv.drop _ (le_upd hb3)) ⟨rfl, rfl⟩
theorem gsV_take (gs : List (Int × Int)) (i : Nat) : (gsV gs).take i = gsV (gs.take i) := by simp [gsV, List.map_take]
set_option maxHeartbeats 1000000 in
theorem isAig_ok {inp : Int} {gs : List (Int × Int)} (hinp : 0 ≤ inp ∧ inp ≤ 12) (hl : gs.length ≤ 400) (hg : GatesOK inp gs) : Ret Tryz.prog Γ 59 [aigV inp gs] σ (.bool true) σ := by
 have hb : (decide (0 ≤ inp) && decide (inp ≤ 12)) = true := by simp; omega
 have hgl := gsV_len gs
 refine ret_of c59_ok rfl ?_
 simp (disch := omega) only [c59, aigV, go_sem]
 refine SRun.boxR (by simp [ev, look, V.cells, V.one]) ?_
 intro b1 hb1
 simp (disch := omega) only [go_sem]
 refine SRun.callR (within_ok inp 0 12) ⟨[], rfl, rfl⟩ rfl ?_
 simp (disch := omega) only [List.getD_cons_zero, List.getD_cons_succ, go_sem]
 simp (disch := omega) only [hb, go_sem]
 refine W_loopC (α := Nat × St) (fun p => p.1 ≤ gs.length ∧ ∀ d x, upd σ b1 [.int .i64 inp, .isl false 2 (gsV gs)] d = some x → p.2 d = some x) (fun p => [(1, .ptr b1 0), (16, .isl false 2 (gsV gs)), (17, .int .i64 gs.length), (18, .int .i64 (p.1 : Nat))]) (fun p => p.2) (fun p => gs.length - p.1) (0, upd σ b1 [.int .i64 inp, .isl false 2 (gsV gs)]) ⟨by omega, fun _ _ h => h⟩ (by simp (disch := omega) only [subT, Int.natCast_add, Int.cast_ofNat_Int, go_sem] <;> (repeat' apply And.intro) <;> first | rfl | (congr 1; omega) | assumption) rfl ?_
 rintro ⟨i, s⟩ ⟨hi, hs⟩ ih
 dsimp only at hi hs
 simp (disch := omega) only [go_sem]
 first | refine iteW_dec (fun hq => ?_) (fun hq => ?_) | refine iteW_of (fun hq => ?_) (fun hq => ?_)
 ·have g1 := hs b1 _ (upd_same _ _ _)
  obtain ⟨q1, q2, q3, q4, q5⟩ := hg i (by omega)
  simp (disch := omega) only [gsV, go_sem]
  generalize hgi : gs.getD i default = g at *
  obtain ⟨x, y⟩ := g
  dsimp only at q1 q2 q3 q4
  simp (disch := omega) only [gV, go_sem]
  refine SRun.allocR ?_
  intro b4 hb4
  have g1' : upd s b4 [.int .i64 x, .int .i64 y] b1 = some _ := le_upd hb4 _ _ g1
  have l1 : decide (x < 2) = false := decide_eq_false (by omega)
  have l2 : decide (x ≥ y) = false := decide_eq_false (by omega)
  have l3 : decide (y ≥ 2 * (1 + inp + i)) = false := decide_eq_false (by omega)
  have t1 : x.tdiv 2 = x / 2 := Int.tdiv_eq_ediv_of_nonneg (by omega)
  have t2 : y.tdiv 2 = y / 2 := Int.tdiv_eq_ediv_of_nonneg (by omega)
  have l4 : decide (x / 2 = y / 2) = false := decide_eq_false q4
  simp (disch := omega) only [go_sem]
  refine W_drawW ?_
  simp (disch := omega) only [l1, l2, l3, l4, t1, t2, g1', go_sem]
  have hti : List.take ((i : Int) - 0).toNat (gsV gs) = gsV (gs.take i) := by rw [show ((i : Int) - 0).toNat = i by omega, gsV_take]
  have hfl : (false && decide ((i : Int) = (gsV gs).length)) = false := rfl
  refine DRun.callG (containsGate_ok (ex := false) (gs := gs.take i) (g := (x, y)) (by simp only [List.length_take]; omega) q5) ⟨[], rfl, by simp only [gV, ← hti]; rfl⟩ rfl ?_
  rintro r s2 ⟨rfl, rfl⟩
  simp (disch := omega) only [go_sem]
  exact ih (i + 1, upd s b4 [.int .i64 x, .int .i64 y]) _ _ ⟨by simp only; omega, fun d x h => le_upd hb4 _ _ (hs _ _ h)⟩ (by simp only; omega) (by simp (disch := omega) only [subT, Int.natCast_add, Int.cast_ofNat_Int, gsV, go_sem] <;> (repeat' apply And.intro) <;> first | rfl | (congr 1; omega) | assumption) rfl
 ·simp (disch := omega) only [go_sem]
  exact W_retC c59_ok rfl (Conv.drop _ fun d x h => hs _ _ (le_upd hb1 _ _ h)) ⟨rfl, rfl⟩
end
section
attribute [local irreducible] SRun DS DRun
variable {Γ : St} {σ σ0 : St}
/-- The value of a literal, of nodes' values. -/
def valP (ns : List Bool) (x : Int) : Bool := ns.getD (x / 2).toNat false != decide (x % 2 = 1)
/-- Nodes' values, gate by gate. -/
def nodesP (vs : List Bool) (gs : List (Int × Int)) : List Bool := gs.foldl (fun ns g => ns ++ [valP ns g.1 && valP ns g.2]) (false :: vs)
theorem nodesP_len (vs : List Bool) (gs : List (Int × Int)) : (nodesP vs gs).length = 1 + vs.length + gs.length := by
 unfold nodesP
 have : ∀ (gs : List (Int × Int)) (a : List Bool), (gs.foldl (fun ns g => ns ++ [valP ns g.1 && valP ns g.2]) a).length = a.length + gs.length := by
  intro gs
  induction gs with
  | nil => intro a; rfl
  | cons g r ih => intro a; rw [List.foldl_cons, ih]; simp only [List.length_append, List.length_cons, List.length_nil]; omega
 rw [this]; simp only [List.length_cons]; omega
theorem nodesP_succ {vs : List Bool} {gs : List (Int × Int)} {i : Nat} (h : i < gs.length) : nodesP vs (gs.take (i + 1)) = nodesP vs (gs.take i) ++ [valP (nodesP vs (gs.take i)) (gs.getD i default).1 && valP (nodesP vs (gs.take i)) (gs.getD i default).2] := by
 rw [take_succ default h]; simp only [nodesP, List.foldl_append, List.foldl_cons, List.foldl_nil]
end
section
section
variable {inp : Int} {gs gs' : List (Int × Int)} {x y : Int} {vs : List Bool}
theorem andP_pre (inp : Int) (gs : List (Int × Int)) (x y : Int) : gs <+: (andP inp gs x y).2 := by
 unfold andP
 split
 ·exact List.prefix_refl _
 split
 ·exact List.prefix_refl _
 split
 ·exact List.prefix_refl _
 split
 ·exact List.prefix_refl _
 ·exact List.prefix_append _ _
theorem orP_pre (inp : Int) (gs : List (Int × Int)) (x y : Int) : gs <+: (orP inp gs x y).2 := andP_pre _ _ _ _
theorem two_pre (inp : Int) (gs : List (Int × Int)) (a b c d p q : Int) : (andP inp gs a b).2 <+: (orP inp (andP inp (andP inp gs a b).2 c d).2 p q).2 := (andP_pre _ _ _ _).trans (orP_pre _ _ _ _)
theorem opP_pre (inp k : Int) (l : List Int) (gs : List (Int × Int)) : gs <+: (opP inp k l gs).2 := by
 unfold opP
 split
 ·exact List.prefix_refl _
 split
 ·exact andP_pre _ _ _ _
 split
 ·exact orP_pre _ _ _ _
 split
 ·exact (andP_pre _ _ _ _).trans (two_pre _ _ _ _ _ _ _ _)
 ·exact (andP_pre _ _ _ _).trans (two_pre _ _ _ _ _ _ _ _)
theorem makeL_pre {ks : List Ex} (h : ∀ e ∈ ks, ∀ gs, gs <+: (makeP inp e gs).2) : ∀ gs, gs <+: (makeL inp ks gs).2 := by
 induction ks with
 | nil => intro gs; exact List.prefix_refl _
 | cons e r ih => intro gs; simp only [makeL]; exact (h e (by simp) gs).trans (ih (fun x hx => h x (by simp [hx])) _)
theorem makeP_pre (inp : Int) : ∀ e gs, gs <+: (makeP inp e gs).2 := by
 refine Ex.ind fun k n ks ih gs => ?_
 simp only [makeP]
 split
 ·exact List.prefix_refl _
 split
 ·exact List.prefix_refl _
 ·exact (makeL_pre ih gs).trans (opP_pre _ _ _ _)
theorem gates_nil : GatesOK inp [] := fun i h => by simp at h
theorem gates_app (hg : GatesOK inp gs) (h1 : 2 ≤ x) (h2 : x < y) (h3 : y < 2 * (1 + inp + gs.length)) (h4 : ¬ x / 2 = y / 2) (h5 : gs.findIdx? (· == (x, y)) = none) : GatesOK inp (gs ++ [(x, y)]) := by
 intro i hi
 simp only [List.length_append, List.length_singleton] at hi
 rcases Nat.lt_or_ge i gs.length with h | h
 ·have e : (gs ++ [(x, y)]).getD i default = gs.getD i default := by simp [List.getD, List.getElem?_append_left h]
  have t : (gs ++ [(x, y)]).take i = gs.take i := by rw [List.take_append_of_le_length (by omega)]
  rw [e, t]; exact hg i h
 ·obtain rfl : i = gs.length := by omega
  have e : (gs ++ [(x, y)]).getD gs.length default = (x, y) := by simp [List.getD]
  have t : (gs ++ [(x, y)]).take gs.length = gs := by simp
  rw [e, t]; exact ⟨h1, h2, h3, h4, h5⟩
theorem andP_gates (hg : GatesOK inp gs) (hx : LitOK inp gs x) (hy : LitOK inp gs y) : GatesOK inp (andP inp gs x y).2 := by
 unfold LitOK at hx hy
 unfold andP
 split
 ·exact hg
 split
 ·exact hg
 split
 ·exact hg
 split
 ·exact hg
 ·rename_i h1 h2 h3 _ hf
  exact gates_app hg (by omega) (by omega) (by omega) h3 hf
theorem orP_gates (hg : GatesOK inp gs) (hx : LitOK inp gs x) (hy : LitOK inp gs y) : GatesOK inp (orP inp gs x y).2 := andP_gates hg (notP_ok hx) (notP_ok hy)
theorem opP_gates {k : Int} {l : List Int} (hi : 0 ≤ inp) (hg : GatesOK inp gs) (hl : ∀ x ∈ l, LitOK inp gs x) (hk : 3 ≤ k) (hn : arity k ≤ l.length) (hk7 : k ≤ 7) : GatesOK inp (opP inp k l gs).2 := by
 have hgt : ∀ i : Nat, (i : Int) < arity k → LitOK inp gs (l.getD i 0) := fun i h => hl _ (getD_mem 0 (by omega))
 have two : ∀ {a b c d : Int}, LitOK inp gs a → LitOK inp gs b → LitOK inp gs c → LitOK inp gs d → GatesOK inp (orP inp (andP inp (andP inp gs a b).2 c d).2 (andP inp gs a b).1 (andP inp (andP inp gs a b).2 c d).1).2 := by
  intro a b c d ha hb hc hd
  obtain ⟨a1, b1, _⟩ := andP_ok hi ha hb
  obtain ⟨a2, b2, _⟩ := andP_ok hi (hc.mono b1) (hd.mono b1)
  exact orP_gates (andP_gates (andP_gates hg ha hb) (hc.mono b1) (hd.mono b1)) (a1.mono b2) a2
 have hkk : k = 3 ∨ k = 4 ∨ k = 5 ∨ k = 6 ∨ k = 7 := by omega
 rcases hkk with rfl | rfl | rfl | rfl | rfl
 ·exact hg
 ·exact andP_gates hg (hgt 0 (by decide)) (hgt 1 (by decide))
 ·exact orP_gates hg (hgt 0 (by decide)) (hgt 1 (by decide))
 ·exact two (hgt 0 (by decide)) (notP_ok (hgt 1 (by decide))) (notP_ok (hgt 0 (by decide))) (hgt 1 (by decide))
 ·exact two (hgt 0 (by decide)) (hgt 1 (by decide)) (notP_ok (hgt 0 (by decide))) (hgt 2 (by decide))
theorem nodesP_app (vs : List Bool) (gs t : List (Int × Int)) : nodesP vs gs <+: nodesP vs (gs ++ t) := by
 unfold nodesP
 rw [List.foldl_append]
 generalize gs.foldl (fun ns g => ns ++ [valP ns g.1 && valP ns g.2]) (false :: vs) = a
 induction t generalizing a with
 | nil => exact List.prefix_refl _
 | cons g r ih => rw [List.foldl_cons]; exact (List.prefix_append _ _).trans (ih _)
theorem valP_pre {ns ns' : List Bool} (h : ns <+: ns') (hl : (x / 2).toNat < ns.length) : valP ns' x = valP ns x := by
 obtain ⟨t, rfl⟩ := h
 unfold valP
 have : (ns ++ t).getD (x / 2).toNat false = ns.getD (x / 2).toNat false := by simp [List.getD, List.getElem?_append_left hl]
 rw [this]
theorem lit_lt (hv : (vs.length : Int) = inp) (hx : LitOK inp gs x) : (x / 2).toNat < (nodesP vs gs).length := by
 rw [nodesP_len]; unfold LitOK at hx; omega
theorem valP_mono (hv : (vs.length : Int) = inp) (hp : gs <+: gs') (hx : LitOK inp gs x) : valP (nodesP vs gs') x = valP (nodesP vs gs) x := by
 obtain ⟨t, rfl⟩ := hp
 exact valP_pre (nodesP_app _ _ _) (lit_lt hv hx)
theorem valP_not {ns : List Bool} (hx : 0 ≤ x) : valP ns (notP x) = !valP ns x := by
 unfold valP notP
 by_cases h : x % 2 = 1
 ·rw [if_pos h, show (x - 1) / 2 = x / 2 by omega, decide_eq_true h, decide_eq_false (show ¬ (x - 1) % 2 = 1 by omega)]
  cases ns.getD (x / 2).toNat false <;> rfl
 ·rw [if_neg h, show (x + 1) / 2 = x / 2 by omega, decide_eq_false h, decide_eq_true (show (x + 1) % 2 = 1 by omega)]
  cases ns.getD (x / 2).toNat false <;> rfl
theorem nodesP_zero (vs : List Bool) (gs : List (Int × Int)) : (nodesP vs gs).getD 0 false = false := by
 have h := nodesP_app vs [] gs
 rw [List.nil_append] at h
 obtain ⟨t, ht⟩ := h
 rw [← ht]; rfl
theorem val_zero (vs : List Bool) (gs : List (Int × Int)) : valP (nodesP vs gs) 0 = false := by
 have := nodesP_zero vs gs
 show ((nodesP vs gs).getD 0 false != false) = false
 rw [this]; rfl
theorem val_one (vs : List Bool) (gs : List (Int × Int)) : valP (nodesP vs gs) 1 = true := by
 have := nodesP_zero vs gs
 show ((nodesP vs gs).getD 0 false != true) = true
 rw [this]; rfl
theorem val_gate (hv : (vs.length : Int) = inp) (hg : GatesOK inp gs) {i : Nat} (hi : i < gs.length) : valP (nodesP vs gs) (2 * (1 + inp + i)) = (valP (nodesP vs gs) (gs.getD i default).1 && valP (nodesP vs gs) (gs.getD i default).2) := by
 obtain ⟨q1, q2, q3, _, _⟩ := hg i hi
 have hp : gs.take i <+: gs := List.take_prefix _ _
 have hp1 : gs.take (i + 1) <+: gs := List.take_prefix _ _
 have hl : (gs.take i).length = i := by rw [List.length_take]; omega
 have hl1 : (gs.take (i + 1)).length = i + 1 := by rw [List.length_take]; omega
 have k1 := valP_mono hv hp (x := (gs.getD i default).1) ⟨by omega, by rw [hl]; omega⟩
 have k2 := valP_mono hv hp (x := (gs.getD i default).2) ⟨by omega, by rw [hl]; omega⟩
 rw [valP_mono hv hp1 (x := 2 * (1 + inp + i)) ⟨by omega, by rw [hl1]; omega⟩, k1, k2, nodesP_succ hi]
 generalize hns : nodesP vs (gs.take i) = ns
 have hnl : ns.length = 1 + vs.length + i := by rw [← hns, nodesP_len, hl]
 generalize (valP ns (gs.getD i default).1 && valP ns (gs.getD i default).2) = w
 unfold valP
 rw [show (2 * (1 + inp + (i : Int)) / 2).toNat = ns.length by omega, decide_eq_false (show ¬ 2 * (1 + inp + (i : Int)) % 2 = 1 by omega)]
 simp [List.getD]
theorem min_max_and (f : Int → Bool) (x y : Int) : (f x && f y) = (f (min x y) && f (max x y)) := by
 rcases Int.le_total x y with h | h
 ·rw [Int.min_eq_left h, Int.max_eq_right h]
 ·rw [Int.min_eq_right h, Int.max_eq_left h, Bool.and_comm]
theorem andP_val (hv : (vs.length : Int) = inp) (hg : GatesOK inp gs) (hx : LitOK inp gs x) (hy : LitOK inp gs y) : valP (nodesP vs (andP inp gs x y).2) (andP inp gs x y).1 = (valP (nodesP vs gs) x && valP (nodesP vs gs) y) := by
 have hx' := hx
 have hy' := hy
 unfold LitOK at hx' hy'
 rw [min_max_and (valP (nodesP vs gs)) x y]
 simp only [andP]
 by_cases h1 : min x y = 0
 ·simp only [if_pos h1]; rw [h1, val_zero]; rfl
 simp only [if_neg h1]
 by_cases h2 : min x y = 1 ∨ min x y = max x y
 ·simp only [if_pos h2]
  rcases h2 with h2 | h2
  ·rw [h2, val_one]; rfl
  ·rw [h2, Bool.and_self]
 simp only [if_neg h2]
 by_cases h3 : min x y / 2 = max x y / 2
 ·simp only [if_pos h3]
  have e : max x y = notP (min x y) := by unfold notP; split <;> omega
  rw [val_zero, e, valP_not (by omega)]
  cases valP (nodesP vs gs) (min x y) <;> rfl
 simp only [if_neg h3]
 cases hf : gs.findIdx? (· == (min x y, max x y)) with
 | some i =>
  simp only
  rw [List.findIdx?_eq_some_iff_getElem] at hf
  obtain ⟨hi, he, _⟩ := hf
  rw [val_gate hv hg hi]
  have : gs.getD i default = (min x y, max x y) := by simpa [List.getD, hi] using he
  rw [this]
 | none =>
  simp only
  have hg' := gates_app hg (x := min x y) (y := max x y) (by omega) (by omega) (by omega) h3 hf
  have hp : gs <+: gs ++ [(min x y, max x y)] := List.prefix_append _ _
  rw [val_gate hv hg' (by simp)]
  have : (gs ++ [(min x y, max x y)]).getD gs.length default = (min x y, max x y) := by simp [List.getD]
  rw [this]
  dsimp only
  rw [valP_mono hv hp (x := min x y) ⟨by omega, by omega⟩, valP_mono hv hp (x := max x y) ⟨by omega, by omega⟩]
theorem orP_val (hv : (vs.length : Int) = inp) (hi : 0 ≤ inp) (hg : GatesOK inp gs) (hx : LitOK inp gs x) (hy : LitOK inp gs y) : valP (nodesP vs (orP inp gs x y).2) (orP inp gs x y).1 = (valP (nodesP vs gs) x || valP (nodesP vs gs) y) := by
 unfold orP
 dsimp only
 rw [valP_not (andP_ok hi (notP_ok hx) (notP_ok hy)).1.1, andP_val hv hg (notP_ok hx) (notP_ok hy), valP_not hx.1, valP_not hy.1]
 cases valP (nodesP vs gs) x <;> cases valP (nodesP vs gs) y <;> rfl
theorem two_val {a b c d : Int} (hv : (vs.length : Int) = inp) (hi : 0 ≤ inp) (hg : GatesOK inp gs) (ha : LitOK inp gs a) (hb : LitOK inp gs b) (hc : LitOK inp gs c) (hd : LitOK inp gs d) :
  valP (nodesP vs (orP inp (andP inp (andP inp gs a b).2 c d).2 (andP inp gs a b).1 (andP inp (andP inp gs a b).2 c d).1).2) (orP inp (andP inp (andP inp gs a b).2 c d).2 (andP inp gs a b).1 (andP inp (andP inp gs a b).2 c d).1).1 = ((valP (nodesP vs gs) a && valP (nodesP vs gs) b) || (valP (nodesP vs gs) c && valP (nodesP vs gs) d)) := by
 obtain ⟨a1, b1, _⟩ := andP_ok hi ha hb
 obtain ⟨a2, b2, _⟩ := andP_ok hi (hc.mono b1) (hd.mono b1)
 have g1 := andP_gates hg ha hb
 have g2 := andP_gates g1 (hc.mono b1) (hd.mono b1)
 rw [orP_val hv hi g2 (a1.mono b2) a2, valP_mono hv b2 a1, andP_val hv hg ha hb, andP_val hv g1 (hc.mono b1) (hd.mono b1), valP_mono hv b1 hc, valP_mono hv b1 hd]
theorem getD_map {α β : Type} (f : α → β) {l : List α} {i : Nat} (d : α) (d' : β) (h : i < l.length) : (l.map f).getD i d' = f (l.getD i d) := by simp [List.getD, h]
theorem makeL_val {ks : List Ex} (hi : 0 ≤ inp) (hv : (vs.length : Int) = inp) (hr : ∀ e ∈ ks, rightE e = true) (hm : mostL ks < inp)
  (h : ∀ e ∈ ks, ∀ gs, mostE e < inp → GatesOK inp gs → GatesOK inp (makeP inp e gs).2 ∧ valP (nodesP vs (makeP inp e gs).2) (makeP inp e gs).1 = evE vs e) :
  ∀ gs, GatesOK inp gs → GatesOK inp (makeL inp ks gs).2 ∧ (makeL inp ks gs).1.map (valP (nodesP vs (makeL inp ks gs).2)) = evL vs ks := by
 induction ks with
 | nil => intro gs hg; exact ⟨hg, rfl⟩
 | cons e r ih =>
  intro gs hg
  simp only [mostL] at hm
  obtain ⟨g1, v1⟩ := h e (by simp) gs (by omega) hg
  obtain ⟨g2, v2⟩ := ih (fun x hx => hr x (by simp [hx])) (by omega) (fun x hx => h x (by simp [hx])) _ g1
  have k := (makeP_ok hi e (hr e (by simp)) gs (by omega)).1
  simp only [makeL, evL, List.map_cons]
  exact ⟨g2, by rw [v2, valP_mono hv (makeL_pre (fun e _ => makeP_pre inp e) _) k, v1]⟩
theorem makeP_val (hi : 0 ≤ inp) (hv : (vs.length : Int) = inp) : ∀ e, rightE e = true → ∀ gs, mostE e < inp → GatesOK inp gs → GatesOK inp (makeP inp e gs).2 ∧ valP (nodesP vs (makeP inp e gs).2) (makeP inp e gs).1 = evE vs e := by
 refine Ex.ind fun k n ks ih hr gs hm hg => ?_
 have hk := right_kids hr
 simp only [mostE] at hm
 rcases kinds hr with ⟨rfl, rfl, h0, h1⟩ | ⟨rfl, rfl, h⟩ | ⟨h3, h7, rfl, hl⟩
 ·simp only [makeP, evE, ↓reduceIte] at hm ⊢
  refine ⟨hg, ?_⟩
  have h := nodesP_app vs [] gs
  rw [List.nil_append] at h
  have hl0 : ((2 * n + 2) / 2).toNat < (nodesP vs []).length := by rw [nodesP_len]; simp; omega
  rw [valP_pre h hl0]
  unfold valP
  rw [decide_eq_false (show ¬ (2 * n + 2) % 2 = 1 by omega), show ((2 * n + 2) / 2).toNat = n.toNat + 1 by omega]
  simp [nodesP]
 ·simp only [makeP, evE, ↓reduceIte, Int.reduceEq]
  refine ⟨hg, ?_⟩
  rcases h with rfl | rfl
  ·rw [val_zero]; rfl
  ·rw [val_one]; rfl
 ·have hL := makeL_ok (fun e he => makeP_ok hi e (hk e he)) (by omega) gs
  obtain ⟨g1, v1⟩ := makeL_val hi hv hk (by omega) (fun e he => ih e he (hk e he)) gs hg
  have hll := hL.2.2.2
  have hlk := hL.1
  simp only [makeP, evE]
  rw [if_neg (by omega), if_neg (by omega), if_neg (by omega), if_neg (by omega), ← v1]
  generalize makeL inp ks gs = M at *
  obtain ⟨l, gs2⟩ := M
  dsimp only at *
  have hO := opP_gates (k := k) hi g1 hlk h3 (by rw [hll, hl]; exact Int.le_refl _) h7
  refine ⟨hO, ?_⟩
  have hgt : ∀ i : Nat, (i : Int) < arity k → LitOK inp gs2 (l.getD i 0) := fun i h => hlk _ (getD_mem 0 (by omega))
  have hmp : ∀ i : Nat, (i : Int) < arity k → (l.map (valP (nodesP vs gs2))).getD i false = valP (nodesP vs gs2) (l.getD i 0) := fun i h => getD_map _ _ _ (by omega)
  have hkk : k = 3 ∨ k = 4 ∨ k = 5 ∨ k = 6 ∨ k = 7 := by omega
  rcases hkk with rfl | rfl | rfl | rfl | rfl
  ·rw [hmp 0 (by decide)]
   show valP (nodesP vs gs2) (notP (l.getD 0 0)) = _
   rw [valP_not (hgt 0 (by decide)).1]; rfl
  ·rw [hmp 0 (by decide), hmp 1 (by decide)]
   exact andP_val hv g1 (hgt 0 (by decide)) (hgt 1 (by decide))
  ·rw [hmp 0 (by decide), hmp 1 (by decide)]
   exact orP_val hv hi g1 (hgt 0 (by decide)) (hgt 1 (by decide))
  ·rw [hmp 0 (by decide), hmp 1 (by decide)]
   have := two_val hv hi g1 (hgt 0 (by decide)) (notP_ok (hgt 1 (by decide))) (notP_ok (hgt 0 (by decide))) (hgt 1 (by decide))
   rw [valP_not (hgt 0 (by decide)).1, valP_not (hgt 1 (by decide)).1] at this
   refine Eq.trans (by rfl) (this.trans ?_)
   cases valP (nodesP vs gs2) (l.getD 0 0) <;> cases valP (nodesP vs gs2) (l.getD 1 0) <;> rfl
  ·rw [hmp 0 (by decide), hmp 1 (by decide), hmp 2 (by decide)]
   have := two_val hv hi g1 (hgt 0 (by decide)) (hgt 1 (by decide)) (notP_ok (hgt 0 (by decide))) (hgt 2 (by decide))
   rw [valP_not (hgt 0 (by decide)).1] at this
   refine Eq.trans (by rfl) (this.trans ?_)
   cases valP (nodesP vs gs2) (l.getD 0 0) <;> cases valP (nodesP vs gs2) (l.getD 1 0) <;> cases valP (nodesP vs gs2) (l.getD 2 0) <;> rfl
end
theorem szB_mono {d d' : Nat} (h : d ≤ d') : szB d ≤ szB d' := by
 obtain ⟨k, rfl⟩ : ∃ k, d' = d + k := ⟨d' - d, by omega⟩
 clear h
 induction k with
 | zero => exact Nat.le_refl _
 | succ k ih => rw [← Nat.add_assoc, szB]; omega
theorem depthE_pos (e : Ex) : 1 ≤ depthE e := by obtain ⟨k, n, ks⟩ := e; simp only [depthE]; omega
theorem inner_le : ∀ e, rightE e = true → innerE e ≤ szB (depthE e - 1) := by
 refine Ex.ind fun k n ks ih hr => ?_
 have hk := right_kids hr
 have hL : ∀ l : List Ex, (∀ e ∈ l, e ∈ ks) → innerL l ≤ l.length * szB (depthL l - 1) := by
  intro l
  induction l with
  | nil => intro _; simp [innerL]
  | cons e r ihl =>
   intro h
   have h1 := ih e (h e (by simp)) (hk e (h e (by simp)))
   have h2 := ihl fun x hx => h x (by simp [hx])
   simp only [innerL, depthL, List.length_cons, Nat.add_mul, Nat.one_mul]
   have m1 := szB_mono (show depthE e - 1 ≤ max (depthE e) (depthL r) - 1 by omega)
   have m2 := szB_mono (show depthL r - 1 ≤ max (depthE e) (depthL r) - 1 by omega)
   have m3 := Nat.mul_le_mul_left r.length m2
   omega
 rcases kinds hr with ⟨rfl, rfl, h0, h1⟩ | ⟨rfl, rfl, h⟩ | ⟨h3, h7, rfl, hl⟩
 ·simp [innerE, innerL]
 ·simp [innerE, innerL]
 ·have h4 := hL ks fun _ h => h
  have h5 := arity_le k
  have h6 : 1 ≤ ks.length := by
   have : 1 ≤ arity k := by unfold arity; (repeat' split) <;> omega
   omega
  have h7 : 1 ≤ depthL ks := by
   obtain ⟨e, r, rfl⟩ : ∃ e r, ks = e :: r := by
    cases ks with
    | nil => simp at h6
    | cons e r => exact ⟨e, r, rfl⟩
   have := depthE_pos e
   simp only [depthL]; omega
  simp only [innerE, depthE]
  rw [if_neg (by omega)]
  obtain ⟨d, hd⟩ : ∃ d, depthL ks = d + 1 := ⟨depthL ks - 1, by omega⟩
  rw [hd] at h4 ⊢
  rw [show 1 + (d + 1) - 1 = d + 1 by omega, szB]
  rw [show d + 1 - 1 = d by omega] at h4
  have h8 : ks.length * szB d ≤ 3 * szB d := Nat.mul_le_mul_right _ (by omega)
  omega
theorem ExD.inner {e : Ex} (h : ExD 5 e) : innerE e ≤ 40 := by
 have h1 := inner_le e h.right
 have h2 := h.depth
 have h3 := szB_mono (show depthE e - 1 ≤ 4 by omega)
 have h4 : szB 4 = 40 := by decide
 omega
theorem ExD.ok {e : Ex} (h : ExD 5 e) : okE e = true := by
 have h2 := h.depth
 have h3 := h.size
 have h4 : szB 5 = 121 := by decide
 simp only [okE, Bool.and_eq_true, decide_eq_true_eq]
 exact ⟨⟨h.right, by omega⟩, by omega⟩
end
section
attribute [local irreducible] SRun DS DRun
variable {Γ : St} {σ σ0 : St}
theorem nodesOf_ok {inp : Int} {gs : List (Int × Int)} (hinp : 0 ≤ inp ∧ inp ≤ 12) (hl : gs.length ≤ 400) : Ret Tryz.prog Γ 93 [aigV inp gs] σ (.int .i64 (1 + inp + gs.length)) σ := by
 have hgl := gsV_len gs
 refine ret_of c93_ok rfl ?_
 simp (disch := omega) only [c93, aigV, go_sem]
 refine SRun.boxR (by simp [ev, look, V.cells, V.one]) ?_
 intro b hb
 simp (disch := omega) only [hgl, go_sem]
 exact W_retC c93_ok rfl (Conv.drop _ (le_upd hb)) ⟨rfl, rfl⟩
theorem isAigLiteral_ok {inp : Int} {gs : List (Int × Int)} {x : Int} (hinp : 0 ≤ inp ∧ inp ≤ 12) (hl : gs.length ≤ 400) (hx : LitOK inp gs x) : Ret Tryz.prog Γ 60 [aigV inp gs, .int .i64 x] σ (.bool true) σ := by
 refine ret_of c60_ok rfl ?_
 simp (disch := omega) only [c60, aigV, go_sem]
 refine SRun.boxR (by simp [ev, look, V.cells, V.one]) ?_
 intro b hb
 simp (disch := omega) only [go_sem]
 refine SRun.callR (nodesOf_ok (inp := inp) (gs := gs) hinp hl) ⟨[], rfl, rfl⟩ rfl ?_
 simp (disch := omega) only [go_sem]
 refine SRun.callR (within_ok x 0 (2 * (1 + inp + gs.length) - 1)) ⟨[], rfl, rfl⟩ rfl ?_
 simp (disch := omega) only [List.getD_cons_zero, List.getD_cons_succ, go_sem]
 unfold LitOK at hx
 have hb2 : (decide (0 ≤ x) && decide (x ≤ 2 * (1 + inp + gs.length) - 1)) = true := by simp; omega
 exact W_retC c60_ok rfl (Conv.drop _ (le_upd hb)) ⟨by simp only [look, ev, V.bool.injEq, V.int.injEq, V.str.injEq, V.tup.injEq, V.agg.injEq, V.isl.injEq, List.cons.injEq, true_and, and_true, Nat.reduceEqDiff, Nat.reduceAdd, Nat.reduceSub, Nat.reduceMul, Nat.reducePow, Nat.reduceDiv, Nat.reduceMod, Int.reduceToNat, Nat.reduceLeDiff, Nat.reduceLT, Int.reduceEq, Int.reduceLT, Int.reduceLE, Int.reduceGT, Int.reduceGE, Int.reduceNeg, Int.reduceSub, Int.reduceAdd, Int.reduceMul, Int.reducePow, ne_eq, reduceCtorEq, ↓reduceIte]; exact hb2, rfl⟩
end
section
/-- A literal of a circuit, as one of its formula. -/
def nodeL (x : Int) : Int := if x % 2 = 1 then -(x / 2) else x / 2
def tsGate (inp : Int) (i : Nat) (g : Int × Int) : List (List Int) := [[-(1 + inp + i), nodeL g.1], [-(1 + inp + i), nodeL g.2], [1 + inp + i, -nodeL g.1, -nodeL g.2]]
/-- The clauses of the first gates. -/
def tsCls (inp : Int) (gs : List (Int × Int)) (n : Nat) : List (List Int) := (List.range n).flatMap fun i => tsGate inp i (gs.getD i default)
def tsEnd (x : Int) : List (List Int) := if x = 0 then [[]] else if x = 1 then [] else [[nodeL x]]
def tsP (inp : Int) (gs : List (Int × Int)) (x : Int) : List (List Int) := tsCls inp gs gs.length ++ tsEnd x
theorem tsCls_succ (inp : Int) (gs : List (Int × Int)) (n : Nat) : tsCls inp gs (n + 1) = tsCls inp gs n ++ tsGate inp n (gs.getD n default) := by
 simp [tsCls, List.range_succ, List.flatMap_append]
theorem tsCls_len (inp : Int) (gs : List (Int × Int)) (n : Nat) : (tsCls inp gs n).length = 3 * n := by
 induction n with
 | zero => rfl
 | succ n ih => rw [tsCls_succ, List.length_append, ih]; simp [tsGate]; omega
theorem tsEnd_len (x : Int) : (tsEnd x).length ≤ 1 := by unfold tsEnd; (repeat' split) <;> simp
section
variable {inp : Int} {gs : List (Int × Int)} {x : Int} {vs bs : List Bool}
theorem nodeL_ok {z N : Int} (h1 : 2 ≤ z) (h2 : z < 2 * (1 + N)) : nodeL z ≠ 0 ∧ -N ≤ nodeL z ∧ nodeL z ≤ N := by unfold nodeL; split <;> omega
/-- The formula is right. -/
theorem ts_lits (hi : 0 ≤ inp) (hg : GatesOK inp gs) (hx : LitOK inp gs x) : ∀ c ∈ tsP inp gs x, c.length ≤ 3 ∧ ∀ y ∈ c, litOK (inp + gs.length) y := by
 intro c hc
 unfold LitOK at hx
 unfold tsP at hc
 rcases List.mem_append.1 hc with hc | hc
 ·unfold tsCls at hc
  obtain ⟨i, hi2, hc⟩ := List.mem_flatMap.1 hc
  rw [List.mem_range] at hi2
  obtain ⟨q1, q2, q3, _, _⟩ := hg i hi2
  have k1 := nodeL_ok (z := (gs.getD i default).1) (N := inp + gs.length) q1 (by omega)
  have k2 := nodeL_ok (z := (gs.getD i default).2) (N := inp + gs.length) (by omega) (by omega)
  simp only [tsGate, List.mem_cons, List.not_mem_nil, or_false] at hc
  rcases hc with rfl | rfl | rfl
  ·refine ⟨by simp, fun y hy => ?_⟩
   simp only [List.mem_cons, List.not_mem_nil, or_false] at hy
   unfold litOK
   rcases hy with rfl | rfl <;> omega
  ·refine ⟨by simp, fun y hy => ?_⟩
   simp only [List.mem_cons, List.not_mem_nil, or_false] at hy
   unfold litOK
   rcases hy with rfl | rfl <;> omega
  ·refine ⟨by simp, fun y hy => ?_⟩
   simp only [List.mem_cons, List.not_mem_nil, or_false] at hy
   unfold litOK
   rcases hy with rfl | rfl | rfl <;> omega
 ·unfold tsEnd at hc
  split at hc
  ·simp only [List.mem_cons, List.not_mem_nil, or_false] at hc
   subst hc; exact ⟨by simp, fun y hy => by cases hy⟩
  split at hc
  ·cases hc
  ·simp only [List.mem_cons, List.not_mem_nil, or_false] at hc
   subst hc
   have k := nodeL_ok (z := x) (N := inp + gs.length) (by omega) (by omega)
   refine ⟨by simp, fun y hy => ?_⟩
   simp only [List.mem_cons, List.not_mem_nil, or_false] at hy
   subst hy
   exact k
theorem litV_node (bs : List Bool) {z : Int} (h : 2 ≤ z) : litV bs (nodeL z) = valP (false :: bs) z := by
 unfold litV valP nodeL
 obtain ⟨k, hk⟩ : ∃ k : Nat, z / 2 = (k : Int) + 1 := ⟨(z / 2 - 1).toNat, by omega⟩
 rw [hk]
 have e2 : (false :: bs).getD ((k : Int) + 1).toNat false = bs.getD k false := by rw [show ((k : Int) + 1).toNat = k + 1 by omega]; rfl
 rw [e2]
 by_cases h1 : z % 2 = 1
 ·rw [if_pos h1, decide_eq_true h1, show (-((k : Int) + 1)).natAbs - 1 = k by omega, decide_eq_false (show ¬ -((k : Int) + 1) > 0 by omega)]
  cases bs.getD k false <;> rfl
 ·rw [if_neg h1, decide_eq_false h1, show ((k : Int) + 1).natAbs - 1 = k by omega, decide_eq_true (show (k : Int) + 1 > 0 by omega)]
  cases bs.getD k false <;> rfl
theorem gate_eval (hi : 0 ≤ inp) (bs : List Bool) {i : Nat} {g : Int × Int} (h1 : 2 ≤ g.1) (h2 : 2 ≤ g.2) : evalB (tsGate inp i g) bs = (bs.getD (inp.toNat + i) false == (valP (false :: bs) g.1 && valP (false :: bs) g.2)) := by
 have e1 : litV bs (1 + inp + i) = bs.getD (inp.toNat + i) false := by
  rw [show (1 + inp + (i : Int)) = ((inp.toNat + i : Nat) : Int) + 1 by omega, litV_pos]
 have k1 := nodeL_ok (z := g.1) (N := g.1) h1 (by omega)
 have k2 := nodeL_ok (z := g.2) (N := g.2) h2 (by omega)
 simp only [evalB, tsGate, List.all_cons, List.all_nil, List.any_cons, List.any_nil, Bool.or_false, Bool.and_true]
 rw [litV_neg (x := 1 + inp + i) (by omega), litV_neg k1.1, litV_neg k2.1, e1, litV_node bs h1, litV_node bs h2]
 cases bs.getD (inp.toNat + i) false <;> cases valP (false :: bs) g.1 <;> cases valP (false :: bs) g.2 <;> rfl
theorem cls_eval (hi : 0 ≤ inp) (hg : GatesOK inp gs) (bs : List Bool) {n : Nat} (hn : n ≤ gs.length) : evalB (tsCls inp gs n) bs = true ↔ ∀ i, i < n → bs.getD (inp.toNat + i) false = (valP (false :: bs) (gs.getD i default).1 && valP (false :: bs) (gs.getD i default).2) := by
 induction n with
 | zero => exact ⟨fun _ i h => by omega, fun _ => rfl⟩
 | succ n ih =>
  obtain ⟨q1, q2, q3, _, _⟩ := hg n (by omega)
  rw [tsCls_succ, evalB_app, Bool.and_eq_true, ih (by omega), gate_eval hi bs q1 (by omega), beq_iff_eq]
  constructor
  ·rintro ⟨h1, h2⟩ i hi2
   by_cases he : i = n
   ·subst he; exact h2
   ·exact h1 i (by omega)
  ·intro h
   exact ⟨fun i hi2 => h i (by omega), h n (by omega)⟩
theorem end_eval (bs : List Bool) (hx : 0 ≤ x) : evalB (tsEnd x) bs = valP (false :: bs) x := by
 unfold tsEnd
 split
 ·rename_i h; subst h; rfl
 split
 ·rename_i h; subst h; rfl
 ·simp only [evalB, List.all_cons, List.all_nil, List.any_cons, List.any_nil, Bool.or_false, Bool.and_true]
  exact litV_node bs (by omega)
theorem nodesP_cons (vs : List Bool) (gs : List (Int × Int)) : nodesP vs gs = false :: (nodesP vs gs).drop 1 := by
 have h := nodesP_app vs [] gs
 rw [List.nil_append] at h
 obtain ⟨t, ht⟩ := h
 rw [← ht]; rfl
/-- Values make values of all nodes, and these are a model just when the literal is true. -/
theorem ts_ext (hi : 0 ≤ inp) (hv : (vs.length : Int) = inp) (hg : GatesOK inp gs) (hx : LitOK inp gs x) : evalB (tsP inp gs x) ((nodesP vs gs).drop 1) = valP (nodesP vs gs) x := by
 unfold tsP
 have hc := nodesP_cons vs gs
 rw [evalB_app, end_eval _ hx.1, ← hc]
 have : evalB (tsCls inp gs gs.length) ((nodesP vs gs).drop 1) = true := by
  rw [cls_eval hi hg _ (Nat.le_refl _)]
  intro i hi2
  rw [← hc, ← val_gate hv hg hi2]
  unfold valP
  rw [decide_eq_false (show ¬ 2 * (1 + inp + (i : Int)) % 2 = 1 by omega), show (2 * (1 + inp + (i : Int)) / 2).toNat = (inp.toNat + i) + 1 by omega]
  conv => rhs; rw [hc]
  show _ = (((nodesP vs gs).drop 1).getD (inp.toNat + i) false != false)
  cases ((nodesP vs gs).drop 1).getD (inp.toNat + i) false <;> rfl
 rw [this, Bool.true_and]
/-- There are no other models. -/
theorem ts_only (hi : 0 ≤ inp) (hg : GatesOK inp gs) (hl : (bs.length : Int) = inp + gs.length) (h : evalB (tsP inp gs x) bs = true) : ∀ k, k ≤ gs.length → nodesP (bs.take inp.toNat) (gs.take k) = false :: bs.take (inp.toNat + k) := by
 unfold tsP at h
 rw [evalB_app, Bool.and_eq_true, cls_eval hi hg _ (Nat.le_refl _)] at h
 intro k
 induction k with
 | zero => intro _; rfl
 | succ k ih =>
  intro hk
  obtain ⟨q1, q2, q3, _, _⟩ := hg k (by omega)
  have hlt : (bs.take (inp.toNat + k)).length = inp.toNat + k := by rw [List.length_take]; omega
  have hp : (false :: bs.take (inp.toNat + k)) <+: (false :: bs) := by
   rw [List.cons_prefix_cons]; exact ⟨rfl, List.take_prefix _ _⟩
  rw [nodesP_succ (by omega), ih (by omega), ← valP_pre (x := (gs.getD k default).1) hp (by simp only [List.length_cons, hlt]; omega), ← valP_pre (x := (gs.getD k default).2) hp (by simp only [List.length_cons, hlt]; omega), ← h.1 k (by omega), ← Nat.add_assoc, take_succ false (by omega)]
  rfl
end
theorem numH_app (a b : List Bool) : numH (a ++ b) = numH a * 2 ^ b.length + numH b := by
 induction a with
 | nil => simp [numH, numB]
 | cons x r ih =>
  rw [List.cons_append, numH_cons, numH_cons, ih, List.length_append, Nat.pow_add]
  have : 2 ^ r.length * 2 ^ b.length * x.toNat = 2 ^ r.length * x.toNat * 2 ^ b.length := by rw [Nat.mul_right_comm]
  rw [this, Nat.add_mul]; omega
end
section
attribute [local irreducible] SRun DS DRun
variable {Γ : St} {σ σ0 : St}
theorem nodeLiteral_ok {x : Int} (hx : 0 ≤ x ∧ x ≤ 1000000) : Ret Tryz.prog Γ 94 [.int .i64 x] σ (.int .i64 (nodeL x)) σ := by
 have t1 : x.tdiv 2 = x / 2 := Int.tdiv_eq_ediv_of_nonneg (by omega)
 have t2 : x.tmod 2 = x % 2 := Int.tmod_eq_emod_of_nonneg (by omega)
 refine ret_of c94_ok rfl ?_
 simp (disch := omega) only [c94, t1, t2, go_sem]
 first | refine iteW_dec (fun h => ?_) (fun h => ?_) | refine iteW_of (fun h => ?_) (fun h => ?_)
 ·simp (disch := omega) only [t1, t2, go_sem]
  refine W_retR c94_ok rfl ⟨?_, rfl⟩
  simp only [look, ev, V.bool.injEq, V.int.injEq, V.str.injEq, V.tup.injEq, V.agg.injEq, V.isl.injEq, List.cons.injEq, true_and, and_true, nodeL, Nat.reduceEqDiff, Nat.reduceAdd, Nat.reduceSub, Nat.reduceMul, Nat.reducePow, Nat.reduceDiv, Nat.reduceMod, Int.reduceToNat, Nat.reduceLeDiff, Nat.reduceLT, Int.reduceEq, Int.reduceLT, Int.reduceLE, Int.reduceGT, Int.reduceGE, Int.reduceNeg, Int.reduceSub, Int.reduceAdd, Int.reduceMul, Int.reducePow, ne_eq, reduceCtorEq, ↓reduceIte]
  rw [if_pos h]; omega
 ·simp (disch := omega) only [t1, t2, go_sem]
  refine W_retR c94_ok rfl ⟨?_, rfl⟩
  simp only [look, ev, V.bool.injEq, V.int.injEq, V.str.injEq, V.tup.injEq, V.agg.injEq, V.isl.injEq, List.cons.injEq, true_and, and_true, nodeL, Nat.reduceEqDiff, Nat.reduceAdd, Nat.reduceSub, Nat.reduceMul, Nat.reducePow, Nat.reduceDiv, Nat.reduceMod, Int.reduceToNat, Nat.reduceLeDiff, Nat.reduceLT, Int.reduceEq, Int.reduceLT, Int.reduceLE, Int.reduceGT, Int.reduceGE, Int.reduceNeg, Int.reduceSub, Int.reduceAdd, Int.reduceMul, Int.reducePow, ne_eq, reduceCtorEq, ↓reduceIte]
  rw [if_neg h]
theorem l04Lit_ok {x : Int} (hx : 0 ≤ x ∧ x ≤ 1000000) : Ret Tryz.prog Γ 73 [.int .i64 x] σ (.int .i64 (nodeL x)) σ := by
 have t1 : x.tdiv 2 = x / 2 := Int.tdiv_eq_ediv_of_nonneg (by omega)
 have t2 : x.tmod 2 = x % 2 := Int.tmod_eq_emod_of_nonneg (by omega)
 refine ret_of c73_ok rfl ?_
 simp (disch := omega) only [c73, t1, t2, go_sem]
 first | refine iteW_dec (fun h => ?_) (fun h => ?_) | refine iteW_of (fun h => ?_) (fun h => ?_)
 ·simp (disch := omega) only [t1, t2, go_sem]
  refine W_retR c73_ok rfl ⟨?_, rfl⟩
  simp only [look, ev, V.bool.injEq, V.int.injEq, V.str.injEq, V.tup.injEq, V.agg.injEq, V.isl.injEq, List.cons.injEq, true_and, and_true, nodeL, Nat.reduceEqDiff, Nat.reduceAdd, Nat.reduceSub, Nat.reduceMul, Nat.reducePow, Nat.reduceDiv, Nat.reduceMod, Int.reduceToNat, Nat.reduceLeDiff, Nat.reduceLT, Int.reduceEq, Int.reduceLT, Int.reduceLE, Int.reduceGT, Int.reduceGE, Int.reduceNeg, Int.reduceSub, Int.reduceAdd, Int.reduceMul, Int.reducePow, ne_eq, reduceCtorEq, ↓reduceIte]
  rw [if_pos h]; omega
 ·simp (disch := omega) only [t1, t2, go_sem]
  refine W_retR c73_ok rfl ⟨?_, rfl⟩
  simp only [look, ev, V.bool.injEq, V.int.injEq, V.str.injEq, V.tup.injEq, V.agg.injEq, V.isl.injEq, List.cons.injEq, true_and, and_true, nodeL, Nat.reduceEqDiff, Nat.reduceAdd, Nat.reduceSub, Nat.reduceMul, Nat.reducePow, Nat.reduceDiv, Nat.reduceMod, Int.reduceToNat, Nat.reduceLeDiff, Nat.reduceLT, Int.reduceEq, Int.reduceLT, Int.reduceLE, Int.reduceGT, Int.reduceGE, Int.reduceNeg, Int.reduceSub, Int.reduceAdd, Int.reduceMul, Int.reducePow, ne_eq, reduceCtorEq, ↓reduceIte]
  rw [if_neg h]
/-- A clause, as it is made. -/
def rawV (c : List Int) : V := .isl true 1 (ints c)
theorem rawV_frz {σ σ' : St} (c : List Int) : Frz σ σ' (rawV c) (intsV c) := .isl _ _ _
/-- A row of clauses that is owned. -/
def RowC (A : St) (cls : List (List Int)) (t : V) (s : St) : Prop := ∃ cs : List V, OwnL A 1 cs t s ∧ cs.length = cls.length ∧ (∀ c ∈ cs, c.one = true) ∧ ∀ (i : Nat) (y x : V), cs[i]? = some y → (clsV cls)[i]? = some x → ∀ σ σ', Frz σ σ' y x
theorem RowC.of {A s : St} {cls : List (List Int)} {t : V} (h : OwnL A 1 (cls.map rawV) t s) : RowC A cls t s := by
 refine ⟨_, h, by simp, fun c hc => by simp only [List.mem_map] at hc; obtain ⟨c', _, rfl⟩ := hc; rfl, fun i y x hy hx σ σ' => ?_⟩
 simp only [List.getElem?_map, clsV] at hy hx
 cases hc : cls[i]? with
 | none => rw [hc] at hy; cases hy
 | some c =>
  rw [hc] at hy hx
  simp only [Option.map_some, Option.some.injEq] at hy hx
  subst hy hx
  exact rawV_frz c
theorem raw_ok (cls : List (List Int)) : ∀ y ∈ cls.map rawV, y.cells.length = 1 ∧ ∀ c ∈ y.cells, c.one = true := by
 intro y hy; simp only [List.mem_map] at hy; obtain ⟨c, _, rfl⟩ := hy; simp [rawV, V.cells, V.one]
theorem RowC.end {A s : St} {cls : List (List Int)} {t : V} (cls1 : List (List Int)) (y : V) (c : List Int) (he : cls = cls1 ++ [c]) {cs : List V} (hcs : cs = cls1.map rawV ++ [y]) (h : OwnL A 1 cs t s) (hy1 : y.one = true) (hy : ∀ σ σ', Frz σ σ' y (intsV c)) : RowC A cls t s := by
 refine ⟨_, h, by rw [hcs, he]; simp, fun c' hc' => ?_, fun i y' x' h1 h2 σ σ' => ?_⟩
 ·rw [hcs] at hc'
  rcases List.mem_append.1 hc' with h | h
  ·simp only [List.mem_map] at h; obtain ⟨c', _, rfl⟩ := h; rfl
  ·rw [List.mem_singleton.1 h]; exact hy1
 rw [hcs] at h1
 rw [he] at h2
 rcases Nat.lt_or_ge i cls1.length with hi | hi
 ·rw [List.getElem?_append_left (by simpa using hi)] at h1
  simp only [clsV, List.map_append] at h2
  rw [List.getElem?_append_left (by simpa using hi)] at h2
  simp only [List.getElem?_map, List.getElem?_eq_getElem hi, Option.map_some, Option.some.injEq] at h1 h2
  subst h1 h2
  exact rawV_frz _
 ·have hi2 : i = cls1.length := by
   have := (List.getElem?_eq_some_iff.1 h1).1
   simp at this; omega
  subst hi2
  simp only [clsV, List.map_append] at h2
  rw [List.getElem?_append_right (by simp)] at h1 h2
  simp at h1 h2
  subst h1 h2
  exact hy σ σ'
theorem RowC.frz {A s s2 σ : St} {cls : List (List Int)} {t : V} (h : RowC A cls t s) (h2 : ∀ b, A b = none → s2 b = s b) (h3 : ∀ b, A b = none → σ b = none) : Frz s2 σ t (.isl false 1 (clsV cls)) := by
 obtain ⟨cs, ho, hl, h1, hf⟩ := h
 have ho1 := ho.1
 rw [flat_one h1] at ho1
 exact own_frzG ho1 (by rw [clsV_len, hl]) (clsV_one cls) h2 h3 fun i y x hy hx => hf i y x hy hx _ _
theorem ts_done {A s : St} {b5 b4 : Nat} {n q : V} {vars : Int} {cls : List (List Int)} (hn : n = .int .i64 vars) (hrow : RowC (upd A b5 [n, q]) cls q s) (h4 : ∃ x, A b4 = some x) (hσ : ∀ d x, σ d = some x → d ≠ b4 ∧ d ≠ b5 ∧ A d = some x) : Conv (upd s b4 [n, q]) (.agg [n, q]) σ (cnfV vars cls) := by
 subst hn
 have hle : ∀ d x, σ d = some x → upd s b4 [.int .i64 vars, q] d = some x := fun d x hd => by
  obtain ⟨n4, n5, hA⟩ := hσ d x hd
  rw [upd_ne _ _ n4]
  obtain ⟨cs, ho, _⟩ := hrow
  exact ho.le _ _ (by rw [upd_ne _ _ n5]; exact hA)
 have hF : Frz (upd s b4 [.int .i64 vars, q]) σ q (.isl false 1 (clsV cls)) := hrow.frz (fun d hd => by
   obtain ⟨x, h4⟩ := h4
   have hd := upd_none.1 hd
   rw [upd_ne]
   intro e; subst e; rw [h4] at hd; cases hd.2) (fun d hd => by
   have hd := upd_none.1 hd
   cases hc : σ d with
   | none => rfl
   | some x => rw [(hσ d x hc).2.2] at hd; cases hd.2)
 exact ⟨hle, frz_agg (by exact ⟨.refl _, hF, trivial⟩) (by simp [V.one])⟩
set_option maxHeartbeats 1000000 in
theorem tseitin_ok {inp : Int} {gs : List (Int × Int)} {x : Int} (hinp : 0 ≤ inp ∧ inp ≤ 12) (hl : gs.length ≤ 400) (hg : GatesOK inp gs) (hx : LitOK inp gs x) : Ret Tryz.prog Γ 61 [aigV inp gs, .int .i64 x] σ (cnfV (inp + gs.length) (tsP inp gs x)) σ := by
 have hgl := gsV_len gs
 have hx' := hx
 unfold LitOK at hx'
 refine ret_of c61_ok rfl ?_
 simp (disch := omega) only [c61, aigV, go_sem]
 refine SRun.boxR (by simp [ev, look, V.cells, V.one]) ?_
 intro b2 hb2
 simp (disch := omega) only [go_sem]
 refine SRun.allocR ?_
 intro b4 hb4
 have n42 := (upd_none.1 hb4).1
 have g2 : upd (upd σ b2 [.int .i64 inp, .isl false 2 (gsV gs)]) b4 [.int .i64 0, .isl true 0 []] b2 = some [.int .i64 inp, .isl false 2 (gsV gs)] := by rw [upd_ne _ _ n42.symm, upd_same]
 have g4 : upd (upd σ b2 [.int .i64 inp, .isl false 2 (gsV gs)]) b4 [.int .i64 0, .isl true 0 []] b4 = some [.int .i64 0, .isl true 0 []] := upd_same _ _ _
 have hσ : ∀ d x, σ d = some x → d ≠ b4 ∧ upd (upd σ b2 [.int .i64 inp, .isl false 2 (gsV gs)]) b4 [.int .i64 0, .isl true 0 []] d = some x := fun d x h => ⟨fun e => by (subst e; rw [(upd_none.1 hb4).2] at h; cases h), le_upd hb4 _ _ (le_upd hb2 _ _ h)⟩
 generalize upd (upd σ b2 [.int .i64 inp, .isl false 2 (gsV gs)]) b4 [.int .i64 0, .isl true 0 []] = s1 at *
 simp (disch := omega) only [g2, go_sem]
 refine SRun.callR (nodesOf_ok (inp := inp) (gs := gs) hinp hl) ⟨[], rfl, rfl⟩ rfl ?_
 have hn1 : 1 + inp + (gs.length : Int) - 1 = inp + gs.length := by omega
 simp (disch := omega) only [hn1, go_sem]
 refine SRun.allocR ?_
 intro b5 hb5
 have n52 : b5 ≠ b2 := fun e => by subst e; rw [g2] at hb5; cases hb5
 have n54 : b5 ≠ b4 := fun e => by subst e; rw [g4] at hb5; cases hb5
 simp (disch := omega) only [le_upd hb5 _ _ g2, g2, hgl, go_sem]
 have own0 : OwnL (upd s1 b5 [.int .i64 (inp + gs.length), .isl true 0 []]) 1 ((tsCls inp gs 0).map rawV) (.isl true 0 []) (upd s1 b5 [.int .i64 (inp + gs.length), .isl true 0 []]) := OwnL.nil _ _
 refine W_loopC (α := Nat × V × St × St) (fun p => p.1 ≤ gs.length ∧ OwnL (upd p.2.2.1 b5 [.int .i64 (inp + gs.length), p.2.1]) 1 ((tsCls inp gs p.1).map rawV) p.2.1 p.2.2.2 ∧ ∀ d x, s1 d = some x → p.2.2.1 d = some x)
  (fun p => [(1, .int .i64 x), (2, .ptr b2 0), (4, .ptr b4 0), (5, .ptr b5 0), (16, .isl false 2 (gsV gs)), (17, .int .i64 gs.length), (18, .int .i64 (p.1 : Nat))]) (fun p => p.2.2.2) (fun p => gs.length - p.1) (0, .isl true 0 [], s1, _) ⟨by simp, own0, fun _ _ h => h⟩ (by simp (disch := omega) only [subT, Int.natCast_add, Int.cast_ofNat_Int, go_sem] <;> (repeat' apply And.intro) <;> first | rfl | (congr 1; omega) | assumption) rfl ?_
 rintro ⟨i, q, A, s⟩ ⟨hi, ho, hle⟩ ih
 dsimp only at hi ho hle
 have gA2 := hle _ _ g2
 have gs2 := ho.get (b := b2) (c := [.int .i64 inp, .isl false 2 (gsV gs)]) (by rw [upd_ne _ _ n52.symm]; exact gA2)
 have gs5 := ho.get (upd_same _ b5 _)
 have hq1 := ho.one
 simp (disch := omega) only [go_sem]
 first | refine iteW_dec (fun hq => ?_) (fun hq => ?_) | refine iteW_of (fun hq => ?_) (fun hq => ?_)
 ·obtain ⟨q1, q2, q3, _, _⟩ := hg i (by omega)
  simp (disch := omega) only [gsV, go_sem]
  generalize hgi : gs.getD i default = g at *
  obtain ⟨u, v⟩ := g
  dsimp only at q1 q2 q3
  simp (disch := omega) only [gV, go_sem]
  refine SRun.allocR ?_
  intro b7 hb7
  have n75 : b7 ≠ b5 := fun e => by subst e; rw [gs5] at hb7; cases hb7
  simp (disch := omega) only [go_sem]
  refine W_drawW ?_
  have gs2' : upd s b7 [V.int IntKind.i64 u, .int .i64 v] b2 = _ := le_upd hb7 _ _ gs2
  refine DRun.mixE rfl ?_
  simp (disch := omega) only [gs2', go_sem]
  refine DS.callB (nodeLiteral_ok (x := u) (by omega)) ⟨[], rfl, rfl⟩ rfl rfl ?_
  simp (disch := omega) only [go_sem]
  refine DS.callB (nodeLiteral_ok (x := v) (by omega)) ⟨[], rfl, rfl⟩ rfl rfl ?_
  have k1 := nodeL_ok (z := u) (N := inp + gs.length) q1 (by omega)
  have k2 := nodeL_ok (z := v) (N := inp + gs.length) (by omega) (by omega)
  have gs5' : upd s b7 [V.int IntKind.i64 u, .int .i64 v] b5 = _ := le_upd hb7 _ _ gs5
  simp (disch := omega) only [gs5', Int.zero_sub, go_sem]
  have ho7 := ho.ext (z := [V.int IntKind.i64 u, .int .i64 v]) hb7
  refine SRun.appL (ys := (tsGate inp i (u, v)).map rawV) ho7 rfl (raw_ok _) (by rw [List.length_map, tsCls_len]; simp only [tsGate, List.length_map, List.length_cons, List.length_nil]; omega) ?_
  intro q' s8 ho8
  have hap : (tsCls inp gs i).map rawV ++ (tsGate inp i (u, v)).map rawV = (tsCls inp gs (i + 1)).map rawV := by rw [tsCls_succ, hgi, List.map_append]
  rw [hap] at ho8
  have g85 := ho8.get (b := b5) (c := [.int .i64 (inp + gs.length), q]) (by rw [upd_ne _ _ n75.symm, upd_same])
  simp (disch := omega) only [g85, ho8.one, ho8.cells, go_sem]
  have ho9 := ho8.upd (b := b5) (c := [.int .i64 (inp + gs.length), q]) (c' := [.int .i64 (inp + gs.length), q']) (by rw [upd_ne _ _ n75.symm, upd_same])
  rw [upd_comm _ n75, upd_upd, upd_comm _ n75.symm] at ho9
  have hA : A b7 = none := by
   cases hc : A b7 with
   | none => rfl
   | some x => rw [ho.get (b := b7) (c := x) (by rw [upd_ne _ _ n75]; exact hc)] at hb7; cases hb7
  exact ih (i + 1, q', upd A b7 [.int .i64 u, .int .i64 v], _) _ _ ⟨by simp only; omega, ho9, fun d z h => le_upd hA _ _ (hle _ _ h)⟩ (by simp only; omega) (by simp (disch := omega) only [subT, Int.natCast_add, Int.cast_ofNat_Int, gsV, go_sem] <;> (repeat' apply And.intro) <;> first | rfl | (congr 1; omega) | assumption) rfl
 ·clear ih
  have hig : i = gs.length := by omega
  rw [hig] at ho
  clear hq
  have gA4 := hle _ _ g4
  have gs4 := ho.get (b := b4) (c := [.int .i64 0, .isl true 0 []]) (by rw [upd_ne _ _ n54.symm]; exact gA4)
  have hσA : ∀ d x, σ d = some x → d ≠ b4 ∧ d ≠ b5 ∧ A d = some x := fun d x hd => by
   obtain ⟨h4, h1⟩ := hσ d x hd
   exact ⟨h4, fun e => by (subst e; rw [h1] at hb5; cases hb5), hle _ _ h1⟩
  simp (disch := omega) only [go_sem]
  first | refine iteW_dec (fun h0 => ?_) (fun h0 => ?_) | refine iteW_of (fun h0 => ?_) (fun h0 => ?_)
  ·subst h0
   simp (disch := omega) only [gs5, go_sem]
   refine SRun.appL (ys := [.isl true 0 []]) ho rfl (by simp [V.cells, V.one]) (by rw [List.length_map, tsCls_len]; simp only [List.length_singleton]; omega) ?_
   intro q' s8 ho8
   have g85 := ho8.get (upd_same _ b5 _)
   have g84 := ho8.get (b := b4) (c := [.int .i64 0, .isl true 0 []]) (by rw [upd_ne _ _ n54.symm]; exact gA4)
   simp (disch := omega) only [g85, g84, ho8.one, ho8.cells, go_sem]
   have ho9 := ho8.upd (b := b5) (c := [.int .i64 (inp + gs.length), q]) (c' := [.int .i64 (inp + gs.length), q']) (upd_same _ b5 _)
   rw [upd_upd] at ho9
   have hrow : RowC (upd A b5 [.int .i64 (inp + gs.length), q']) (tsP inp gs 0) q' (upd s8 b5 [.int .i64 (inp + gs.length), q']) := RowC.end (tsCls inp gs gs.length) (.isl true 0 []) [] (by simp [tsP, tsEnd]) rfl ho9 rfl fun σ σ' => frz_nil _ _
   exact W_retC c61_ok (r := .agg [.int .i64 (inp + gs.length), q']) (σ' := σ) (r' := cnfV (inp + gs.length) (tsP inp gs 0)) (resV_cellA rfl (upd_same _ _ _) rfl) (ts_done rfl hrow ⟨_, gA4⟩ hσA) ⟨rfl, rfl⟩
  ·simp (disch := omega) only [go_sem]
   first | refine iteW_dec (fun h1 => ?_) (fun h1 => ?_) | refine iteW_of (fun h1 => ?_) (fun h1 => ?_)
   ·subst h1
    have hrow : RowC (upd A b5 [.int .i64 (inp + gs.length), q]) (tsP inp gs 1) q s := by
     have : tsP inp gs 1 = tsCls inp gs gs.length := by simp [tsP, tsEnd]
     rw [this]; exact RowC.of ho
    simp (disch := omega) only [gs5, gs4, hq1, go_sem]
    exact W_retC c61_ok (r := .agg [.int .i64 (inp + gs.length), q]) (σ' := σ) (r' := cnfV (inp + gs.length) (tsP inp gs 1)) (resV_cellA rfl (upd_same _ _ _) rfl) (ts_done rfl hrow ⟨_, gA4⟩ hσA) ⟨rfl, rfl⟩
   ·refine W_drawW ?_
    refine DRun.mixE rfl ?_
    simp (disch := omega) only [gs5, go_sem]
    refine DS.callB (nodeLiteral_ok (x := x) (by omega)) ⟨[], rfl, rfl⟩ rfl rfl ?_
    simp (disch := omega) only [go_sem]
    refine DRun.appL (ys := [rawV [nodeL x]]) ho rfl (raw_ok [[nodeL x]]) (by rw [List.length_map, tsCls_len]; simp only [List.length_singleton]; omega) ?_
    intro q' s8 ho8
    have g85 := ho8.get (upd_same _ b5 _)
    have g84 := ho8.get (b := b4) (c := [.int .i64 0, .isl true 0 []]) (by rw [upd_ne _ _ n54.symm]; exact gA4)
    simp (disch := omega) only [g85, g84, ho8.one, ho8.cells, go_sem]
    have ho9 := ho8.upd (b := b5) (c := [.int .i64 (inp + gs.length), q]) (c' := [.int .i64 (inp + gs.length), q']) (upd_same _ b5 _)
    rw [upd_upd] at ho9
    have hrow : RowC (upd A b5 [.int .i64 (inp + gs.length), q']) (tsP inp gs x) q' (upd s8 b5 [.int .i64 (inp + gs.length), q']) := RowC.end (tsCls inp gs gs.length) (rawV [nodeL x]) [nodeL x] (by simp [tsP, tsEnd, h0, h1]) rfl ho9 rfl fun σ σ' => rawV_frz _
    exact W_retC c61_ok (r := .agg [.int .i64 (inp + gs.length), q']) (σ' := σ) (r' := cnfV (inp + gs.length) (tsP inp gs x)) (resV_cellA rfl (upd_same _ _ _) rfl) (ts_done rfl hrow ⟨_, gA4⟩ hσA) ⟨rfl, rfl⟩
/-- What is said of a circuit's formula. -/
def tsA (inp : Int) (gs : List (Int × Int)) (x : Int) : V := bif cnfB (inp + gs.length) (tsP inp gs x) then .tup [cnfV (inp + gs.length) (tsP inp gs x), .int .i64 0] else .tup [cnfV 0 [], .int .i64 11]
theorem ts_small {inp : Int} {gs : List (Int × Int)} {x : Int} (hi : 0 ≤ inp) (hg : GatesOK inp gs) (hx : LitOK inp gs x) (hl : gs.length ≤ 400) : Small (tsP inp gs x) := by
 have h1 := ts_lits hi hg hx
 have h2 := tsCls_len inp gs gs.length
 have h3 := tsEnd_len x
 exact ⟨by unfold tsP; rw [List.length_append]; omega, fun c hc => by have := (h1 c hc).1; omega⟩
theorem zero_frz {σ σ' : St} : Frz σ σ' (.agg [.int .i64 0, .isl true 0 []]) (cnfV 0 []) := frz_agg (by exact ⟨.refl _, frz_nil _ _, trivial⟩) (by simp [V.one])
theorem resV_2 {T : Ts} {a nn b p : Nat} {cs : List V} (h : look T a = .ptr b 0) (hb : σ b = some cs) (hl : nn = cs.length) : resV [.cell a true nn, .t p] T σ = some (.tup [.agg cs, look T p]) := by
 subst hl
 simp [resV, resV1, h, hb]
theorem Tseitin_ok {inp : Int} {gs : List (Int × Int)} {x : Int} (hinp : 0 ≤ inp ∧ inp ≤ 12) (hl : gs.length ≤ 400) (hg : GatesOK inp gs) (hx : LitOK inp gs x) : Ret Tryz.prog Γ 31 [aigV inp gs, .int .i64 x] σ (tsA inp gs x) σ := by
 have hsm := ts_small hinp.1 hg hx hl
 refine ret_of c31_ok rfl ?_
 simp (disch := omega) only [c31, aigV, go_sem]
 refine SRun.boxR (by simp [ev, look, V.cells, V.one]) ?_
 intro b2 hb2
 simp (disch := omega) only [go_sem]
 refine SRun.allocR ?_
 intro b4 hb4
 have n42 := (upd_none.1 hb4).1
 have g2 : upd (upd σ b2 [.int .i64 inp, .isl false 2 (gsV gs)]) b4 [.int .i64 0, .isl true 0 []] b2 = some [.int .i64 inp, .isl false 2 (gsV gs)] := by rw [upd_ne _ _ n42.symm, upd_same]
 have g4 : upd (upd σ b2 [.int .i64 inp, .isl false 2 (gsV gs)]) b4 [.int .i64 0, .isl true 0 []] b4 = some [.int .i64 0, .isl true 0 []] := upd_same _ _ _
 have hσ : ∀ d x, σ d = some x → d ≠ b4 ∧ upd (upd σ b2 [.int .i64 inp, .isl false 2 (gsV gs)]) b4 [.int .i64 0, .isl true 0 []] d = some x := fun d x h => ⟨fun e => by (subst e; rw [(upd_none.1 hb4).2] at h; cases h), le_upd hb4 _ _ (le_upd hb2 _ _ h)⟩
 generalize upd (upd σ b2 [.int .i64 inp, .isl false 2 (gsV gs)]) b4 [.int .i64 0, .isl true 0 []] = s1 at *
 simp (disch := omega) only [g2, go_sem]
 refine SRun.callR (isAig_ok (inp := inp) (gs := gs) hinp hl hg) ⟨[], rfl, rfl⟩ rfl ?_
 simp (disch := omega) only [g2, go_sem]
 refine SRun.callR (isAigLiteral_ok (inp := inp) (gs := gs) hinp hl hx) ⟨[], rfl, rfl⟩ rfl ?_
 simp (disch := omega) only [g2, go_sem]
 refine SRun.callR (tseitin_ok (inp := inp) (gs := gs) hinp hl hg hx) ⟨[], rfl, rfl⟩ rfl ?_
 simp (disch := omega) only [cnfV, go_sem]
 refine SRun.allocR ?_
 intro b6 hb6
 have n64 : b6 ≠ b4 := fun e => by subst e; rw [g4] at hb6; cases hb6
 simp (disch := omega) only [go_sem]
 refine SRun.callR (isCnf_ok hsm) ⟨[], rfl, rfl⟩ rfl ?_
 have g4' := le_upd (cs := [.int .i64 (inp + gs.length), .isl false 1 (clsV (tsP inp gs x))]) hb6 _ _ g4
 generalize hq : cnfB (inp + gs.length) (tsP inp gs x) = qq
 have hA : tsA inp gs x = bif qq then .tup [cnfV (inp + gs.length) (tsP inp gs x), .int .i64 0] else .tup [cnfV 0 [], .int .i64 11] := by rw [← hq]; rfl
 have hfin : ∀ c, ∀ d y, σ d = some y → upd (upd s1 b6 [.int .i64 (inp + gs.length), .isl false 1 (clsV (tsP inp gs x))]) b4 c d = some y := fun c d y hd => by
  obtain ⟨h4, h1⟩ := hσ d y hd
  rw [upd_ne _ _ h4]; exact le_upd hb6 _ _ h1
 cases qq with
 | true =>
  simp (disch := omega) only [g4', go_sem]
  exact W_retC c31_ok (r := .tup [.agg [.int .i64 (inp + gs.length), .isl false 1 (clsV (tsP inp gs x))], .int .i64 0]) (r' := .tup [cnfV (inp + gs.length) (tsP inp gs x), .int .i64 0]) (σ' := σ) (resV_2 rfl (upd_same _ _ _) rfl) (Conv.drop _ (hfin _)) ⟨hA.symm, rfl⟩
 | false =>
  simp (disch := omega) only [g4', go_sem]
  exact W_retC c31_ok (r := .tup [.agg [.int .i64 0, .isl true 0 []], .int .i64 11]) (r' := .tup [cnfV 0 [], .int .i64 11]) (σ' := σ) (resV_2 rfl (upd_same _ _ _) rfl) ⟨hfin _, frz_tup (by exact ⟨zero_frz, .refl _, trivial⟩)⟩ ⟨hA.symm, rfl⟩
end
section
attribute [local irreducible] SRun DS DRun
variable {Γ : St} {σ σ0 : St}
theorem gates_none {gs : List (Int × Int)} {i k : Nat} (hk : k < i) (hi : i < gs.length) (h : (gs.take i).findIdx? (· == gs.getD i default) = none) : ¬ gs.getD k default = gs.getD i default := by
 rw [List.findIdx?_eq_none_iff] at h
 have := h (gs.getD k default) (by
  have hl : k < (gs.take i).length := by rw [List.length_take]; omega
  have : (gs.take i)[k] = gs.getD k default := by simp [List.getD, show k < gs.length by omega]
  rw [← this]; exact List.getElem_mem hl)
 simpa using this
set_option maxHeartbeats 1000000 in
theorem AigOKs_ok {inp : Int} {gs : List (Int × Int)} (hinp : 0 ≤ inp ∧ inp ≤ 12) (hl : gs.length ≤ 400) (hg : GatesOK inp gs) : Ret Tryz.prog Γ 71 [aigV inp gs] σ (.bool true) σ := by
 have hb : (decide (0 ≤ inp) && decide (inp ≤ 12)) = true := by simp; omega
 have hgl := gsV_len gs
 have hlb : decide ((gs.length : Int) > 400) = false := decide_eq_false (by omega)
 refine ret_of c71_ok rfl ?_
 simp (disch := omega) only [c71, aigV, go_sem]
 refine SRun.boxR (by simp [ev, look, V.cells, V.one]) ?_
 intro b1 hb1
 simp (disch := omega) only [go_sem]
 refine SRun.callR (l01In_ok inp 0 12) ⟨[], rfl, rfl⟩ rfl ?_
 simp (disch := omega) only [List.getD_cons_zero, List.getD_cons_succ, go_sem]
 simp (disch := omega) only [hb, hgl, hlb, go_sem]
 refine W_loopC (α := Nat × St) (fun p => p.1 ≤ gs.length ∧ ∀ d x, upd σ b1 [.int .i64 inp, .isl false 2 (gsV gs)] d = some x → p.2 d = some x) (fun p => [(1, .ptr b1 0), (3, .int .i64 (p.1 : Nat))]) (fun p => p.2) (fun p => gs.length - p.1) (0, upd σ b1 [.int .i64 inp, .isl false 2 (gsV gs)]) ⟨by omega, fun _ _ h => h⟩ (by simp (disch := omega) only [subT, Int.natCast_add, Int.cast_ofNat_Int, go_sem] <;> (repeat' apply And.intro) <;> first | rfl | (congr 1; omega) | assumption) rfl ?_
 rintro ⟨i, s⟩ ⟨hi, hs⟩ ih
 dsimp only at hi hs
 have g1 := hs b1 _ (upd_same _ _ _)
 simp (disch := omega) only [g1, hgl, go_sem]
 first | refine iteW_dec (fun hq => ?_) (fun hq => ?_) | refine iteW_of (fun hq => ?_) (fun hq => ?_)
 ·obtain ⟨q1, q2, q3, q4, q5⟩ := hg i (by omega)
  have hno := fun k (hk : k < i) => gates_none hk (by omega) q5
  simp (disch := omega) only [g1, gsV, go_sem]
  generalize hgi : gs.getD i default = g at *
  obtain ⟨x, y⟩ := g
  dsimp only at q1 q2 q3
  simp (disch := omega) only [gV, go_sem]
  refine SRun.allocR ?_
  intro b4 hb4
  have n41 : b4 ≠ b1 := fun e => by subst e; rw [g1] at hb4; cases hb4
  have g1' : upd s b4 [.int .i64 x, .int .i64 y] b1 = some _ := le_upd hb4 _ _ g1
  have l1 : decide (x < 2) = false := decide_eq_false (by omega)
  have l2 : decide (y ≤ x) = false := decide_eq_false (by omega)
  have l3 : decide (y ≥ 2 * (inp + 1 + i)) = false := decide_eq_false (by omega)
  have t1 : x.tdiv 2 = x / 2 := Int.tdiv_eq_ediv_of_nonneg (by omega)
  have t2 : y.tdiv 2 = y / 2 := Int.tdiv_eq_ediv_of_nonneg (by omega)
  have l4 : decide (x / 2 = y / 2) = false := decide_eq_false q4
  simp (disch := omega) only [g1', l1, l2, l3, l4, t1, t2, go_sem]
  refine W_loopC (α := Nat) (fun k => k ≤ i) (fun k => [(1, .ptr b1 0), (3, .int .i64 (i : Nat)), (4, .ptr b4 0), (6, .int .i64 (k : Nat))]) (fun _ => upd s b4 [.int .i64 x, .int .i64 y]) (fun k => i - k) 0 (by omega) (by simp (disch := omega) only [subT, Int.natCast_add, Int.cast_ofNat_Int, go_sem] <;> (repeat' apply And.intro) <;> first | rfl | (congr 1; omega) | assumption) rfl ?_
  intro k hk ih2
  simp (disch := omega) only [go_sem]
  first | refine iteW_dec (fun hq2 => ?_) (fun hq2 => ?_) | refine iteW_of (fun hq2 => ?_) (fun hq2 => ?_)
  ·have hne := hno k (by omega)
   simp (disch := omega) only [go_sem]
   refine W_drawW ?_
   simp (disch := omega) only [g1', gsV, go_sem]
   generalize hgk : gs.getD k default = g at *
   obtain ⟨u, v⟩ := g
   have l5 : decide (u = x ∧ v = y) = false := decide_eq_false (fun h => hne (by rw [h.1, h.2]))
   simp (disch := omega) only [gV, stepK_eqa2, l5, go_sem]
   exact ih2 (k + 1) _ _ (by omega) (by omega) (by simp (disch := omega) only [subT, Int.natCast_add, Int.cast_ofNat_Int, go_sem] <;> (repeat' apply And.intro) <;> first | rfl | (congr 1; omega) | assumption) rfl
  ·simp (disch := omega) only [go_sem]
   exact ih (i + 1, upd s b4 [.int .i64 x, .int .i64 y]) _ _ ⟨by simp only; omega, fun d z h => le_upd hb4 _ _ (hs _ _ h)⟩ (by simp only; omega) (by simp (disch := omega) only [subT, Int.natCast_add, Int.cast_ofNat_Int, go_sem] <;> (repeat' apply And.intro) <;> first | rfl | (congr 1; omega) | assumption) rfl
 ·simp (disch := omega) only [go_sem]
  exact W_retC c71_ok rfl (Conv.drop _ fun d x h => hs _ _ (le_upd hb1 _ _ h)) ⟨rfl, rfl⟩
theorem l04In_ok {inp : Int} {gs : List (Int × Int)} {ex : Bool} {lits : List Int} (hinp : 0 ≤ inp ∧ inp ≤ 12) (hl : gs.length ≤ 400) (hll : lits.length ≤ 4096) (hx : ∀ x ∈ lits, LitOK inp gs x) : Ret Tryz.prog Γ 72 [aigV inp gs, .isl ex 1 (ints lits)] σ (.bool true) σ := by
 have hgl := gsV_len gs
 refine ret_of c72_ok rfl ?_
 simp (disch := omega) only [c72, aigV, go_sem]
 refine SRun.boxR (by simp [ev, look, V.cells, V.one]) ?_
 intro b2 hb2
 have g2 := upd_same σ b2 [.int .i64 inp, .isl false 2 (gsV gs)]
 simp (disch := omega) only [go_sem]
 refine W_loopC (α := Nat) (fun i => i ≤ lits.length) (fun i => [(1, .isl ex 1 (ints lits)), (2, .ptr b2 0), (5, .int .i64 (i : Nat))]) (fun _ => upd σ b2 [.int .i64 inp, .isl false 2 (gsV gs)]) (fun i => lits.length - i) 0 (by omega) (by simp (disch := omega) only [subT, Int.natCast_add, Int.cast_ofNat_Int, go_sem] <;> (repeat' apply And.intro) <;> first | rfl | (congr 1; omega) | assumption) rfl ?_
 intro i hi ih
 simp (disch := omega) only [go_sem]
 first | refine iteW_dec (fun hq => ?_) (fun hq => ?_) | refine iteW_of (fun hq => ?_) (fun hq => ?_)
 ·have hlx := hx _ (getD_mem 0 (by omega : i < lits.length))
  unfold LitOK at hlx
  simp (disch := omega) only [go_sem]
  refine W_drawW ?_
  simp (disch := omega) only [g2, hgl, go_sem]
  generalize lits.getD i 0 = x at hlx ⊢
  have hbb : (decide (0 ≤ x) && decide (x ≤ 2 * (inp + gs.length) + 1)) = true := by simp; omega
  refine DRun.callQ (l01In_ok x 0 (2 * (inp + gs.length) + 1)) ⟨[], rfl, rfl⟩ ?_
  rintro r s ⟨rfl, hs⟩
  obtain rfl := hs.symm
  simp (disch := omega) only [hbb, go_sem]
  exact ih (i + 1) _ _ (by omega) (by omega) (by simp (disch := omega) only [subT, Int.natCast_add, Int.cast_ofNat_Int, go_sem] <;> (repeat' apply And.intro) <;> first | rfl | (congr 1; omega) | assumption) rfl
 ·simp (disch := omega) only [go_sem]
  exact W_retC c72_ok rfl (Conv.drop _ (le_upd hb2)) ⟨rfl, rfl⟩
theorem cnfOKb_ok {cls : List (List Int)} {vars : Int} (hs : Small cls) : Ret Tryz.prog Γ 39 [cnfV vars cls] σ (.bool (cnfB vars cls)) σ := by
 have hcl := hs.1
 refine ret_of c39_ok rfl ?_
 simp (disch := omega) only [c39, cnfV, go_sem]
 refine SRun.boxR (by simp [ev, look, V.cells, V.one]) ?_
 intro b1 hb1
 have g1 := upd_same σ b1 [.int .i64 vars, .isl false 1 (clsV cls)]
 simp (disch := omega) only [go_sem]
 refine SRun.callR (l01In_ok vars 0 40) ⟨[], rfl, rfl⟩ rfl ?_
 simp (disch := omega) only [List.getD_cons_zero, List.getD_cons_succ, go_sem]
 generalize h1 : (decide (0 ≤ vars) && decide (vars ≤ 40)) = q1
 cases q1 with
 | false =>
  simp (disch := omega) only [go_sem]
  exact W_retC c39_ok rfl (Conv.drop _ (le_upd hb1)) ⟨by simp only [cnfB, h1, Bool.false_and]; rfl, rfl⟩
 | true =>
  have hv : 0 ≤ vars ∧ vars ≤ 40 := by simpa using h1
  simp (disch := omega) only [g1, go_sem]
  first | refine iteW_dec (fun h2 => ?_) (fun h2 => ?_) | refine iteW_of (fun h2 => ?_) (fun h2 => ?_)
  ·simp (disch := omega) only [go_sem]
   have : decide (cls.length ≤ 300) = false := decide_eq_false (by omega)
   exact W_retC c39_ok rfl (Conv.drop _ (le_upd hb1)) ⟨by simp only [cnfB, this, Bool.and_false, Bool.false_and]; rfl, rfl⟩
  ·simp (disch := omega) only [go_sem]
   have h300 : decide (cls.length ≤ 300) = true := decide_eq_true (by omega)
   refine W_loopC (α := Nat) (fun i => i ≤ cls.length ∧ (cls.take i).all (clauseB vars) = true) (fun i => [(1, .ptr b1 0), (3, .int .i64 (i : Nat))]) (fun _ => upd σ b1 [.int .i64 vars, .isl false 1 (clsV cls)]) (fun i => cls.length - i) 0 ⟨by omega, rfl⟩ (by simp (disch := omega) only [subT, Int.natCast_add, Int.cast_ofNat_Int, go_sem] <;> (repeat' apply And.intro) <;> first | rfl | (congr 1; omega) | assumption) rfl ?_
   rintro i ⟨hi, hall⟩ ih
   simp (disch := omega) only [g1, go_sem]
   first | refine iteW_dec (fun hq => ?_) (fun hq => ?_) | refine iteW_of (fun hq => ?_) (fun hq => ?_)
   ·have hsome := getD_some [] (by omega : i < cls.length)
    have hsm := hs.2 _ (getD_mem [] (by omega : i < cls.length))
    simp (disch := omega) only [go_sem]
    refine W_drawW ?_
    simp (disch := omega) only [g1, intsV, go_sem]
    generalize cls.getD i [] = c at *
    refine DRun.callQ (l01Clause_ok (ex := false) (xs := c) (vars := vars) hsm (by omega)) ⟨[], rfl, rfl⟩ ?_
    rintro r s ⟨rfl, hs'⟩
    obtain rfl := hs'.symm
    generalize hcb : clauseB vars c = qc
    cases qc with
    | true =>
     simp (disch := omega) only [go_sem]
     exact ih (i + 1) _ _ ⟨by omega, all_take hall hsome hcb⟩ (by omega) (by simp (disch := omega) only [subT, Int.natCast_add, Int.cast_ofNat_Int, go_sem] <;> (repeat' apply And.intro) <;> first | rfl | (congr 1; omega) | assumption) rfl
    | false =>
     simp (disch := omega) only [go_sem]
     exact W_retC c39_ok rfl (Conv.drop _ (le_upd hb1)) ⟨by simp only [cnfB, all_false hsome hcb, Bool.and_false]; rfl, rfl⟩
   ·rw [List.take_of_length_le (by omega)] at hall
    simp (disch := omega) only [go_sem]
    exact W_retC c39_ok rfl (Conv.drop _ (le_upd hb1)) ⟨by simp only [cnfB, h1, h300, hall, Bool.and_true]; rfl, rfl⟩
end
section
attribute [local irreducible] SRun DS DRun
variable {Γ : St} {σ σ0 : St}
set_option maxHeartbeats 1000000 in
theorem Tseitins_ok {inp : Int} {gs : List (Int × Int)} {x : Int} (hinp : 0 ≤ inp ∧ inp ≤ 12) (hl : gs.length ≤ 400) (hg : GatesOK inp gs) (hx : LitOK inp gs x) : Ret Tryz.prog Γ 37 [aigV inp gs, .int .i64 x] σ (tsA inp gs x) σ := by
 have hsm := ts_small hinp.1 hg hx hl
 have hgl := gsV_len gs
 have hx' := hx
 unfold LitOK at hx'
 refine ret_of c37_ok rfl ?_
 simp (disch := omega) only [c37, aigV, go_sem]
 refine SRun.boxR (by simp [ev, look, V.cells, V.one]) ?_
 intro b2 hb2
 simp (disch := omega) only [go_sem]
 refine SRun.allocR ?_
 intro b4 hb4
 have n42 := (upd_none.1 hb4).1
 have g2 : upd (upd σ b2 [.int .i64 inp, .isl false 2 (gsV gs)]) b4 [.int .i64 0, .isl true 0 []] b2 = some [.int .i64 inp, .isl false 2 (gsV gs)] := by rw [upd_ne _ _ n42.symm, upd_same]
 have g4 : upd (upd σ b2 [.int .i64 inp, .isl false 2 (gsV gs)]) b4 [.int .i64 0, .isl true 0 []] b4 = some [.int .i64 0, .isl true 0 []] := upd_same _ _ _
 have hσ : ∀ d x, σ d = some x → d ≠ b4 ∧ upd (upd σ b2 [.int .i64 inp, .isl false 2 (gsV gs)]) b4 [.int .i64 0, .isl true 0 []] d = some x := fun d x h => ⟨fun e => by (subst e; rw [(upd_none.1 hb4).2] at h; cases h), le_upd hb4 _ _ (le_upd hb2 _ _ h)⟩
 generalize upd (upd σ b2 [.int .i64 inp, .isl false 2 (gsV gs)]) b4 [.int .i64 0, .isl true 0 []] = s1 at *
 simp (disch := omega) only [g2, go_sem]
 refine SRun.callR (AigOKs_ok (inp := inp) (gs := gs) hinp hl hg) ⟨[], rfl, rfl⟩ rfl ?_
 simp (disch := omega) only [g2, go_sem]
 refine SRun.callR (l04In_ok (inp := inp) (gs := gs) (ex := true) (lits := [x]) hinp hl (by simp) (fun y hy => by rw [List.mem_singleton.1 hy]; exact hx)) ⟨[], rfl, rfl⟩ rfl ?_
 simp (disch := omega) only [g2, hgl, go_sem]
 refine SRun.allocR ?_
 intro b6 hb6
 have n62 : b6 ≠ b2 := fun e => by subst e; rw [g2] at hb6; cases hb6
 have n64 : b6 ≠ b4 := fun e => by subst e; rw [g4] at hb6; cases hb6
 simp (disch := omega) only [go_sem]
 have own0 : OwnL (upd s1 b6 [.int .i64 (inp + gs.length), .isl true 0 []]) 1 ((tsCls inp gs 0).map rawV) (.isl true 0 []) (upd s1 b6 [.int .i64 (inp + gs.length), .isl true 0 []]) := OwnL.nil _ _
 refine W_loopC (α := Nat × V × St) (fun p => p.1 ≤ gs.length ∧ OwnL (upd s1 b6 [.int .i64 (inp + gs.length), p.2.1]) 1 ((tsCls inp gs p.1).map rawV) p.2.1 p.2.2)
  (fun p => [(1, .int .i64 x), (2, .ptr b2 0), (4, .ptr b4 0), (6, .ptr b6 0), (7, .int .i64 (p.1 : Nat))]) (fun p => p.2.2) (fun p => gs.length - p.1) (0, .isl true 0 [], _) ⟨by simp, own0⟩ (by simp (disch := omega) only [subT, Int.natCast_add, Int.cast_ofNat_Int, go_sem] <;> (repeat' apply And.intro) <;> first | rfl | (congr 1; omega) | assumption) rfl ?_
 rintro ⟨i, q, s⟩ ⟨hi, ho⟩ ih
 dsimp only at hi ho
 have gs2 := ho.get (b := b2) (c := [.int .i64 inp, .isl false 2 (gsV gs)]) (by rw [upd_ne _ _ n62.symm]; exact g2)
 have gs6 := ho.get (upd_same _ b6 _)
 have gs4 := ho.get (b := b4) (c := [.int .i64 0, .isl true 0 []]) (by rw [upd_ne _ _ n64.symm]; exact g4)
 have hq1 := ho.one
 simp (disch := omega) only [gs2, hgl, go_sem]
 first | refine iteW_dec (fun hq => ?_) (fun hq => ?_) | refine iteW_of (fun hq => ?_) (fun hq => ?_)
 ·obtain ⟨q1, q2, q3, _, _⟩ := hg i (by omega)
  have hix : inp + 1 + (i : Int) = 1 + inp + i := by omega
  simp (disch := omega) only [gs2, gsV, go_sem]
  generalize hgi : gs.getD i default = g at *
  obtain ⟨u, v⟩ := g
  dsimp only at q1 q2 q3
  have k1 := nodeL_ok (z := u) (N := inp + gs.length) q1 (by omega)
  have k2 := nodeL_ok (z := v) (N := inp + gs.length) (by omega) (by omega)
  simp (disch := omega) only [gV, go_sem]
  refine SRun.callR (l04Lit_ok (x := u) (by omega)) ⟨[], rfl, rfl⟩ rfl ?_
  simp (disch := omega) only [List.getD_cons_zero, List.getD_cons_succ, go_sem]
  simp (disch := omega) only [gs2, gsV, go_sem]
  simp (disch := omega) only [hgi, gV, go_sem]
  refine SRun.callR (l04Lit_ok (x := v) (by omega)) ⟨[], rfl, rfl⟩ rfl ?_
  simp (disch := omega) only [List.getD_cons_zero, List.getD_cons_succ, go_sem]
  simp (disch := omega) only [gs6, Int.zero_sub, hix, go_sem]
  refine SRun.appL (ys := (tsGate inp i (u, v)).map rawV) ho rfl (raw_ok _) (by rw [List.length_map, tsCls_len]; simp only [tsGate, List.length_map, List.length_cons, List.length_nil]; omega) ?_
  intro q' s8 ho8
  have hap : (tsCls inp gs i).map rawV ++ (tsGate inp i (u, v)).map rawV = (tsCls inp gs (i + 1)).map rawV := by rw [tsCls_succ, hgi, List.map_append]
  rw [hap] at ho8
  have g86 := ho8.get (upd_same _ b6 _)
  simp (disch := omega) only [g86, ho8.one, ho8.cells, go_sem]
  have ho9 := ho8.upd (c' := [.int .i64 (inp + gs.length), q']) (upd_same _ b6 _)
  rw [upd_upd] at ho9
  exact ih (i + 1, q', _) _ _ ⟨by simp only; omega, ho9⟩ (by simp only; omega) (by simp (disch := omega) only [subT, Int.natCast_add, Int.cast_ofNat_Int, gsV, go_sem] <;> (repeat' apply And.intro) <;> first | rfl | (congr 1; omega) | assumption) rfl
 ·clear ih
  have hig : i = gs.length := by omega
  rw [hig] at ho
  clear hq
  simp (disch := omega) only [go_sem]
  have hσA : ∀ d x, σ d = some x → d ≠ b4 ∧ d ≠ b6 ∧ s1 d = some x := fun d x hd => by
   obtain ⟨h4, h1⟩ := hσ d x hd
   exact ⟨h4, fun e => by (subst e; rw [h1] at hb6; cases hb6), h1⟩
  first | refine iteW_dec (fun h0 => ?_) (fun h0 => ?_) | refine iteW_of (fun h0 => ?_) (fun h0 => ?_)
  ·subst h0
   simp (disch := omega) only [gs6, go_sem]
   refine SRun.appL (ys := [.isl true 1 []]) ho rfl (by simp [V.cells, V.one]) (by rw [List.length_map, tsCls_len]; simp only [List.length_singleton]; omega) ?_
   intro q' s8 ho8
   have g86 := ho8.get (upd_same _ b6 _)
   have g84 := ho8.get (b := b4) (c := [.int .i64 0, .isl true 0 []]) (by rw [upd_ne _ _ n64.symm]; exact g4)
   simp (disch := omega) only [g86, g84, ho8.one, ho8.cells, go_sem]
   have ho9 := ho8.upd (c' := [.int .i64 (inp + gs.length), q']) (upd_same _ b6 _)
   rw [upd_upd] at ho9
   have hrow : RowC (upd s1 b6 [.int .i64 (inp + gs.length), q']) (tsP inp gs 0) q' (upd s8 b6 [.int .i64 (inp + gs.length), q']) := RowC.end (tsCls inp gs gs.length) (.isl true 1 []) [] (by simp [tsP, tsEnd]) rfl ho9 rfl fun σ σ' => frz_nil _ _
   have hF : Frz (upd s8 b6 [.int .i64 (inp + gs.length), q']) emp (.agg [.int .i64 (inp + gs.length), q']) (cnfV (inp + gs.length) (tsP inp gs 0)) := frz_agg (by exact ⟨.refl _, hrow.frz (fun _ _ => rfl) (fun _ _ => rfl), trivial⟩) (by simp [V.one])
   refine SRun.callR (Ret.lendL (cnfOKb_ok hsm) (by exact ⟨hF, trivial⟩) (Plain.bool _)) ⟨[], rfl, rfl⟩ rfl ?_
   have h86 : (upd s8 b6 [.int .i64 (inp + gs.length), q']) b6 = some [.int .i64 (inp + gs.length), q'] := upd_same _ _ _
   have h84 : (upd s8 b6 [.int .i64 (inp + gs.length), q']) b4 = some [.int .i64 0, .isl true 0 []] := by rw [upd_ne _ _ n64.symm]; exact g84
   have hone : (q').one = true := ho8.one
   have hdone := ts_done (b4 := b4) (σ := σ) rfl hrow ⟨_, g4⟩ hσA
   generalize upd s8 b6 [.int .i64 (inp + gs.length), q'] = s9 at *
   generalize hqq : cnfB (inp + gs.length) (tsP inp gs 0) = qq
   have hA : tsA inp gs 0 = bif qq then .tup [cnfV (inp + gs.length) (tsP inp gs 0), .int .i64 0] else .tup [cnfV 0 [], .int .i64 11] := by rw [← hqq]; rfl
   cases qq with
   | true =>
    simp (disch := omega) only [h84, h86, hone, go_sem]
    exact W_retC c37_ok (r := .tup [.agg [.int .i64 (inp + gs.length), q'], .int .i64 0]) (r' := .tup [cnfV (inp + gs.length) (tsP inp gs 0), .int .i64 0]) (σ' := σ) (resV_2 rfl (upd_same _ _ _) rfl) ⟨hdone.1, frz_tup (by exact ⟨hdone.2, .refl _, trivial⟩)⟩ ⟨hA.symm, rfl⟩
   | false =>
    simp (disch := omega) only [h84, go_sem]
    exact W_retC c37_ok (r := .tup [.agg [.int .i64 0, .isl true 0 []], .int .i64 11]) (r' := .tup [cnfV 0 [], .int .i64 11]) (σ' := σ) (resV_2 rfl (upd_same _ _ _) rfl) ⟨fun d y hd => by have := hdone.1 d y hd; rw [upd_ne _ _ (hσA d y hd).1] at this ⊢; exact this, frz_tup (by exact ⟨zero_frz, .refl _, trivial⟩)⟩ ⟨hA.symm, rfl⟩
  ·simp (disch := omega) only [go_sem]
   first | refine iteW_dec (fun h1 => ?_) (fun h1 => ?_) | refine iteW_of (fun h1 => ?_) (fun h1 => ?_)
   ·subst h1
    have hrow : RowC (upd s1 b6 [.int .i64 (inp + gs.length), q]) (tsP inp gs 1) q s := by
     have : tsP inp gs 1 = tsCls inp gs gs.length := by simp [tsP, tsEnd]
     rw [this]; exact RowC.of ho
    simp (disch := omega) only [gs6, go_sem]
    have hF : Frz (s) emp (.agg [.int .i64 (inp + gs.length), q]) (cnfV (inp + gs.length) (tsP inp gs 1)) := frz_agg (by exact ⟨.refl _, hrow.frz (fun _ _ => rfl) (fun _ _ => rfl), trivial⟩) (by simp [V.one])
    refine SRun.callR (Ret.lendL (cnfOKb_ok hsm) (by exact ⟨hF, trivial⟩) (Plain.bool _)) ⟨[], rfl, rfl⟩ rfl ?_
    have h86 : (s) b6 = some [.int .i64 (inp + gs.length), q] := gs6
    have h84 : (s) b4 = some [.int .i64 0, .isl true 0 []] := gs4
    have hone : (q).one = true := hq1
    have hdone := ts_done (b4 := b4) (σ := σ) rfl hrow ⟨_, g4⟩ hσA
    generalize s = s9 at *
    generalize hqq : cnfB (inp + gs.length) (tsP inp gs 1) = qq
    have hA : tsA inp gs 1 = bif qq then .tup [cnfV (inp + gs.length) (tsP inp gs 1), .int .i64 0] else .tup [cnfV 0 [], .int .i64 11] := by rw [← hqq]; rfl
    cases qq with
    | true =>
     simp (disch := omega) only [h84, h86, hone, go_sem]
     exact W_retC c37_ok (r := .tup [.agg [.int .i64 (inp + gs.length), q], .int .i64 0]) (r' := .tup [cnfV (inp + gs.length) (tsP inp gs 1), .int .i64 0]) (σ' := σ) (resV_2 rfl (upd_same _ _ _) rfl) ⟨hdone.1, frz_tup (by exact ⟨hdone.2, .refl _, trivial⟩)⟩ ⟨hA.symm, rfl⟩
    | false =>
     simp (disch := omega) only [h84, go_sem]
     exact W_retC c37_ok (r := .tup [.agg [.int .i64 0, .isl true 0 []], .int .i64 11]) (r' := .tup [cnfV 0 [], .int .i64 11]) (σ' := σ) (resV_2 rfl (upd_same _ _ _) rfl) ⟨fun d y hd => by have := hdone.1 d y hd; rw [upd_ne _ _ (hσA d y hd).1] at this ⊢; exact this, frz_tup (by exact ⟨zero_frz, .refl _, trivial⟩)⟩ ⟨hA.symm, rfl⟩
   ·refine W_drawW ?_
    refine DRun.mixE rfl ?_
    simp (disch := omega) only [gs6, go_sem]
    refine DS.callB (l04Lit_ok (x := x) (by omega)) ⟨[], rfl, rfl⟩ rfl rfl ?_
    simp (disch := omega) only [go_sem]
    refine DRun.appL (ys := [rawV [nodeL x]]) ho rfl (raw_ok [[nodeL x]]) (by rw [List.length_map, tsCls_len]; simp only [List.length_singleton]; omega) ?_
    intro q' s8 ho8
    have g86 := ho8.get (upd_same _ b6 _)
    have g84 := ho8.get (b := b4) (c := [.int .i64 0, .isl true 0 []]) (by rw [upd_ne _ _ n64.symm]; exact g4)
    simp (disch := omega) only [g86, g84, ho8.one, ho8.cells, go_sem]
    have ho9 := ho8.upd (c' := [.int .i64 (inp + gs.length), q']) (upd_same _ b6 _)
    rw [upd_upd] at ho9
    have hrow : RowC (upd s1 b6 [.int .i64 (inp + gs.length), q']) (tsP inp gs x) q' (upd s8 b6 [.int .i64 (inp + gs.length), q']) := RowC.end (tsCls inp gs gs.length) (rawV [nodeL x]) [nodeL x] (by simp [tsP, tsEnd, h0, h1]) rfl ho9 rfl fun σ σ' => rawV_frz _
    have hF : Frz (upd s8 b6 [.int .i64 (inp + gs.length), q']) emp (.agg [.int .i64 (inp + gs.length), q']) (cnfV (inp + gs.length) (tsP inp gs x)) := frz_agg (by exact ⟨.refl _, hrow.frz (fun _ _ => rfl) (fun _ _ => rfl), trivial⟩) (by simp [V.one])
    refine SRun.callR (Ret.lendL (cnfOKb_ok hsm) (by exact ⟨hF, trivial⟩) (Plain.bool _)) ⟨[], rfl, rfl⟩ rfl ?_
    have h86 : (upd s8 b6 [.int .i64 (inp + gs.length), q']) b6 = some [.int .i64 (inp + gs.length), q'] := upd_same _ _ _
    have h84 : (upd s8 b6 [.int .i64 (inp + gs.length), q']) b4 = some [.int .i64 0, .isl true 0 []] := by rw [upd_ne _ _ n64.symm]; exact g84
    have hone : (q').one = true := ho8.one
    have hdone := ts_done (b4 := b4) (σ := σ) rfl hrow ⟨_, g4⟩ hσA
    generalize upd s8 b6 [.int .i64 (inp + gs.length), q'] = s9 at *
    generalize hqq : cnfB (inp + gs.length) (tsP inp gs x) = qq
    have hA : tsA inp gs x = bif qq then .tup [cnfV (inp + gs.length) (tsP inp gs x), .int .i64 0] else .tup [cnfV 0 [], .int .i64 11] := by rw [← hqq]; rfl
    cases qq with
    | true =>
     simp (disch := omega) only [h84, h86, hone, go_sem]
     exact W_retC c37_ok (r := .tup [.agg [.int .i64 (inp + gs.length), q'], .int .i64 0]) (r' := .tup [cnfV (inp + gs.length) (tsP inp gs x), .int .i64 0]) (σ' := σ) (resV_2 rfl (upd_same _ _ _) rfl) ⟨hdone.1, frz_tup (by exact ⟨hdone.2, .refl _, trivial⟩)⟩ ⟨hA.symm, rfl⟩
    | false =>
     simp (disch := omega) only [h84, go_sem]
     exact W_retC c37_ok (r := .tup [.agg [.int .i64 0, .isl true 0 []], .int .i64 11]) (r' := .tup [cnfV 0 [], .int .i64 11]) (σ' := σ) (resV_2 rfl (upd_same _ _ _) rfl) ⟨fun d y hd => by have := hdone.1 d y hd; rw [upd_ne _ _ (hσA d y hd).1] at this ⊢; exact this, frz_tup (by exact ⟨zero_frz, .refl _, trivial⟩)⟩ ⟨hA.symm, rfl⟩
end
section
attribute [local irreducible] SRun DS DRun
variable {Γ : St} {σ σ0 : St}
theorem exC_one_T (e : Ex) : (∀ c, c ∈ exC e → c.one = true) = True := eq_true (exC_one e)
theorem sets_exC3 (e : Ex) (a b c : V) : sets [a, b, c] 0 (exC e) = exC e := by obtain ⟨k, n, ks⟩ := e; rfl
theorem sets_exC2 (e g : Ex) : sets (exC e) 0 (exC g) = exC g := by obtain ⟨k, n, ks⟩ := e; obtain ⟨k, n, ks⟩ := g; rfl
attribute [go_sem] exC_one_T sets_exC3 sets_exC2
theorem exs_take {ks : List Ex} {i : Nat} (h : i < ks.length) : exsV (ks.take i) ++ [exV (ks.getD i default)] = exsV (ks.take (i + 1)) := by rw [take_succ default h, exs_app]
theorem exs1_ok (e : Ex) : ∀ y ∈ [exV e], y.cells.length = 3 ∧ ∀ c ∈ y.cells, c.one = true := exsV_ok [e]
theorem l05Copy_ok : ∀ e, ∀ {Γ σ : St}, sizeE e ≤ 1000000 → Ret Tryz.prog Γ 29 [exV e] σ (exV e) σ := by
 refine Ex.ind fun k n ks ih Γ σ hsz => ?_
 have hlen := sizeL_len ks
 simp only [sizeE] at hsz
 refine ret_of c29_ok rfl ?_
 simp (disch := omega) only [c29, exV_mk, go_sem]
 refine SRun.boxR (by simp [ev, look, V.cells, V.one]) ?_
 intro b1 hb1
 simp (disch := omega) only [go_sem]
 refine SRun.allocR ?_
 intro b2 hb2
 have n21 := (upd_none.1 hb2).1
 have hσ : ∀ d x, σ d = some x → d ≠ b1 ∧ d ≠ b2 ∧ upd (upd σ b1 [.int .i64 k, .int .i64 n, .isl false 3 (exsV ks)]) b2 [.int .i64 0, .int .i64 0, .isl true 0 []] d = some x := fun d x h => ⟨fun e => by (subst e; rw [hb1] at h; cases h), fun e => by (subst e; rw [(upd_none.1 hb2).2] at h; cases h), le_upd hb2 _ _ (le_upd hb1 _ _ h)⟩
 have g1 : upd (upd σ b1 [.int .i64 k, .int .i64 n, .isl false 3 (exsV ks)]) b2 [.int .i64 0, .int .i64 0, .isl true 0 []] b1 = some [.int .i64 k, .int .i64 n, .isl false 3 (exsV ks)] := by rw [upd_ne _ _ n21.symm, upd_same]
 have g2 := upd_same (upd σ b1 [.int .i64 k, .int .i64 n, .isl false 3 (exsV ks)]) b2 [.int .i64 0, .int .i64 0, .isl true 0 []]
 simp (disch := omega) only [g1, go_sem]
 generalize upd (upd σ b1 [.int .i64 k, .int .i64 n, .isl false 3 (exsV ks)]) b2 [.int .i64 0, .int .i64 0, .isl true 0 []] = A0 at *
 refine SRun.allocR ?_
 intro b3 hb3
 have n31 : b3 ≠ b1 := fun e => by subst e; rw [g1] at hb3; cases hb3
 have n32 : b3 ≠ b2 := fun e => by subst e; rw [g2] at hb3; cases hb3
 simp (disch := omega) only [go_sem]
 have own0 : OwnL (upd A0 b3 [.int .i64 k, .int .i64 n, .isl true 0 []]) 3 (exsV (ks.take 0)) (.isl true 0 []) (upd A0 b3 [.int .i64 k, .int .i64 n, .isl true 0 []]) := OwnL.nil _ _
 refine W_loopC (α := Nat × V × St) (fun p => p.1 ≤ ks.length ∧ OwnL (upd A0 b3 [.int .i64 k, .int .i64 n, p.2.1]) 3 (exsV (ks.take p.1)) p.2.1 p.2.2)
  (fun p => [(1, .ptr b1 0), (2, .ptr b2 0), (3, .ptr b3 0), (4, .int .i64 (p.1 : Nat))]) (fun p => p.2.2) (fun p => ks.length - p.1) (0, .isl true 0 [], _) ⟨by simp, own0⟩ (by simp (disch := omega) only [subT, Int.natCast_add, Int.cast_ofNat_Int, go_sem] <;> (repeat' apply And.intro) <;> first | rfl | (congr 1; omega) | assumption) rfl ?_
 rintro ⟨i, t, s⟩ ⟨hi, ho⟩ ih2
 dsimp only at hi ho
 have s1 := ho.get (b := b1) (c := [.int .i64 k, .int .i64 n, .isl false 3 (exsV ks)]) (by rw [upd_ne _ _ n31.symm]; exact g1)
 have s2 := ho.get (b := b2) (c := [.int .i64 0, .int .i64 0, .isl true 0 []]) (by rw [upd_ne _ _ n32.symm]; exact g2)
 have s3 := ho.get (upd_same _ b3 _)
 have ht1 := ho.one
 simp (disch := omega) only [s1, go_sem]
 first | refine iteW_dec (fun hq => ?_) (fun hq => ?_) | refine iteW_of (fun hq => ?_) (fun hq => ?_)
 ·have he := getD_mem default (by omega : i < ks.length)
  have hs2 := sizeL_mem he
  simp (disch := omega) only [go_sem]
  refine W_drawW ?_
  refine DRun.mixE rfl ?_
  simp (disch := omega) only [s1, s3, go_sem]
  refine DS.callB (ih _ he (by omega)) ⟨[], rfl, rfl⟩ rfl rfl ?_
  simp (disch := omega) only [go_sem]
  refine DRun.appL ho rfl (exs1_ok _) (by rw [exsV_len]; simp only [List.length_take, List.length_singleton]; omega) ?_
  intro t2 s4 ho3
  rw [exs_take (by omega)] at ho3
  have s43 := ho3.get (upd_same _ b3 _)
  simp (disch := omega) only [s43, ho3.one, ho3.cells, go_sem]
  have ho4 := ho3.upd (c' := [.int .i64 k, .int .i64 n, t2]) (upd_same _ b3 _)
  rw [upd_upd] at ho4
  exact ih2 (i + 1, t2, _) _ _ ⟨by simp only; omega, ho4⟩ (by simp only; omega) (by simp (disch := omega) only [subT, Int.natCast_add, Int.cast_ofNat_Int, go_sem] <;> (repeat' apply And.intro) <;> first | rfl | (congr 1; omega) | assumption) rfl
 ·have hik : i = ks.length := by omega
  rw [hik, List.take_length] at ho
  simp (disch := omega) only [s3, s2, ht1, ho.cells, go_sem]
  refine W_retC c29_ok (r := .agg [.int .i64 k, .int .i64 n, t]) (r' := exV (.mk k n ks)) (σ' := σ) (resV_cellA rfl (upd_same _ _ _) rfl) ⟨fun d x hd => ?_, exV_conv (ho.frz (fun d hd => ?_) (fun d hd => ?_))⟩ ⟨(exV_mk _ _ _), rfl⟩
  ·obtain ⟨n1, n2, h⟩ := hσ d x hd
   have n3 : d ≠ b3 := fun e => by subst e; rw [h] at hb3; cases hb3
   rw [upd_ne _ _ n2]; exact ho.get (by rw [upd_ne _ _ n3]; exact h)
  ·have hd := upd_none.1 hd
   rw [upd_ne]
   intro e; subst e; rw [g2] at hd; cases hd.2
  ·have hd := upd_none.1 hd
   cases hc : σ d with
   | none => rfl
   | some x => rw [(hσ d x hc).2.2] at hd; cases hd.2
end
section
theorem ExD.inner6 {e : Ex} (h : ExD 6 e) : innerE e ≤ 121 := by
 have h1 := inner_le e h.right
 have h2 := h.depth
 have h3 := szB_mono (show depthE e - 1 ≤ 5 by omega)
 have h4 : szB 5 = 121 := by decide
 omega
theorem ExD.ok6 {e : Ex} (h : ExD 6 e) : okE e = true := by
 have h2 := h.depth
 have h3 := h.size
 have h4 : szB 6 = 364 := by decide
 simp only [okE, Bool.and_eq_true, decide_eq_true_eq]
 exact ⟨⟨h.right, by omega⟩, by omega⟩
theorem ExD.fit6 {e : Ex} (he : ExD 6 e) : Fit 4 [e] := by
 have h1 := he.inner6
 have h3 := he.most
 refine ⟨?_, ?_, ?_, by simp⟩
 ·intro x hx
  rw [List.mem_singleton.1 hx]
  exact he.ok6
 ·simp only [mostL]; omega
 ·simp only [innerL]; omega
/-- The formula of the opposite has a model just where the expression is false, and the least of them is its beginning. -/
theorem opposite_plain {e : Ex} (he : ExD 6 e) : ∃ l gs, makeL 4 [e] [] = ([l], gs) ∧ GatesOK 4 gs ∧ gs.length ≤ 400 ∧ LitOK 4 gs l ∧ LitOK 4 gs (notP l) ∧
  (cnfB (4 + gs.length) (tsP 4 gs (notP l)) = true → (modelP (4 + gs.length) (tsP 4 gs (notP l)) = none → ∀ i, i < 16 → evE (hiP i 4) e = true) ∧
   ∀ v, modelP (4 + gs.length) (tsP 4 gs (notP l)) = some v → (valsB v).length = 4 + gs.length ∧ ∃ j, j < 16 ∧ hiP j 4 = (valsB v).take 4 ∧ evE (hiP j 4) e = false ∧ ∀ i, i < 16 → evE (hiP i 4) e = false → j ≤ i) := by
 have hf := he.fit6
 have hr : ∀ x ∈ [e], rightE x = true := fun x hx => (okE_right (hf.ok x hx)).1
 have hok := makeL_ok (inp := 4) (fun x hx => makeP_ok (by decide) x (hr x hx)) hf.most []
 have hv := fun (vs : List Bool) (h4 : vs.length = 4) => makeL_val (vs := vs) (by decide) (by rw [h4]; rfl) hr hf.most (fun x hx => makeP_val (by decide) (by rw [h4]; rfl) x (hr x hx)) [] gates_nil
 have hin := hf.inner
 have hm : makeL 4 [e] [] = ([(makeP 4 e []).1], (makeP 4 e []).2) := by simp only [makeL]
 rw [hm] at hok hv
 dsimp only at hok hv
 generalize (makeP 4 e []).1 = l at *
 generalize (makeP 4 e []).2 = gs at *
 have hg := (hv [false, false, false, false] rfl).1
 have hl := hok.1 l (by simp)
 have hnl := notP_ok hl
 have hval : ∀ vs : List Bool, vs.length = 4 → valP (nodesP vs gs) (notP l) = !evE vs e := fun vs h4 => by
  have h := (hv vs h4).2
  have h2 : valP (nodesP vs gs) l = evE vs e := by simpa [evL] using h
  rw [valP_not hl.1, h2]
 refine ⟨l, gs, hm, hg, ?_, hl, hnl, fun hb => ?_⟩
 ·have := hok.2.2.1
  simp only [List.length_nil] at this
  omega
 obtain ⟨hc, hv0, hv40, hcl⟩ := clsOK_of hb
 have hext : ∀ i, i < 16 → evalB (tsP 4 gs (notP l)) ((nodesP (hiP i 4) gs).drop 1) = !evE (hiP i 4) e := fun i _ => by
  have h4 : (hiP i 4).length = 4 := by simp [hiP]
  rw [ts_ext (by decide) (by rw [h4]; rfl) hg hnl, hval _ h4]
 obtain ⟨s1, s2⟩ := modelP_spec hv0 hc
 refine ⟨fun hn i hi => ?_, fun v hs => ?_⟩
 ·have := hext i hi
  rw [s1 hn _] at this
  simpa using this.symm
 ·obtain ⟨m1, m2⟩ := s2 v hs
  have hlen : (valsB v).length = 4 + gs.length := by omega
  have ho := ts_only (x := notP l) (by decide : (0 : Int) ≤ 4) hg m2 m1 gs.length (Nat.le_refl _)
  rw [List.take_length] at ho
  have h4n : (4 : Int).toNat = 4 := rfl
  rw [h4n, List.take_of_length_le (show (valsB v).length ≤ 4 + gs.length by omega)] at ho
  have ht4 : ((valsB v).take 4).length = 4 := by rw [List.length_take]; omega
  have hj := hi_numH (N := 4) (by omega) ht4
  have hjl : numH ((valsB v).take 4) < 16 := by have := numH_pow ((valsB v).take 4); rw [ht4] at this; exact this
  refine ⟨hlen, numH ((valsB v).take 4), hjl, hj, ?_, fun i hi hie => ?_⟩
  ·have := hext _ hjl
   rw [hj, ho] at this
   rw [List.drop_succ_cons, List.drop_zero, m1] at this
   rw [hj]
   simpa using this.symm
  ·have hie2 := hext i hi
   rw [hie] at hie2
   have hdl : ((nodesP (hiP i 4) gs).drop 1).length = 4 + gs.length := by rw [List.length_drop, nodesP_len]; simp [hiP]
   have hle := modelP_least hv0 hc hs _ (by rw [hdl]; omega) hie2
   have e1 : numH (valsB v) = numH ((valsB v).take 4) * 2 ^ gs.length + numH ((valsB v).drop 4) := by
    have := numH_app ((valsB v).take 4) ((valsB v).drop 4)
    rw [List.take_append_drop, List.length_drop, hlen, show 4 + gs.length - 4 = gs.length by omega] at this
    exact this
   have hpre : hiP i 4 = ((nodesP (hiP i 4) gs).drop 1).take 4 := by
    have h := nodesP_app (hiP i 4) [] gs
    rw [List.nil_append] at h
    obtain ⟨t, ht⟩ := h
    rw [← ht]
    show hiP i 4 = (hiP i 4 ++ t).take 4
    rw [List.take_left' (by simp [hiP])]
   have e2 : numH ((nodesP (hiP i 4) gs).drop 1) = i * 2 ^ gs.length + numH (((nodesP (hiP i 4) gs).drop 1).drop 4) := by
    have := numH_app (((nodesP (hiP i 4) gs).drop 1).take 4) (((nodesP (hiP i 4) gs).drop 1).drop 4)
    rw [List.take_append_drop, ← hpre, numH_hi (by omega) (by omega), List.length_drop, hdl, show 4 + gs.length - 4 = gs.length by omega] at this
    exact this
   have e3 := numH_pow (((nodesP (hiP i 4) gs).drop 1).drop 4)
   rw [List.length_drop, hdl, show 4 + gs.length - 4 = gs.length by omega] at e3
   rcases Nat.lt_or_ge i (numH ((valsB v).take 4)) with h | h
   ·exfalso
    have : (i + 1) * 2 ^ gs.length ≤ numH ((valsB v).take 4) * 2 ^ gs.length := Nat.mul_le_mul_right _ h
    rw [Nat.add_mul, Nat.one_mul] at this
    omega
   ·exact h
/-- What is answered of an expression: whether it is proved, values, steps, a code. -/
structure Ans where
 valid : Bool
 vals : List Bool
 steps : List (Bool × List Int)
 code : Int
def proveA (vars : Int) (cls : List (List Int)) : Ans := bif cnfB vars cls then (match modelP vars cls with
  | some v => ⟨false, (valsB v).take 4, [], 0⟩
  | none => bif (refA vars cls).2 == 0 then ⟨true, [], (refA vars cls).1, 0⟩ else ⟨false, [], [], (refA vars cls).2⟩) else ⟨false, [], [], 11⟩
end
end Go.Proofs.YtlidjjjpjndneaaGreat.Lg
