/- What is told of the functions that are reached, as far as it is asked here. -/
import Derived.Test.YtdenfjbhkdhlkaaKv5
import Derived.KernelRfl
set_option linter.unusedSimpArgs false
set_option linter.unusedVariables false
namespace Go.Proofs.Ytdenfjbhkdhlkaa.Lg
open Go
section
attribute [local irreducible] SRun DS DRun
variable {Γ : St} {σ σ0 : St}
theorem OwnL.shrink {A A' : St} {es : Nat} {xs : List V} {q : V} (h : OwnL A es xs q σ) (hle : ∀ d x, A' d = some x → A d = some x) : ∃ σ', (∀ d x, σ' d = some x → σ d = some x) ∧ OwnL A' es xs q σ' := by
 rcases h.1 with ⟨hc, hl, rfl, es', rfl⟩ | ⟨b2, cap, hb, rfl, rfl, h4⟩
 ·exact ⟨A', hle, .inl ⟨hc, hl, rfl, es', rfl⟩, h.2⟩
 ·have hb' : A' b2 = none := by
   cases hc : A' b2 with
   | none => rfl
   | some x => rw [hle _ _ hc] at hb; cases hb
  exact ⟨Lg.upd A' b2 (flat xs), le_under hle, .inr ⟨b2, cap, hb', rfl, rfl, h4⟩, h.2⟩
section
variable {A : St} {b : Nat} {inp : Int} {gs : List (Int × Int)}
theorem Mk.blk (h : Mk A b inp gs σ) : ∃ q, σ b = some [.int .i64 inp, q] := by
 obtain ⟨q, h⟩ := h; exact ⟨q, h.get (upd_same _ _ _)⟩
theorem Mk.ext (h : Mk A b inp gs σ) {b3 : Nat} {z : List V} (hb : σ b3 = none) : Mk (upd A b3 z) b inp gs (upd σ b3 z) ∧ b3 ≠ b := by
 obtain ⟨q0, h0⟩ := h.blk
 have hne : b3 ≠ b := fun e => by subst e; rw [h0] at hb; cases hb
 obtain ⟨q, h⟩ := h
 have h' := h.ext (z := z) hb
 rw [upd_comm _ hne.symm] at h'
 exact ⟨⟨q, h'⟩, hne⟩
theorem Mk.get (h : Mk A b inp gs σ) {d : Nat} {x : List V} (hd : d ≠ b) (hA : A d = some x) : σ d = some x := by
 obtain ⟨q, h⟩ := h; exact h.get (by rw [upd_ne _ _ hd]; exact hA)
theorem Mk.upd (h : Mk A b inp gs σ) {d : Nat} {x z : List V} (hd : d ≠ b) (hA : A d = some x) : Mk (Lg.upd A d z) b inp gs (Lg.upd σ d z) := by
 obtain ⟨q, h⟩ := h
 have h' := h.upd (b := d) (c := x) (c' := z) (by rw [upd_ne _ _ hd]; exact hA)
 rw [upd_comm _ hd.symm] at h'
 exact ⟨q, h'⟩
theorem Mk.shrink (h : Mk A b inp gs σ) {A' : St} (hle : ∀ d x, d ≠ b → A' d = some x → A d = some x) : ∃ σ', (∀ d x, σ' d = some x → σ d = some x) ∧ Mk A' b inp gs σ' := by
 obtain ⟨q, h⟩ := h
 obtain ⟨σ', h1, h2⟩ := h.shrink (A' := Lg.upd A' b [.int .i64 inp, q]) (fun d x hd => by
  by_cases e : d = b
  ·subst e; rw [upd_same] at hd ⊢; exact hd
  ·rw [upd_ne _ _ e] at hd ⊢; exact hle _ _ e hd)
 exact ⟨σ', h1, q, h2⟩
end
def arr3 (L : List Int) : List V := [.int .i64 (L.getD 0 0), .int .i64 (L.getD 1 0), .int .i64 (L.getD 2 0)]
theorem arr3_set {L : List Int} {v : Int} (h : L.length < 3) : (arr3 L).set L.length (.int .i64 v) = arr3 (L ++ [v]) := by
 match L, h with
 | [], _ => rfl
 | [a], _ => rfl
 | [a, b], _ => rfl
theorem makeL_drop {inp : Int} {ks : List Ex} {i : Nat} {gs : List (Int × Int)} (h : i < ks.length) : makeL inp (ks.drop i) gs = ((makeP inp (ks.getD i default) gs).1 :: (makeL inp (ks.drop (i + 1)) (makeP inp (ks.getD i default) gs).2).1, (makeL inp (ks.drop (i + 1)) (makeP inp (ks.getD i default) gs).2).2) := by
 rw [drop_cons default h]; rfl
theorem innerL_drop {ks : List Ex} {i : Nat} (h : i < ks.length) : innerL (ks.drop i) = innerE (ks.getD i default) + innerL (ks.drop (i + 1)) := by
 rw [drop_cons default h]; rfl
set_option maxHeartbeats 1000000 in
theorem build_mk {inp : Int} (hinp : 0 ≤ inp ∧ inp ≤ 12) : ∀ e, ∀ {Γ σ A : St} {b : Nat} {gs : List (Int × Int)}, rightE e = true → Mk A b inp gs σ → mostE e < inp → gs.length + 3 * innerE e ≤ 90000 →
  ACalls Try.prog Γ 57 [.ptr b 0, exV e] σ fun r σ' => r = .int .i64 (makeP inp e gs).1 ∧ Mk A b inp (makeP inp e gs).2 σ' := by
 refine Ex.ind fun k n ks ih Γ σ A b gs hr hm hmost hgl => ?_
 have hk := right_kids hr
 have hkinds := kinds hr
 have har := arity_le k
 simp only [mostE, innerE] at hmost hgl
 have hlen : ks.length ≤ 3 := by
  rcases hkinds with ⟨_, rfl, _⟩ | ⟨_, rfl, _⟩ | ⟨_, _, _, hl⟩
  ·simp
  ·simp
  ·omega
 have hLL := makeL_ok (inp := inp) (fun e he => makeP_ok hinp.1 e (hk e he)) (by omega) gs
 refine acalls_W c57_ok rfl ?_
 simp (disch := omega) only [c57, exV_mk, go_sem]
 refine SRun.boxR (by simp [ev, look, V.cells, V.one]) ?_
 intro b3 hb3
 obtain ⟨hm3, n3⟩ := hm.ext (z := [.int .i64 k, .int .i64 n, .isl false 3 (exsV ks)]) hb3
 simp (disch := omega) only [go_sem]
 refine SRun.allocR ?_
 intro b5 hb5
 have n53 := (upd_none.1 hb5).1
 obtain ⟨hm5, n5⟩ := hm3.ext (z := [.int .i64 0, .int .i64 0, .int .i64 0]) hb5
 have g3 := hm5.get n3 (by rw [upd_ne _ _ n53.symm, upd_same])
 have hle : ∀ d x, d ≠ b → A d = some x → upd (upd A b3 [.int .i64 k, .int .i64 n, .isl false 3 (exsV ks)]) b5 [.int .i64 0, .int .i64 0, .int .i64 0] d = some x := by
  intro d x hd hA
  have hσ := hm.get hd hA
  have h3 : d ≠ b3 := fun e => by subst e; rw [hσ] at hb3; cases hb3
  have h5 : d ≠ b5 := fun e => by subst e; rw [le_upd hb3 _ _ hσ] at hb5; cases hb5
  rw [upd_ne _ _ h5, upd_ne _ _ h3]; exact hA
 have A3 : upd (upd A b3 [.int .i64 k, .int .i64 n, .isl false 3 (exsV ks)]) b5 [.int .i64 0, .int .i64 0, .int .i64 0] b3 = some [.int .i64 k, .int .i64 n, .isl false 3 (exsV ks)] := by rw [upd_ne _ _ n53.symm, upd_same]
 have A5 : upd (upd A b3 [.int .i64 k, .int .i64 n, .isl false 3 (exsV ks)]) b5 [.int .i64 0, .int .i64 0, .int .i64 0] b5 = some (arr3 []) := by rw [upd_same]; rfl
 simp (disch := omega) only [g3, exC_mk, go_sem]
 refine W_loopC (α := List Int × List (Int × Int) × St × St) (fun p => p.1.length ≤ ks.length ∧ Mk p.2.2.1 b inp p.2.1 p.2.2.2 ∧ makeL inp ks gs = (p.1 ++ (makeL inp (ks.drop p.1.length) p.2.1).1, (makeL inp (ks.drop p.1.length) p.2.1).2) ∧ p.2.1.length + 3 * innerL (ks.drop p.1.length) ≤ gs.length + 3 * innerL ks ∧
   p.2.2.1 b3 = some [.int .i64 k, .int .i64 n, .isl false 3 (exsV ks)] ∧ p.2.2.1 b5 = some (arr3 p.1) ∧ ∀ d x, d ≠ b → A d = some x → p.2.2.1 d = some x)
  (fun p => [(0, .ptr b 0), (3, .ptr b3 0), (5, .ptr b5 0), (11, .isl false 3 (exsV ks)), (12, .int .i64 ks.length), (13, .int .i64 (p.1.length : Nat))]) (fun p => p.2.2.2) (fun p => ks.length - p.1.length) ([], gs, upd (upd A b3 [.int .i64 k, .int .i64 n, .isl false 3 (exsV ks)]) b5 [.int .i64 0, .int .i64 0, .int .i64 0], upd (upd σ b3 [.int .i64 k, .int .i64 n, .isl false 3 (exsV ks)]) b5 [.int .i64 0, .int .i64 0, .int .i64 0]) ⟨by simp, hm5, by simp, by simp, A3, A5, hle⟩ (by simp (disch := omega) only [subT, Int.natCast_add, Int.cast_ofNat_Int, go_sem] <;> (repeat' apply And.intro) <;> first | rfl | (congr 1; omega) | assumption) rfl ?_
 rintro ⟨L, g2, A2, s⟩ ⟨hL, hmk, hmake, hin, a3, a5, hle2⟩ ih2
 dsimp only at hL hmk hmake hin a3 a5 hle2
 have s3 := hmk.get n3 a3
 have s5 := hmk.get n5 a5
 simp (disch := omega) only [go_sem]
 first | refine iteW_dec (fun hq => ?_) (fun hq => ?_) | refine iteW_of (fun hq => ?_) (fun hq => ?_)
 ·have he := getD_mem default (by omega : L.length < ks.length)
  rw [makeL_drop (by omega)] at hmake
  rw [innerL_drop (by omega)] at hin
  have hmE := mostL_mem he
  have hc1 := exC_one (ks.getD L.length default)
  simp (disch := omega) only [go_sem]
  refine SRun.allocR ?_
  intro b7 hb7
  obtain ⟨hm7, n7⟩ := hmk.ext (z := exC (ks.getD L.length default)) hb7
  have hA7 : A2 b7 = none := by
   cases hc : A2 b7 with
   | none => rfl
   | some x => rw [hmk.get n7 hc] at hb7; cases hb7
  simp (disch := omega) only [hc1, go_sem]
  refine SRun.callQ (ih _ he (hk _ he) hm7 (by omega) (by omega)) ⟨[], rfl, rfl⟩ rfl ?_
  rintro r s8 ⟨rfl, hm8⟩
  have a5' : upd A2 b7 (exC (ks.getD L.length default)) b5 = some (arr3 L) := le_upd hA7 _ _ a5
  have s85 := hm8.get n5 a5'
  have al : (arr3 L).length = 3 := rfl
  have hm9 := hm8.upd n5 a5' (z := arr3 (L ++ [(makeP inp (ks.getD L.length default) g2).1]))
  simp (disch := omega) only [s85, go_sem]
  rw [arr3_set (by omega)]
  refine ih2 (L ++ [(makeP inp (ks.getD L.length default) g2).1], (makeP inp (ks.getD L.length default) g2).2, upd (upd A2 b7 (exC (ks.getD L.length default))) b5 (arr3 (L ++ [(makeP inp (ks.getD L.length default) g2).1])), upd s8 b5 (arr3 (L ++ [(makeP inp (ks.getD L.length default) g2).1]))) _ _ ⟨by simp only [List.length_append, List.length_singleton]; omega, hm9, ?_, ?_, ?_, upd_same _ _ _, ?_⟩ (by simp only [List.length_append, List.length_singleton]; omega) (by simp (disch := omega) only [subT, Int.natCast_add, Int.cast_ofNat_Int, List.length_append, List.length_singleton, go_sem] <;> (repeat' apply And.intro) <;> first | rfl | (congr 1; omega) | assumption) rfl
  ·simp only [List.length_append, List.length_singleton]; rw [hmake]; simp
  ·simp only [List.length_append, List.length_singleton]
   have := (makeP_ok hinp.1 _ (hk _ he) g2 (by omega)).2.2
   omega
  ·show upd (upd A2 b7 (exC (ks.getD L.length default))) b5 _ b3 = _
   rw [upd_ne _ _ n53.symm]; exact le_upd hA7 _ _ a3
  ·intro d x hd hA
   show upd (upd A2 b7 (exC (ks.getD L.length default))) b5 _ d = _
   have h2 := hle2 _ _ hd hA
   by_cases e5 : d = b5
   ·subst e5
    exfalso
    rw [le_upd hb3 _ _ (hm.get hd hA)] at hb5; cases hb5
   ·rw [upd_ne _ _ e5]; exact le_upd hA7 _ _ h2
 ·have hLk : L.length = ks.length := by omega
  have hg2 : g2.length ≤ 90000 := by split at hgl <;> omega
  rw [hLk, List.drop_length] at hmake
  simp only [makeL, List.append_nil] at hmake
  rw [hmake] at hLL
  have hlit := hLL.1
  obtain ⟨s9, hle9, hm9⟩ := hmk.shrink hle2
  rcases hkinds with ⟨rfl, rfl, h0, h1⟩ | ⟨rfl, rfl, h0⟩ | ⟨h3, h7, rfl, hl⟩
  ·simp only [makeP, ↓reduceIte]
   simp only [makeL] at hmake
   obtain ⟨rfl, rfl⟩ := Prod.mk.inj hmake
   simp (disch := omega) only [s3, exC_mk, go_sem]
   exact W_retC c57_ok (r := .int .i64 (2 * n + 2)) (r' := .int .i64 (2 * n + 2)) (σ' := s9) rfl (Conv.drop _ hle9) ⟨rfl, hm9⟩
  ·simp only [makeP, ↓reduceIte, Int.reduceEq]
   simp only [makeL] at hmake
   obtain ⟨rfl, rfl⟩ := Prod.mk.inj hmake
   simp (disch := omega) only [s3, exC_mk, go_sem]
   exact W_retC c57_ok (r := .int .i64 n) (r' := .int .i64 n) (σ' := s9) rfl (Conv.drop _ hle9) ⟨rfl, hm9⟩
  ·have hmp : makeP inp (.mk k 0 ks) gs = opP inp k L g2 := by
    simp only [makeP]; rw [if_neg (by omega), if_neg (by omega), hmake]
   rw [hmp]
   have hkk : k = 3 ∨ k = 4 ∨ k = 5 ∨ k = 6 ∨ k = 7 := by omega
   rcases hkk with rfl | rfl | rfl | rfl | rfl
   ·have h0 : LitOK inp g2 (L.getD 0 0) := hlit _ (getD_mem 0 (by rw [hLk]; simp [arity] at hl; omega))
    have h0' := h0
    unfold LitOK at h0'
    have e0 := xor1 (y := L.getD 0 0) (by omega) (by omega)
    simp (disch := omega) only [s3, s5, exC_mk, arr3, e0, go_sem]
    exact W_retC c57_ok (r := .int .i64 (notP (L.getD 0 0))) (r' := .int .i64 (notP (L.getD 0 0))) (σ' := s9) rfl (Conv.drop _ hle9) ⟨rfl, hm9⟩
   ·have h0 : LitOK inp g2 (L.getD 0 0) := hlit _ (getD_mem 0 (by rw [hLk]; simp [arity] at hl; omega))
    have h1 : LitOK inp g2 (L.getD 1 0) := hlit _ (getD_mem 0 (by rw [hLk]; simp [arity] at hl; omega))
    simp (disch := omega) only [s3, s5, exC_mk, arr3, go_sem]
    refine SRun.callQ (and_mk hmk h0 h1 (by omega) (by omega)) ⟨[], rfl, rfl⟩ rfl ?_
    rintro r t1 ⟨rfl, hm1⟩
    obtain ⟨t9, hlt9, hn9⟩ := hm1.shrink hle2
    simp (disch := omega) only [go_sem]
    exact W_retC c57_ok (r := .int .i64 _) (r' := .int .i64 _) (σ' := t9) rfl (Conv.drop _ hlt9) ⟨rfl, hn9⟩
   ·have h0 : LitOK inp g2 (L.getD 0 0) := hlit _ (getD_mem 0 (by rw [hLk]; simp [arity] at hl; omega))
    have h1 : LitOK inp g2 (L.getD 1 0) := hlit _ (getD_mem 0 (by rw [hLk]; simp [arity] at hl; omega))
    simp (disch := omega) only [s3, s5, exC_mk, arr3, go_sem]
    refine SRun.callQ (or_mk hmk h0 h1 (by omega) (by omega)) ⟨[], rfl, rfl⟩ rfl ?_
    rintro r t1 ⟨rfl, hm1⟩
    obtain ⟨t9, hlt9, hn9⟩ := hm1.shrink hle2
    simp (disch := omega) only [go_sem]
    exact W_retC c57_ok (r := .int .i64 _) (r' := .int .i64 _) (σ' := t9) rfl (Conv.drop _ hlt9) ⟨rfl, hn9⟩
   ·have h0 : LitOK inp g2 (L.getD 0 0) := hlit _ (getD_mem 0 (by rw [hLk]; simp [arity] at hl; omega))
    have h1 : LitOK inp g2 (L.getD 1 0) := hlit _ (getD_mem 0 (by rw [hLk]; simp [arity] at hl; omega))
    have h0' := h0
    have h1' := h1
    unfold LitOK at h0' h1'
    have e0 := xor1 (y := L.getD 0 0) (by omega) (by omega)
    have e1 := xor1 (y := L.getD 1 0) (by omega) (by omega)
    simp (disch := omega) only [s3, s5, exC_mk, arr3, e1, go_sem]
    obtain ⟨p1, p2, p3⟩ := andP_ok hinp.1 h0 (notP_ok h1)
    refine SRun.callQ (and_mk hmk h0 (notP_ok h1) (by omega) (by omega)) ⟨[], rfl, rfl⟩ rfl ?_
    rintro r t1 ⟨rfl, hm1⟩
    have t15 := hm1.get n5 a5
    simp (disch := omega) only [t15, arr3, e0, go_sem]
    obtain ⟨q1, q2, q3⟩ := andP_ok hinp.1 ((notP_ok h0).mono p2) (h1.mono p2)
    refine SRun.callQ (and_mk hm1 ((notP_ok h0).mono p2) (h1.mono p2) (by omega) (by omega)) ⟨[], rfl, rfl⟩ rfl ?_
    rintro r t2 ⟨rfl, hm2⟩
    simp (disch := omega) only [go_sem]
    refine SRun.callQ (or_mk hm2 (p1.mono q2) q1 (by omega) (by omega)) ⟨[], rfl, rfl⟩ rfl ?_
    rintro r t3 ⟨rfl, hm3⟩
    obtain ⟨t9, hlt9, hn9⟩ := hm3.shrink hle2
    simp (disch := omega) only [go_sem]
    exact W_retC c57_ok (r := .int .i64 _) (r' := .int .i64 _) (σ' := t9) rfl (Conv.drop _ hlt9) ⟨rfl, hn9⟩
   ·have h0 : LitOK inp g2 (L.getD 0 0) := hlit _ (getD_mem 0 (by rw [hLk]; simp [arity] at hl; omega))
    have h1 : LitOK inp g2 (L.getD 1 0) := hlit _ (getD_mem 0 (by rw [hLk]; simp [arity] at hl; omega))
    have h2 : LitOK inp g2 (L.getD 2 0) := hlit _ (getD_mem 0 (by rw [hLk]; simp [arity] at hl; omega))
    have h0' := h0
    unfold LitOK at h0'
    have e0 := xor1 (y := L.getD 0 0) (by omega) (by omega)
    simp (disch := omega) only [s3, s5, exC_mk, arr3, go_sem]
    obtain ⟨p1, p2, p3⟩ := andP_ok hinp.1 h0 h1
    refine SRun.callQ (and_mk hmk h0 h1 (by omega) (by omega)) ⟨[], rfl, rfl⟩ rfl ?_
    rintro r t1 ⟨rfl, hm1⟩
    have t15 := hm1.get n5 a5
    simp (disch := omega) only [t15, arr3, e0, go_sem]
    obtain ⟨q1, q2, q3⟩ := andP_ok hinp.1 ((notP_ok h0).mono p2) (h2.mono p2)
    refine SRun.callQ (and_mk hm1 ((notP_ok h0).mono p2) (h2.mono p2) (by omega) (by omega)) ⟨[], rfl, rfl⟩ rfl ?_
    rintro r t2 ⟨rfl, hm2⟩
    simp (disch := omega) only [go_sem]
    refine SRun.callQ (or_mk hm2 (p1.mono q2) q1 (by omega) (by omega)) ⟨[], rfl, rfl⟩ rfl ?_
    rintro r t3 ⟨rfl, hm3⟩
    obtain ⟨t9, hlt9, hn9⟩ := hm3.shrink hle2
    simp (disch := omega) only [go_sem]
    exact W_retC c57_ok (r := .int .i64 _) (r' := .int .i64 _) (σ' := t9) rfl (Conv.drop _ hlt9) ⟨rfl, hn9⟩
end
section
attribute [local irreducible] SRun DS DRun
variable {Γ : St} {σ σ0 : St}
theorem own_swap {A B C : St} {e1 e2 : Nat} {xs ys : List V} {p q : V} (h1 : OwnL A e1 xs p B) (h2 : OwnL B e2 ys q C) : ∃ B', OwnL A e2 ys q B' ∧ OwnL B' e1 xs p C := by
 rcases h1.1 with ⟨a1, a2, a3, a4⟩ | ⟨b1, c1, a1, a2, a3, a4⟩
 ·subst a3
  exact ⟨C, h2, .inl ⟨a1, a2, rfl, a4⟩, h1.2⟩
 ·subst a3
  rcases h2.1 with ⟨d1, d2, d3, d4⟩ | ⟨b2, c2, d1, d2, d3, d4⟩
  ·subst d3
   exact ⟨A, ⟨.inl ⟨d1, d2, rfl, d4⟩, h2.2⟩, h1⟩
  ·subst d3
   have hn := upd_none.1 d1
   refine ⟨upd A b2 (flat ys), ⟨.inr ⟨b2, c2, hn.2, d2, rfl, d4⟩, h2.2⟩, .inr ⟨b1, c1, upd_none.2 ⟨hn.1.symm, a1⟩, a2, ?_, a4⟩, h1.2⟩
   rw [upd_comm _ hn.1.symm]
/-- A circuit that is made, and a row of numbers beside it. -/
def Mk2 (A : St) (b : Nat) (inp : Int) (gs : List (Int × Int)) (L : List Int) (t : V) (s : St) : Prop := ∃ q B, OwnL (upd A b [.int .i64 inp, q]) 1 (ints L) t B ∧ OwnL B 2 (gsV gs) q s
section
variable {A : St} {b : Nat} {inp : Int} {gs : List (Int × Int)} {L : List Int} {t : V} {s : St}
theorem Mk2.start (h : Mk A b inp gs s) (e : Nat) : Mk2 A b inp gs [] (.isl true e []) s := by
 obtain ⟨q, h⟩ := h; exact ⟨q, _, OwnL.nil _ _, h⟩
theorem Mk2.mk (h : Mk2 A b inp gs L t s) : ∃ B, Mk B b inp gs s ∧ ∀ gs' s', Mk B b inp gs' s' → Mk2 A b inp gs' L t s' := by
 obtain ⟨q, B, h1, h2⟩ := h
 have hB := h1.get (upd_same _ _ _)
 refine ⟨B, ⟨q, by rw [upd_self _ hB]; exact h2⟩, ?_⟩
 rintro gs' s' ⟨q', h3⟩
 have h4 := h1.upd (c' := [.int .i64 inp, q']) (upd_same _ b _)
 rw [upd_upd] at h4
 exact ⟨q', _, h4, h3⟩
theorem Mk2.app (h : Mk2 A b inp gs L t s) : ∃ B, OwnL B 1 (ints L) t s ∧ Mk A b inp gs B ∧ ∀ L' t' s', OwnL B 1 (ints L') t' s' → Mk2 A b inp gs L' t' s' := by
 obtain ⟨q, B, h1, h2⟩ := h
 obtain ⟨B', h3, h4⟩ := own_swap h1 h2
 refine ⟨B', h4, ⟨q, h3⟩, fun L' t' s' h5 => ?_⟩
 obtain ⟨B2, h6, h7⟩ := own_swap h3 h5
 exact ⟨q, B2, h6, h7⟩
theorem Mk2.get (h : Mk2 A b inp gs L t s) {d : Nat} {x : List V} (hd : d ≠ b) (hA : A d = some x) : s d = some x := by
 obtain ⟨B, h1, h2, _⟩ := h.app
 exact h1.get (h2.get hd hA)
theorem Mk2.row (h : Mk2 A b inp gs L t s) (hne : L ≠ []) : ∃ bq cap, t = .msl bq 1 0 (ints L).length cap ∧ s bq = some (ints L) := by
 obtain ⟨B, h1, _, _⟩ := h.app
 obtain ⟨bq, cap, e1, e2, _⟩ := h1.at (fun e => hne (by have := congrArg List.length e; rw [ints_len] at this; exact List.eq_nil_of_length_eq_zero this))
 rw [flat_one (ints_one L)] at e2
 exact ⟨bq, cap, e1, e2⟩
end
set_option maxHeartbeats 1000000 in
theorem make_mk {inp : Int} (hinp : 0 ≤ inp ∧ inp ≤ 12) : ∀ e, ∀ {Γ σ A : St} {b : Nat} {gs : List (Int × Int)}, rightE e = true → Mk A b inp gs σ → mostE e < inp → gs.length + 3 * innerE e ≤ 90000 →
  ACalls Try.prog Γ 47 [.ptr b 0, exV e] σ fun r σ' => r = .int .i64 (makeP inp e gs).1 ∧ Mk A b inp (makeP inp e gs).2 σ' := by
 refine Ex.ind fun k n ks ih Γ σ A b gs hr hm hmost hgl => ?_
 have hk := right_kids hr
 have hkinds := kinds hr
 have har := arity_le k
 simp only [mostE, innerE] at hmost hgl
 have hlen : ks.length ≤ 3 := by
  rcases hkinds with ⟨_, rfl, _⟩ | ⟨_, rfl, _⟩ | ⟨_, _, _, hl⟩
  ·simp
  ·simp
  ·omega
 have hLL := makeL_ok (inp := inp) (fun e he => makeP_ok hinp.1 e (hk e he)) (by omega) gs
 refine acalls_W c47_ok rfl ?_
 simp (disch := omega) only [c47, exV_mk, go_sem]
 refine SRun.boxR (by simp [ev, look, V.cells, V.one]) ?_
 intro b3 hb3
 obtain ⟨hm3, n3⟩ := hm.ext (z := [.int .i64 k, .int .i64 n, .isl false 3 (exsV ks)]) hb3
 have A3 : upd A b3 [.int .i64 k, .int .i64 n, .isl false 3 (exsV ks)] b3 = some [.int .i64 k, .int .i64 n, .isl false 3 (exsV ks)] := upd_same _ _ _
 have hle2 : ∀ d x, d ≠ b → A d = some x → upd A b3 [.int .i64 k, .int .i64 n, .isl false 3 (exsV ks)] d = some x := by
  intro d x hd hA
  have hσ := hm.get hd hA
  have h3 : d ≠ b3 := fun e => by subst e; rw [hσ] at hb3; cases hb3
  rw [upd_ne _ _ h3]; exact hA
 generalize upd A b3 [.int .i64 k, .int .i64 n, .isl false 3 (exsV ks)] = A2 at *
 rcases hkinds with ⟨rfl, rfl, h0, h1⟩ | ⟨rfl, rfl, h0⟩ | ⟨h3, h7, rfl, hl⟩
 ·obtain ⟨s9, hle9, hm9⟩ := hm3.shrink hle2
  simp only [makeP, ↓reduceIte]
  simp (disch := omega) only [exC_mk, go_sem]
  exact W_retC c47_ok (r := .int .i64 (2 * (n + 1))) (r' := .int .i64 (2 * (n + 1))) (σ' := s9) rfl (Conv.drop _ hle9) ⟨by rw [Int.mul_add]; rfl, hm9⟩
 ·obtain ⟨s9, hle9, hm9⟩ := hm3.shrink hle2
  simp only [makeP, ↓reduceIte, Int.reduceEq]
  simp (disch := omega) only [exC_mk, go_sem]
  exact W_retC c47_ok (r := .int .i64 n) (r' := .int .i64 n) (σ' := s9) rfl (Conv.drop _ hle9) ⟨rfl, hm9⟩
 ·have hk1 : ¬ k = 1 := by omega
  have hk2 : ¬ k = 2 := by omega
  have hgl' : gs.length + 3 * innerL ks ≤ 90000 := by split at hgl <;> omega
  simp (disch := omega) only [exC_mk, go_sem]
  refine W_loopC (α := List Int × List (Int × Int) × V × St) (fun p => p.1.length ≤ ks.length ∧ Mk2 A2 b inp p.2.1 p.1 p.2.2.1 p.2.2.2 ∧ makeL inp ks gs = (p.1 ++ (makeL inp (ks.drop p.1.length) p.2.1).1, (makeL inp (ks.drop p.1.length) p.2.1).2) ∧ p.2.1.length + 3 * innerL (ks.drop p.1.length) ≤ gs.length + 3 * innerL ks)
   (fun p => [(0, .ptr b 0), (3, .ptr b3 0), (5, p.2.2.1), (6, .int .i64 (p.1.length : Nat))]) (fun p => p.2.2.2) (fun p => ks.length - p.1.length) ([], gs, .isl true 1 [], _) ⟨by simp, Mk2.start hm3 1, by simp, by simp⟩ (by simp (disch := omega) only [subT, Int.natCast_add, Int.cast_ofNat_Int, go_sem] <;> (repeat' apply And.intro) <;> first | rfl | (congr 1; omega) | assumption) rfl ?_
  rintro ⟨L, g2, t, s⟩ ⟨hL, hmk, hmake, hin⟩ ih2
  dsimp only at hL hmk hmake hin
  have s3 := hmk.get n3 A3
  simp (disch := omega) only [s3, exC_mk, go_sem]
  first | refine iteW_dec (fun hq => ?_) (fun hq => ?_) | refine iteW_of (fun hq => ?_) (fun hq => ?_)
  ·have he := getD_mem default (by omega : L.length < ks.length)
   rw [makeL_drop (by omega)] at hmake
   rw [innerL_drop (by omega)] at hin
   have hmE := mostL_mem he
   simp (disch := omega) only [s3, exC_mk, go_sem]
   obtain ⟨B, hB1, hB2⟩ := hmk.mk
   refine SRun.callQ (ih _ he (hk _ he) hB1 (by omega) (by omega)) ⟨[], rfl, rfl⟩ rfl ?_
   rintro r s8 ⟨rfl, hm8⟩
   have hmk8 := hB2 _ _ hm8
   obtain ⟨B', hC1, _, hC2⟩ := hmk8.app
   simp (disch := omega) only [go_sem]
   refine SRun.appL hC1 rfl (by simp [V.cells, V.one]) (by simp only [ints_len, List.length_singleton]; omega) ?_
   intro t' s9 ho9
   rw [ints_app] at ho9
   have hmk9 := hC2 _ _ _ ho9
   simp (disch := omega) only [go_sem]
   refine ih2 (L ++ [(makeP inp (ks.getD L.length default) g2).1], (makeP inp (ks.getD L.length default) g2).2, t', s9) _ _ ⟨by simp only [List.length_append, List.length_singleton]; omega, hmk9, ?_, ?_⟩ (by simp only [List.length_append, List.length_singleton]; omega) (by simp (disch := omega) only [subT, Int.natCast_add, Int.cast_ofNat_Int, List.length_append, List.length_singleton, go_sem] <;> (repeat' apply And.intro) <;> first | rfl | (congr 1; omega) | assumption) rfl
   ·simp only [List.length_append, List.length_singleton]; rw [hmake]; simp
   ·simp only [List.length_append, List.length_singleton]
    have := (makeP_ok hinp.1 _ (hk _ he) g2 (by omega)).2.2
    omega
  ·have hLk : L.length = ks.length := by omega
   rw [hLk, List.drop_length] at hmake
   simp only [makeL, List.append_nil] at hmake
   rw [hmake] at hLL
   have hlit := hLL.1
   have hmp : makeP inp (.mk k 0 ks) gs = opP inp k L g2 := by
    simp only [makeP]; rw [if_neg hk1, if_neg hk2, hmake]
   rw [hmp]
   have hne : L ≠ [] := fun e => by
    rw [e] at hLk
    have : arity k = 0 := by rw [← hl, ← hLk]; rfl
    unfold arity at this
    rw [if_neg (by omega)] at this
    (repeat' split at this) <;> omega
   have hg2 : g2.length ≤ 90000 := by omega
   have hkk : k = 3 ∨ k = 4 ∨ k = 5 ∨ k = 6 ∨ k = 7 := by omega
   rcases hkk with rfl | rfl | rfl | rfl | rfl
   ·simp [arity] at hl
    have h0 : LitOK inp g2 (L.getD 0 0) := hlit _ (getD_mem 0 (by omega))
    have h0' := h0
    unfold LitOK at h0'
    obtain ⟨bq, cap, rfl, hbq⟩ := hmk.row hne
    have i0 := ints_get (getD_some 0 (by omega : 0 < L.length))
    have hil := ints_len L
    simp (disch := omega) only [s3, exC_mk, hbq, i0, go_sem]
    refine SRun.callR (l04Not_ok (x := L.getD 0 0) (by omega)) ⟨[], rfl, rfl⟩ rfl ?_
    simp (disch := omega) only [List.getD_cons_zero, List.getD_cons_succ, go_sem]
    obtain ⟨B', hD1, hD2, _⟩ := hmk.app
    obtain ⟨t9, hlt9, hn9⟩ := hD2.shrink hle2
    exact W_retC c47_ok (r := .int .i64 (notP (L.getD 0 0))) (r' := .int .i64 (notP (L.getD 0 0))) (σ' := t9) rfl (Conv.drop _ fun d x h => hD1.le _ _ (hlt9 _ _ h)) ⟨rfl, hn9⟩
   ·simp [arity] at hl
    have h0 : LitOK inp g2 (L.getD 0 0) := hlit _ (getD_mem 0 (by omega))
    have h0' := h0
    unfold LitOK at h0'
    have i0 := ints_get (getD_some 0 (by omega : 0 < L.length))
    have h1 : LitOK inp g2 (L.getD 1 0) := hlit _ (getD_mem 0 (by omega))
    have h1' := h1
    unfold LitOK at h1'
    have i1 := ints_get (getD_some 0 (by omega : 1 < L.length))
    obtain ⟨bq, cap, rfl, hbq⟩ := hmk.row hne
    have hil := ints_len L
    obtain ⟨B, hB1, hB2⟩ := hmk.mk
    simp (disch := omega) only [s3, exC_mk, go_sem]
    refine W_drawW ?_
    simp (disch := omega) only [hbq, i0, i1, go_sem]
    refine DRun.callQ (ands_mk hB1 h0 h1 (by omega) (by omega)) ⟨[], rfl, rfl⟩ ?_
    rintro r t1 ⟨rfl, hm1⟩
    obtain ⟨B', hD1, hD2, _⟩ := (hB2 _ _ hm1).app
    obtain ⟨t9, hlt9, hn9⟩ := hD2.shrink hle2
    simp (disch := omega) only [go_sem]
    exact W_retC c47_ok (r := .int .i64 _) (r' := .int .i64 _) (σ' := t9) rfl (Conv.drop _ fun d x h => hD1.le _ _ (hlt9 _ _ h)) ⟨rfl, hn9⟩
   ·simp [arity] at hl
    have h0 : LitOK inp g2 (L.getD 0 0) := hlit _ (getD_mem 0 (by omega))
    have h0' := h0
    unfold LitOK at h0'
    have i0 := ints_get (getD_some 0 (by omega : 0 < L.length))
    have h1 : LitOK inp g2 (L.getD 1 0) := hlit _ (getD_mem 0 (by omega))
    have h1' := h1
    unfold LitOK at h1'
    have i1 := ints_get (getD_some 0 (by omega : 1 < L.length))
    obtain ⟨bq, cap, rfl, hbq⟩ := hmk.row hne
    have hil := ints_len L
    obtain ⟨B, hB1, hB2⟩ := hmk.mk
    simp (disch := omega) only [s3, exC_mk, go_sem]
    refine W_drawW ?_
    simp (disch := omega) only [hbq, i0, i1, go_sem]
    refine DRun.callQ (ors_mk hB1 h0 h1 (by omega) (by omega)) ⟨[], rfl, rfl⟩ ?_
    rintro r t1 ⟨rfl, hm1⟩
    obtain ⟨B', hD1, hD2, _⟩ := (hB2 _ _ hm1).app
    obtain ⟨t9, hlt9, hn9⟩ := hD2.shrink hle2
    simp (disch := omega) only [go_sem]
    exact W_retC c47_ok (r := .int .i64 _) (r' := .int .i64 _) (σ' := t9) rfl (Conv.drop _ fun d x h => hD1.le _ _ (hlt9 _ _ h)) ⟨rfl, hn9⟩
   ·simp [arity] at hl
    have h0 : LitOK inp g2 (L.getD 0 0) := hlit _ (getD_mem 0 (by omega))
    have h0' := h0
    unfold LitOK at h0'
    have i0 := ints_get (getD_some 0 (by omega : 0 < L.length))
    have h1 : LitOK inp g2 (L.getD 1 0) := hlit _ (getD_mem 0 (by omega))
    have h1' := h1
    unfold LitOK at h1'
    have i1 := ints_get (getD_some 0 (by omega : 1 < L.length))
    obtain ⟨bq, cap, rfl, hbq⟩ := hmk.row hne
    have hil := ints_len L
    obtain ⟨B, hB1, hB2⟩ := hmk.mk
    simp (disch := omega) only [s3, exC_mk, go_sem]
    rw [W_draw]
    refine DRun.start (DRun.mixE rfl ?_)
    simp (disch := omega) only [hbq, i0, i1, go_sem]
    refine DS.callQ (l04Not_ok (x := L.getD 1 0) (by omega)) ⟨[], rfl, rfl⟩ rfl ?_
    rintro r s ⟨rfl, rfl⟩ _
    simp (disch := omega) only [go_sem]
    obtain ⟨p1, p2, p3⟩ := andP_ok hinp.1 h0 (notP_ok h1)
    refine DRun.callQ (ands_mk hB1 h0 (notP_ok h1) (by omega) (by omega)) ⟨[], rfl, rfl⟩ ?_
    rintro r t1 ⟨rfl, hm1⟩
    obtain ⟨bq', cap', e, hbq'⟩ := (hB2 _ _ hm1).row hne
    cases e
    simp (disch := omega) only [go_sem]
    rw [W_draw]
    refine DRun.start (DRun.mixE rfl ?_)
    simp (disch := omega) only [hbq', i0, i1, go_sem]
    refine DS.callQ (l04Not_ok (x := L.getD 0 0) (by omega)) ⟨[], rfl, rfl⟩ rfl ?_
    rintro r s ⟨rfl, rfl⟩ _
    simp (disch := omega) only [go_sem]
    obtain ⟨q1, q2, q3⟩ := andP_ok hinp.1 ((notP_ok h0).mono p2) (h1.mono p2)
    refine DRun.callQ (ands_mk hm1 ((notP_ok h0).mono p2) (h1.mono p2) (by omega) (by omega)) ⟨[], rfl, rfl⟩ ?_
    rintro r t2 ⟨rfl, hm2⟩
    simp (disch := omega) only [go_sem]
    refine SRun.callQ (ors_mk hm2 (p1.mono q2) q1 (by omega) (by omega)) ⟨[], rfl, rfl⟩ rfl ?_
    rintro r t3 ⟨rfl, hm3⟩
    obtain ⟨B', hD1, hD2, _⟩ := (hB2 _ _ hm3).app
    obtain ⟨t9, hlt9, hn9⟩ := hD2.shrink hle2
    simp (disch := omega) only [go_sem]
    exact W_retC c47_ok (r := .int .i64 _) (r' := .int .i64 _) (σ' := t9) rfl (Conv.drop _ fun d x h => hD1.le _ _ (hlt9 _ _ h)) ⟨rfl, hn9⟩
   ·simp [arity] at hl
    have h0 : LitOK inp g2 (L.getD 0 0) := hlit _ (getD_mem 0 (by omega))
    have h0' := h0
    unfold LitOK at h0'
    have i0 := ints_get (getD_some 0 (by omega : 0 < L.length))
    have h1 : LitOK inp g2 (L.getD 1 0) := hlit _ (getD_mem 0 (by omega))
    have h1' := h1
    unfold LitOK at h1'
    have i1 := ints_get (getD_some 0 (by omega : 1 < L.length))
    have h2 : LitOK inp g2 (L.getD 2 0) := hlit _ (getD_mem 0 (by omega))
    have h2' := h2
    unfold LitOK at h2'
    have i2 := ints_get (getD_some 0 (by omega : 2 < L.length))
    obtain ⟨bq, cap, rfl, hbq⟩ := hmk.row hne
    have hil := ints_len L
    obtain ⟨B, hB1, hB2⟩ := hmk.mk
    simp (disch := omega) only [s3, exC_mk, go_sem]
    refine W_drawW ?_
    simp (disch := omega) only [hbq, i0, i1, go_sem]
    obtain ⟨p1, p2, p3⟩ := andP_ok hinp.1 h0 h1
    refine DRun.callQ (ands_mk hB1 h0 h1 (by omega) (by omega)) ⟨[], rfl, rfl⟩ ?_
    rintro r t1 ⟨rfl, hm1⟩
    obtain ⟨bq', cap', e, hbq'⟩ := (hB2 _ _ hm1).row hne
    cases e
    simp (disch := omega) only [go_sem]
    rw [W_draw]
    refine DRun.start (DRun.mixE rfl ?_)
    simp (disch := omega) only [hbq', i0, i2, go_sem]
    refine DS.callQ (l04Not_ok (x := L.getD 0 0) (by omega)) ⟨[], rfl, rfl⟩ rfl ?_
    rintro r s ⟨rfl, rfl⟩ _
    simp (disch := omega) only [go_sem]
    obtain ⟨q1, q2, q3⟩ := andP_ok hinp.1 ((notP_ok h0).mono p2) (h2.mono p2)
    refine DRun.callQ (ands_mk hm1 ((notP_ok h0).mono p2) (h2.mono p2) (by omega) (by omega)) ⟨[], rfl, rfl⟩ ?_
    rintro r t2 ⟨rfl, hm2⟩
    simp (disch := omega) only [go_sem]
    refine SRun.callQ (ors_mk hm2 (p1.mono q2) q1 (by omega) (by omega)) ⟨[], rfl, rfl⟩ rfl ?_
    rintro r t3 ⟨rfl, hm3⟩
    obtain ⟨B', hD1, hD2, _⟩ := (hB2 _ _ hm3).app
    obtain ⟨t9, hlt9, hn9⟩ := hD2.shrink hle2
    simp (disch := omega) only [go_sem]
    exact W_retC c47_ok (r := .int .i64 _) (r' := .int .i64 _) (σ' := t9) rfl (Conv.drop _ fun d x h => hD1.le _ _ (hlt9 _ _ h)) ⟨rfl, hn9⟩
end
section
attribute [local irreducible] SRun DS DRun
variable {Γ : St} {σ σ0 : St}
section
variable {A : St} {b : Nat} {inp : Int} {gs : List (Int × Int)} {L : List Int} {t : V} {s : St}
theorem Mk2.blk (h : Mk2 A b inp gs L t s) : ∃ q, s b = some [.int .i64 inp, q] := by
 obtain ⟨B, h1, _⟩ := h.mk; exact h1.blk
theorem Mk2.ext (h : Mk2 A b inp gs L t s) {d : Nat} {z : List V} (hd : s d = none) : Mk2 (upd A d z) b inp gs L t (upd s d z) ∧ d ≠ b := by
 obtain ⟨q0, h0⟩ := h.blk
 have hne : d ≠ b := fun e => by subst e; rw [h0] at hd; cases hd
 obtain ⟨q, B, h1, h2⟩ := h
 have hB : B d = none := by
  cases hc : B d with
  | none => rfl
  | some x => rw [h2.get hc] at hd; cases hd
 have h1' := h1.ext (z := z) hB
 rw [upd_comm _ hne.symm] at h1'
 exact ⟨⟨q, _, h1', h2.ext hd⟩, hne⟩
theorem Mk2.upd (h : Mk2 A b inp gs L t s) {d : Nat} {x z : List V} (hd : d ≠ b) (hA : A d = some x) : Mk2 (Lg.upd A d z) b inp gs L t (Lg.upd s d z) := by
 obtain ⟨q, B, h1, h2⟩ := h
 have h1' := h1.upd (b := d) (c := x) (c' := z) (by rw [upd_ne _ _ hd]; exact hA)
 rw [upd_comm _ hd.symm] at h1'
 exact ⟨q, _, h1', h2.upd (h1.get (by rw [upd_ne _ _ hd]; exact hA))⟩
/-- What is read of it, and what it is given up to. -/
theorem Mk2.done (h : Mk2 A b inp gs L t s) : ∃ q, s b = some [.int .i64 inp, q] ∧ q.one = true ∧ (∀ σ, (∀ d x, σ d = some x → d ≠ b ∧ A d = some x) → (∀ d x, σ d = some x → s d = some x) ∧ Frz s σ q (.isl false 2 (gsV gs)) ∧ Frz s σ t (intsV L)) ∧ ∃ B, OwnL B 2 (gsV gs) q s := by
 obtain ⟨q, B, h1, h2⟩ := h
 obtain ⟨B', h3, h4⟩ := own_swap h1 h2
 have hb := h2.get (h1.get (upd_same _ _ _))
 refine ⟨q, hb, h2.one, fun σ hσ => ?_, B, h2⟩
 have hA : ∀ d x, σ d = some x → Lg.upd A b [.int .i64 inp, q] d = some x := fun d x hd => by
  rw [upd_ne _ _ (hσ d x hd).1]; exact (hσ d x hd).2
 have hn : ∀ {C : St}, (∀ d x, Lg.upd A b [.int .i64 inp, q] d = some x → C d = some x) → ∀ d, C d = none → σ d = none := by
  intro C hC d hd
  cases hc : σ d with
  | none => rfl
  | some x => rw [hC _ _ (hA _ _ hc)] at hd; cases hd
 exact ⟨fun d x hd => h2.le _ _ (h1.le _ _ (hA _ _ hd)), h2.frz (fun _ _ => rfl) (hn h1.le), h4.frz (fun _ _ => rfl) (hn h3.le)⟩
end
theorem resV_3 {T : Ts} {a nn b p q : Nat} {cs : List V} (h : look T a = .ptr b 0) (hb : σ b = some cs) (hl : nn = cs.length) : resV [.cell a true nn, .t p, .t q] T σ = some (.tup [.agg cs, look T p, look T q]) := by
 subst hl
 simp [resV, resV1, h, hb]
def aigV (inp : Int) (gs : List (Int × Int)) : V := .agg [.int .i64 inp, .isl false 2 (gsV gs)]
theorem okE_right {e : Ex} (h : okE e = true) : rightE e = true ∧ sizeE e ≤ 400 ∧ depthE e ≤ 40 := by
 simp only [okE, Bool.and_eq_true, decide_eq_true_eq] at h
 exact ⟨h.1.1, h.1.2, h.2⟩
end
section
attribute [local irreducible] SRun DS DRun
variable {Γ : St} {σ σ0 : St}
/-- The gates of a circuit are right. -/
def GatesOK (inp : Int) (gs : List (Int × Int)) : Prop := ∀ i, i < gs.length → 2 ≤ (gs.getD i default).1 ∧ (gs.getD i default).1 < (gs.getD i default).2 ∧ (gs.getD i default).2 < 2 * (1 + inp + i) ∧ ¬ (gs.getD i default).1 / 2 = (gs.getD i default).2 / 2 ∧ (gs.take i).findIdx? (· == gs.getD i default) = none
theorem containsGate_ok {ex : Bool} {gs : List (Int × Int)} {g : Int × Int} (hl : gs.length ≤ 2000000) (hn : gs.findIdx? (· == g) = none) : Ret Try.prog Γ 78 [.isl ex 2 (gsV gs), gV g] σ (.bool false) σ := by
 obtain ⟨x, y⟩ := g
 refine ret_of c78_ok rfl ?_
 simp (disch := omega) only [c78, gV, go_sem]
 refine SRun.boxR (by simp [ev, look, V.cells, V.one]) ?_
 intro b3 hb3
 simp (disch := omega) only [go_sem]
 refine SRun.callR (indexGate_ok (ex := ex) (g := (x, y)) hl) ⟨[], rfl, rfl⟩ rfl ?_
 rw [hn]
 simp (disch := omega) only [go_sem]
 exact W_retC c78_ok rfl (Conv.drop _ (le_upd hb3)) ⟨rfl, rfl⟩
theorem gsV_take (gs : List (Int × Int)) (i : Nat) : (gsV gs).take i = gsV (gs.take i) := by simp [gsV, List.map_take]
set_option maxHeartbeats 1000000 in
theorem isAig_ok {inp : Int} {gs : List (Int × Int)} (hinp : 0 ≤ inp ∧ inp ≤ 12) (hl : gs.length ≤ 400) (hg : GatesOK inp gs) : Ret Try.prog Γ 58 [aigV inp gs] σ (.bool true) σ := by
 have hb : (decide (0 ≤ inp) && decide (inp ≤ 12)) = true := by simp; omega
 have hgl := gsV_len gs
 refine ret_of c58_ok rfl ?_
 simp (disch := omega) only [c58, aigV, go_sem]
 refine SRun.boxR (by simp [ev, look, V.cells, V.one]) ?_
 intro b1 hb1
 simp (disch := omega) only [go_sem]
 refine SRun.callR (within_ok inp 0 12) ⟨[], rfl, rfl⟩ rfl ?_
 simp (disch := omega) only [List.getD_cons_zero, List.getD_cons_succ, go_sem]
 simp (disch := omega) only [hb, go_sem]
 refine W_loopC (α := Nat × St) (fun p => p.1 ≤ gs.length ∧ ∀ d x, upd σ b1 [.int .i64 inp, .isl false 2 (gsV gs)] d = some x → p.2 d = some x) (fun p => [(1, .ptr b1 0), (16, .isl false 2 (gsV gs)), (17, .int .i64 gs.length), (18, .int .i64 (p.1 : Nat))]) (fun p => p.2) (fun p => gs.length - p.1) (0, upd σ b1 [.int .i64 inp, .isl false 2 (gsV gs)]) ⟨by omega, fun _ _ h => h⟩ (by simp (disch := omega) only [subT, Int.natCast_add, Int.cast_ofNat_Int, go_sem] <;> (repeat' apply And.intro) <;> first | rfl | (congr 1; omega) | assumption) rfl ?_
 rintro ⟨i, s⟩ ⟨hi, hs⟩ ih
 dsimp only at hi hs
 simp (disch := omega) only [go_sem]
 first | refine iteW_dec (fun hq => ?_) (fun hq => ?_) | refine iteW_of (fun hq => ?_) (fun hq => ?_)
 ·have g1 := hs b1 _ (upd_same _ _ _)
  obtain ⟨q1, q2, q3, q4, q5⟩ := hg i (by omega)
  simp (disch := omega) only [gsV, go_sem]
  generalize hgi : gs.getD i default = g at *
  obtain ⟨x, y⟩ := g
  dsimp only at q1 q2 q3 q4
  simp (disch := omega) only [gV, go_sem]
  refine SRun.allocR ?_
  intro b4 hb4
  have g1' : upd s b4 [.int .i64 x, .int .i64 y] b1 = some _ := le_upd hb4 _ _ g1
  have l1 : decide (x < 2) = false := decide_eq_false (by omega)
  have l2 : decide (x ≥ y) = false := decide_eq_false (by omega)
  have l3 : decide (y ≥ 2 * (1 + inp + i)) = false := decide_eq_false (by omega)
  have t1 : x.tdiv 2 = x / 2 := Int.tdiv_eq_ediv_of_nonneg (by omega)
  have t2 : y.tdiv 2 = y / 2 := Int.tdiv_eq_ediv_of_nonneg (by omega)
  have l4 : decide (x / 2 = y / 2) = false := decide_eq_false q4
  simp (disch := omega) only [go_sem]
  refine W_drawW ?_
  simp (disch := omega) only [l1, l2, l3, l4, t1, t2, g1', go_sem]
  have hti : List.take ((i : Int) - 0).toNat (gsV gs) = gsV (gs.take i) := by rw [show ((i : Int) - 0).toNat = i by omega, gsV_take]
  have hfl : (false && decide ((i : Int) = (gsV gs).length)) = false := rfl
  refine DRun.callG (containsGate_ok (ex := false) (gs := gs.take i) (g := (x, y)) (by simp only [List.length_take]; omega) q5) ⟨[], rfl, by simp only [gV, ← hti]; rfl⟩ rfl ?_
  rintro r s2 ⟨rfl, rfl⟩
  simp (disch := omega) only [go_sem]
  exact ih (i + 1, upd s b4 [.int .i64 x, .int .i64 y]) _ _ ⟨by simp only; omega, fun d x h => le_upd hb4 _ _ (hs _ _ h)⟩ (by simp only; omega) (by simp (disch := omega) only [subT, Int.natCast_add, Int.cast_ofNat_Int, gsV, go_sem] <;> (repeat' apply And.intro) <;> first | rfl | (congr 1; omega) | assumption) rfl
 ·simp (disch := omega) only [go_sem]
  exact W_retC c58_ok rfl (Conv.drop _ fun d x h => hs _ _ (le_upd hb1 _ _ h)) ⟨rfl, rfl⟩
end
section
attribute [local irreducible] SRun DS DRun
variable {Γ : St} {σ σ0 : St}
/-- The value of a literal, of nodes' values. -/
def valP (ns : List Bool) (x : Int) : Bool := ns.getD (x / 2).toNat false != decide (x % 2 = 1)
/-- Nodes' values, gate by gate. -/
def nodesP (vs : List Bool) (gs : List (Int × Int)) : List Bool := gs.foldl (fun ns g => ns ++ [valP ns g.1 && valP ns g.2]) (false :: vs)
theorem nodesP_len (vs : List Bool) (gs : List (Int × Int)) : (nodesP vs gs).length = 1 + vs.length + gs.length := by
 unfold nodesP
 have : ∀ (gs : List (Int × Int)) (a : List Bool), (gs.foldl (fun ns g => ns ++ [valP ns g.1 && valP ns g.2]) a).length = a.length + gs.length := by
  intro gs
  induction gs with
  | nil => intro a; rfl
  | cons g r ih => intro a; rw [List.foldl_cons, ih]; simp only [List.length_append, List.length_cons, List.length_nil]; omega
 rw [this]; simp only [List.length_cons]; omega
theorem nodesP_succ {vs : List Bool} {gs : List (Int × Int)} {i : Nat} (h : i < gs.length) : nodesP vs (gs.take (i + 1)) = nodesP vs (gs.take i) ++ [valP (nodesP vs (gs.take i)) (gs.getD i default).1 && valP (nodesP vs (gs.take i)) (gs.getD i default).2] := by
 rw [take_succ default h]; simp only [nodesP, List.foldl_append, List.foldl_cons, List.foldl_nil]
end
section
section
variable {inp : Int} {gs gs' : List (Int × Int)} {x y : Int} {vs : List Bool}
theorem andP_pre (inp : Int) (gs : List (Int × Int)) (x y : Int) : gs <+: (andP inp gs x y).2 := by
 unfold andP
 split
 ·exact List.prefix_refl _
 split
 ·exact List.prefix_refl _
 split
 ·exact List.prefix_refl _
 split
 ·exact List.prefix_refl _
 ·exact List.prefix_append _ _
theorem orP_pre (inp : Int) (gs : List (Int × Int)) (x y : Int) : gs <+: (orP inp gs x y).2 := andP_pre _ _ _ _
theorem two_pre (inp : Int) (gs : List (Int × Int)) (a b c d p q : Int) : (andP inp gs a b).2 <+: (orP inp (andP inp (andP inp gs a b).2 c d).2 p q).2 := (andP_pre _ _ _ _).trans (orP_pre _ _ _ _)
theorem opP_pre (inp k : Int) (l : List Int) (gs : List (Int × Int)) : gs <+: (opP inp k l gs).2 := by
 unfold opP
 split
 ·exact List.prefix_refl _
 split
 ·exact andP_pre _ _ _ _
 split
 ·exact orP_pre _ _ _ _
 split
 ·exact (andP_pre _ _ _ _).trans (two_pre _ _ _ _ _ _ _ _)
 ·exact (andP_pre _ _ _ _).trans (two_pre _ _ _ _ _ _ _ _)
theorem makeL_pre {ks : List Ex} (h : ∀ e ∈ ks, ∀ gs, gs <+: (makeP inp e gs).2) : ∀ gs, gs <+: (makeL inp ks gs).2 := by
 induction ks with
 | nil => intro gs; exact List.prefix_refl _
 | cons e r ih => intro gs; simp only [makeL]; exact (h e (by simp) gs).trans (ih (fun x hx => h x (by simp [hx])) _)
theorem makeP_pre (inp : Int) : ∀ e gs, gs <+: (makeP inp e gs).2 := by
 refine Ex.ind fun k n ks ih gs => ?_
 simp only [makeP]
 split
 ·exact List.prefix_refl _
 split
 ·exact List.prefix_refl _
 ·exact (makeL_pre ih gs).trans (opP_pre _ _ _ _)
theorem gates_nil : GatesOK inp [] := fun i h => by simp at h
theorem gates_app (hg : GatesOK inp gs) (h1 : 2 ≤ x) (h2 : x < y) (h3 : y < 2 * (1 + inp + gs.length)) (h4 : ¬ x / 2 = y / 2) (h5 : gs.findIdx? (· == (x, y)) = none) : GatesOK inp (gs ++ [(x, y)]) := by
 intro i hi
 simp only [List.length_append, List.length_singleton] at hi
 rcases Nat.lt_or_ge i gs.length with h | h
 ·have e : (gs ++ [(x, y)]).getD i default = gs.getD i default := by simp [List.getD, List.getElem?_append_left h]
  have t : (gs ++ [(x, y)]).take i = gs.take i := by rw [List.take_append_of_le_length (by omega)]
  rw [e, t]; exact hg i h
 ·obtain rfl : i = gs.length := by omega
  have e : (gs ++ [(x, y)]).getD gs.length default = (x, y) := by simp [List.getD]
  have t : (gs ++ [(x, y)]).take gs.length = gs := by simp
  rw [e, t]; exact ⟨h1, h2, h3, h4, h5⟩
theorem andP_gates (hg : GatesOK inp gs) (hx : LitOK inp gs x) (hy : LitOK inp gs y) : GatesOK inp (andP inp gs x y).2 := by
 unfold LitOK at hx hy
 unfold andP
 split
 ·exact hg
 split
 ·exact hg
 split
 ·exact hg
 split
 ·exact hg
 ·rename_i h1 h2 h3 _ hf
  exact gates_app hg (by omega) (by omega) (by omega) h3 hf
theorem orP_gates (hg : GatesOK inp gs) (hx : LitOK inp gs x) (hy : LitOK inp gs y) : GatesOK inp (orP inp gs x y).2 := andP_gates hg (notP_ok hx) (notP_ok hy)
theorem opP_gates {k : Int} {l : List Int} (hi : 0 ≤ inp) (hg : GatesOK inp gs) (hl : ∀ x ∈ l, LitOK inp gs x) (hk : 3 ≤ k) (hn : arity k ≤ l.length) (hk7 : k ≤ 7) : GatesOK inp (opP inp k l gs).2 := by
 have hgt : ∀ i : Nat, (i : Int) < arity k → LitOK inp gs (l.getD i 0) := fun i h => hl _ (getD_mem 0 (by omega))
 have two : ∀ {a b c d : Int}, LitOK inp gs a → LitOK inp gs b → LitOK inp gs c → LitOK inp gs d → GatesOK inp (orP inp (andP inp (andP inp gs a b).2 c d).2 (andP inp gs a b).1 (andP inp (andP inp gs a b).2 c d).1).2 := by
  intro a b c d ha hb hc hd
  obtain ⟨a1, b1, _⟩ := andP_ok hi ha hb
  obtain ⟨a2, b2, _⟩ := andP_ok hi (hc.mono b1) (hd.mono b1)
  exact orP_gates (andP_gates (andP_gates hg ha hb) (hc.mono b1) (hd.mono b1)) (a1.mono b2) a2
 have hkk : k = 3 ∨ k = 4 ∨ k = 5 ∨ k = 6 ∨ k = 7 := by omega
 rcases hkk with rfl | rfl | rfl | rfl | rfl
 ·exact hg
 ·exact andP_gates hg (hgt 0 (by decide)) (hgt 1 (by decide))
 ·exact orP_gates hg (hgt 0 (by decide)) (hgt 1 (by decide))
 ·exact two (hgt 0 (by decide)) (notP_ok (hgt 1 (by decide))) (notP_ok (hgt 0 (by decide))) (hgt 1 (by decide))
 ·exact two (hgt 0 (by decide)) (hgt 1 (by decide)) (notP_ok (hgt 0 (by decide))) (hgt 2 (by decide))
theorem nodesP_app (vs : List Bool) (gs t : List (Int × Int)) : nodesP vs gs <+: nodesP vs (gs ++ t) := by
 unfold nodesP
 rw [List.foldl_append]
 generalize gs.foldl (fun ns g => ns ++ [valP ns g.1 && valP ns g.2]) (false :: vs) = a
 induction t generalizing a with
 | nil => exact List.prefix_refl _
 | cons g r ih => rw [List.foldl_cons]; exact (List.prefix_append _ _).trans (ih _)
theorem valP_pre {ns ns' : List Bool} (h : ns <+: ns') (hl : (x / 2).toNat < ns.length) : valP ns' x = valP ns x := by
 obtain ⟨t, rfl⟩ := h
 unfold valP
 have : (ns ++ t).getD (x / 2).toNat false = ns.getD (x / 2).toNat false := by simp [List.getD, List.getElem?_append_left hl]
 rw [this]
theorem lit_lt (hv : (vs.length : Int) = inp) (hx : LitOK inp gs x) : (x / 2).toNat < (nodesP vs gs).length := by
 rw [nodesP_len]; unfold LitOK at hx; omega
theorem valP_mono (hv : (vs.length : Int) = inp) (hp : gs <+: gs') (hx : LitOK inp gs x) : valP (nodesP vs gs') x = valP (nodesP vs gs) x := by
 obtain ⟨t, rfl⟩ := hp
 exact valP_pre (nodesP_app _ _ _) (lit_lt hv hx)
theorem valP_not {ns : List Bool} (hx : 0 ≤ x) : valP ns (notP x) = !valP ns x := by
 unfold valP notP
 by_cases h : x % 2 = 1
 ·rw [if_pos h, show (x - 1) / 2 = x / 2 by omega, decide_eq_true h, decide_eq_false (show ¬ (x - 1) % 2 = 1 by omega)]
  cases ns.getD (x / 2).toNat false <;> rfl
 ·rw [if_neg h, show (x + 1) / 2 = x / 2 by omega, decide_eq_false h, decide_eq_true (show (x + 1) % 2 = 1 by omega)]
  cases ns.getD (x / 2).toNat false <;> rfl
theorem nodesP_zero (vs : List Bool) (gs : List (Int × Int)) : (nodesP vs gs).getD 0 false = false := by
 have h := nodesP_app vs [] gs
 rw [List.nil_append] at h
 obtain ⟨t, ht⟩ := h
 rw [← ht]; rfl
theorem val_zero (vs : List Bool) (gs : List (Int × Int)) : valP (nodesP vs gs) 0 = false := by
 have := nodesP_zero vs gs
 show ((nodesP vs gs).getD 0 false != false) = false
 rw [this]; rfl
theorem val_one (vs : List Bool) (gs : List (Int × Int)) : valP (nodesP vs gs) 1 = true := by
 have := nodesP_zero vs gs
 show ((nodesP vs gs).getD 0 false != true) = true
 rw [this]; rfl
theorem val_gate (hv : (vs.length : Int) = inp) (hg : GatesOK inp gs) {i : Nat} (hi : i < gs.length) : valP (nodesP vs gs) (2 * (1 + inp + i)) = (valP (nodesP vs gs) (gs.getD i default).1 && valP (nodesP vs gs) (gs.getD i default).2) := by
 obtain ⟨q1, q2, q3, _, _⟩ := hg i hi
 have hp : gs.take i <+: gs := List.take_prefix _ _
 have hp1 : gs.take (i + 1) <+: gs := List.take_prefix _ _
 have hl : (gs.take i).length = i := by rw [List.length_take]; omega
 have hl1 : (gs.take (i + 1)).length = i + 1 := by rw [List.length_take]; omega
 have k1 := valP_mono hv hp (x := (gs.getD i default).1) ⟨by omega, by rw [hl]; omega⟩
 have k2 := valP_mono hv hp (x := (gs.getD i default).2) ⟨by omega, by rw [hl]; omega⟩
 rw [valP_mono hv hp1 (x := 2 * (1 + inp + i)) ⟨by omega, by rw [hl1]; omega⟩, k1, k2, nodesP_succ hi]
 generalize hns : nodesP vs (gs.take i) = ns
 have hnl : ns.length = 1 + vs.length + i := by rw [← hns, nodesP_len, hl]
 generalize (valP ns (gs.getD i default).1 && valP ns (gs.getD i default).2) = w
 unfold valP
 rw [show (2 * (1 + inp + (i : Int)) / 2).toNat = ns.length by omega, decide_eq_false (show ¬ 2 * (1 + inp + (i : Int)) % 2 = 1 by omega)]
 simp [List.getD]
theorem min_max_and (f : Int → Bool) (x y : Int) : (f x && f y) = (f (min x y) && f (max x y)) := by
 rcases Int.le_total x y with h | h
 ·rw [Int.min_eq_left h, Int.max_eq_right h]
 ·rw [Int.min_eq_right h, Int.max_eq_left h, Bool.and_comm]
theorem andP_val (hv : (vs.length : Int) = inp) (hg : GatesOK inp gs) (hx : LitOK inp gs x) (hy : LitOK inp gs y) : valP (nodesP vs (andP inp gs x y).2) (andP inp gs x y).1 = (valP (nodesP vs gs) x && valP (nodesP vs gs) y) := by
 have hx' := hx
 have hy' := hy
 unfold LitOK at hx' hy'
 rw [min_max_and (valP (nodesP vs gs)) x y]
 simp only [andP]
 by_cases h1 : min x y = 0
 ·simp only [if_pos h1]; rw [h1, val_zero]; rfl
 simp only [if_neg h1]
 by_cases h2 : min x y = 1 ∨ min x y = max x y
 ·simp only [if_pos h2]
  rcases h2 with h2 | h2
  ·rw [h2, val_one]; rfl
  ·rw [h2, Bool.and_self]
 simp only [if_neg h2]
 by_cases h3 : min x y / 2 = max x y / 2
 ·simp only [if_pos h3]
  have e : max x y = notP (min x y) := by unfold notP; split <;> omega
  rw [val_zero, e, valP_not (by omega)]
  cases valP (nodesP vs gs) (min x y) <;> rfl
 simp only [if_neg h3]
 cases hf : gs.findIdx? (· == (min x y, max x y)) with
 | some i =>
  simp only
  rw [List.findIdx?_eq_some_iff_getElem] at hf
  obtain ⟨hi, he, _⟩ := hf
  rw [val_gate hv hg hi]
  have : gs.getD i default = (min x y, max x y) := by simpa [List.getD, hi] using he
  rw [this]
 | none =>
  simp only
  have hg' := gates_app hg (x := min x y) (y := max x y) (by omega) (by omega) (by omega) h3 hf
  have hp : gs <+: gs ++ [(min x y, max x y)] := List.prefix_append _ _
  rw [val_gate hv hg' (by simp)]
  have : (gs ++ [(min x y, max x y)]).getD gs.length default = (min x y, max x y) := by simp [List.getD]
  rw [this]
  dsimp only
  rw [valP_mono hv hp (x := min x y) ⟨by omega, by omega⟩, valP_mono hv hp (x := max x y) ⟨by omega, by omega⟩]
theorem orP_val (hv : (vs.length : Int) = inp) (hi : 0 ≤ inp) (hg : GatesOK inp gs) (hx : LitOK inp gs x) (hy : LitOK inp gs y) : valP (nodesP vs (orP inp gs x y).2) (orP inp gs x y).1 = (valP (nodesP vs gs) x || valP (nodesP vs gs) y) := by
 unfold orP
 dsimp only
 rw [valP_not (andP_ok hi (notP_ok hx) (notP_ok hy)).1.1, andP_val hv hg (notP_ok hx) (notP_ok hy), valP_not hx.1, valP_not hy.1]
 cases valP (nodesP vs gs) x <;> cases valP (nodesP vs gs) y <;> rfl
theorem two_val {a b c d : Int} (hv : (vs.length : Int) = inp) (hi : 0 ≤ inp) (hg : GatesOK inp gs) (ha : LitOK inp gs a) (hb : LitOK inp gs b) (hc : LitOK inp gs c) (hd : LitOK inp gs d) :
  valP (nodesP vs (orP inp (andP inp (andP inp gs a b).2 c d).2 (andP inp gs a b).1 (andP inp (andP inp gs a b).2 c d).1).2) (orP inp (andP inp (andP inp gs a b).2 c d).2 (andP inp gs a b).1 (andP inp (andP inp gs a b).2 c d).1).1 = ((valP (nodesP vs gs) a && valP (nodesP vs gs) b) || (valP (nodesP vs gs) c && valP (nodesP vs gs) d)) := by
 obtain ⟨a1, b1, _⟩ := andP_ok hi ha hb
 obtain ⟨a2, b2, _⟩ := andP_ok hi (hc.mono b1) (hd.mono b1)
 have g1 := andP_gates hg ha hb
 have g2 := andP_gates g1 (hc.mono b1) (hd.mono b1)
 rw [orP_val hv hi g2 (a1.mono b2) a2, valP_mono hv b2 a1, andP_val hv hg ha hb, andP_val hv g1 (hc.mono b1) (hd.mono b1), valP_mono hv b1 hc, valP_mono hv b1 hd]
theorem getD_map {α β : Type} (f : α → β) {l : List α} {i : Nat} (d : α) (d' : β) (h : i < l.length) : (l.map f).getD i d' = f (l.getD i d) := by simp [List.getD, h]
theorem makeL_val {ks : List Ex} (hi : 0 ≤ inp) (hv : (vs.length : Int) = inp) (hr : ∀ e ∈ ks, rightE e = true) (hm : mostL ks < inp)
  (h : ∀ e ∈ ks, ∀ gs, mostE e < inp → GatesOK inp gs → GatesOK inp (makeP inp e gs).2 ∧ valP (nodesP vs (makeP inp e gs).2) (makeP inp e gs).1 = evE vs e) :
  ∀ gs, GatesOK inp gs → GatesOK inp (makeL inp ks gs).2 ∧ (makeL inp ks gs).1.map (valP (nodesP vs (makeL inp ks gs).2)) = evL vs ks := by
 induction ks with
 | nil => intro gs hg; exact ⟨hg, rfl⟩
 | cons e r ih =>
  intro gs hg
  simp only [mostL] at hm
  obtain ⟨g1, v1⟩ := h e (by simp) gs (by omega) hg
  obtain ⟨g2, v2⟩ := ih (fun x hx => hr x (by simp [hx])) (by omega) (fun x hx => h x (by simp [hx])) _ g1
  have k := (makeP_ok hi e (hr e (by simp)) gs (by omega)).1
  simp only [makeL, evL, List.map_cons]
  exact ⟨g2, by rw [v2, valP_mono hv (makeL_pre (fun e _ => makeP_pre inp e) _) k, v1]⟩
theorem makeP_val (hi : 0 ≤ inp) (hv : (vs.length : Int) = inp) : ∀ e, rightE e = true → ∀ gs, mostE e < inp → GatesOK inp gs → GatesOK inp (makeP inp e gs).2 ∧ valP (nodesP vs (makeP inp e gs).2) (makeP inp e gs).1 = evE vs e := by
 refine Ex.ind fun k n ks ih hr gs hm hg => ?_
 have hk := right_kids hr
 simp only [mostE] at hm
 rcases kinds hr with ⟨rfl, rfl, h0, h1⟩ | ⟨rfl, rfl, h⟩ | ⟨h3, h7, rfl, hl⟩
 ·simp only [makeP, evE, ↓reduceIte] at hm ⊢
  refine ⟨hg, ?_⟩
  have h := nodesP_app vs [] gs
  rw [List.nil_append] at h
  have hl0 : ((2 * n + 2) / 2).toNat < (nodesP vs []).length := by rw [nodesP_len]; simp; omega
  rw [valP_pre h hl0]
  unfold valP
  rw [decide_eq_false (show ¬ (2 * n + 2) % 2 = 1 by omega), show ((2 * n + 2) / 2).toNat = n.toNat + 1 by omega]
  simp [nodesP]
 ·simp only [makeP, evE, ↓reduceIte, Int.reduceEq]
  refine ⟨hg, ?_⟩
  rcases h with rfl | rfl
  ·rw [val_zero]; rfl
  ·rw [val_one]; rfl
 ·have hL := makeL_ok (fun e he => makeP_ok hi e (hk e he)) (by omega) gs
  obtain ⟨g1, v1⟩ := makeL_val hi hv hk (by omega) (fun e he => ih e he (hk e he)) gs hg
  have hll := hL.2.2.2
  have hlk := hL.1
  simp only [makeP, evE]
  rw [if_neg (by omega), if_neg (by omega), if_neg (by omega), if_neg (by omega), ← v1]
  generalize makeL inp ks gs = M at *
  obtain ⟨l, gs2⟩ := M
  dsimp only at *
  have hO := opP_gates (k := k) hi g1 hlk h3 (by rw [hll, hl]; exact Int.le_refl _) h7
  refine ⟨hO, ?_⟩
  have hgt : ∀ i : Nat, (i : Int) < arity k → LitOK inp gs2 (l.getD i 0) := fun i h => hlk _ (getD_mem 0 (by omega))
  have hmp : ∀ i : Nat, (i : Int) < arity k → (l.map (valP (nodesP vs gs2))).getD i false = valP (nodesP vs gs2) (l.getD i 0) := fun i h => getD_map _ _ _ (by omega)
  have hkk : k = 3 ∨ k = 4 ∨ k = 5 ∨ k = 6 ∨ k = 7 := by omega
  rcases hkk with rfl | rfl | rfl | rfl | rfl
  ·rw [hmp 0 (by decide)]
   show valP (nodesP vs gs2) (notP (l.getD 0 0)) = _
   rw [valP_not (hgt 0 (by decide)).1]; rfl
  ·rw [hmp 0 (by decide), hmp 1 (by decide)]
   exact andP_val hv g1 (hgt 0 (by decide)) (hgt 1 (by decide))
  ·rw [hmp 0 (by decide), hmp 1 (by decide)]
   exact orP_val hv hi g1 (hgt 0 (by decide)) (hgt 1 (by decide))
  ·rw [hmp 0 (by decide), hmp 1 (by decide)]
   have := two_val hv hi g1 (hgt 0 (by decide)) (notP_ok (hgt 1 (by decide))) (notP_ok (hgt 0 (by decide))) (hgt 1 (by decide))
   rw [valP_not (hgt 0 (by decide)).1, valP_not (hgt 1 (by decide)).1] at this
   refine Eq.trans (by rfl) (this.trans ?_)
   cases valP (nodesP vs gs2) (l.getD 0 0) <;> cases valP (nodesP vs gs2) (l.getD 1 0) <;> rfl
  ·rw [hmp 0 (by decide), hmp 1 (by decide), hmp 2 (by decide)]
   have := two_val hv hi g1 (hgt 0 (by decide)) (hgt 1 (by decide)) (notP_ok (hgt 0 (by decide))) (hgt 2 (by decide))
   rw [valP_not (hgt 0 (by decide)).1] at this
   refine Eq.trans (by rfl) (this.trans ?_)
   cases valP (nodesP vs gs2) (l.getD 0 0) <;> cases valP (nodesP vs gs2) (l.getD 1 0) <;> cases valP (nodesP vs gs2) (l.getD 2 0) <;> rfl
end
end
section
attribute [local irreducible] SRun DS DRun
variable {Γ : St} {σ σ0 : St}
theorem nodesOf_ok {inp : Int} {gs : List (Int × Int)} (hinp : 0 ≤ inp ∧ inp ≤ 12) (hl : gs.length ≤ 400) : Ret Try.prog Γ 79 [aigV inp gs] σ (.int .i64 (1 + inp + gs.length)) σ := by
 have hgl := gsV_len gs
 refine ret_of c79_ok rfl ?_
 simp (disch := omega) only [c79, aigV, go_sem]
 refine SRun.boxR (by simp [ev, look, V.cells, V.one]) ?_
 intro b hb
 simp (disch := omega) only [hgl, go_sem]
 exact W_retC c79_ok rfl (Conv.drop _ (le_upd hb)) ⟨rfl, rfl⟩
theorem isAigLiteral_ok {inp : Int} {gs : List (Int × Int)} {x : Int} (hinp : 0 ≤ inp ∧ inp ≤ 12) (hl : gs.length ≤ 400) (hx : LitOK inp gs x) : Ret Try.prog Γ 59 [aigV inp gs, .int .i64 x] σ (.bool true) σ := by
 refine ret_of c59_ok rfl ?_
 simp (disch := omega) only [c59, aigV, go_sem]
 refine SRun.boxR (by simp [ev, look, V.cells, V.one]) ?_
 intro b hb
 simp (disch := omega) only [go_sem]
 refine SRun.callR (nodesOf_ok (inp := inp) (gs := gs) hinp hl) ⟨[], rfl, rfl⟩ rfl ?_
 simp (disch := omega) only [go_sem]
 refine SRun.callR (within_ok x 0 (2 * (1 + inp + gs.length) - 1)) ⟨[], rfl, rfl⟩ rfl ?_
 simp (disch := omega) only [List.getD_cons_zero, List.getD_cons_succ, go_sem]
 unfold LitOK at hx
 have hb2 : (decide (0 ≤ x) && decide (x ≤ 2 * (1 + inp + gs.length) - 1)) = true := by simp; omega
 exact W_retC c59_ok rfl (Conv.drop _ (le_upd hb)) ⟨by simp only [look, ev, V.bool.injEq, V.int.injEq, V.str.injEq, V.tup.injEq, V.agg.injEq, V.isl.injEq, List.cons.injEq, true_and, and_true, Nat.reduceEqDiff, Nat.reduceAdd, Nat.reduceSub, Nat.reduceMul, Nat.reducePow, Nat.reduceDiv, Nat.reduceMod, Int.reduceToNat, Nat.reduceLeDiff, Nat.reduceLT, Int.reduceEq, Int.reduceLT, Int.reduceLE, Int.reduceGT, Int.reduceGE, Int.reduceNeg, Int.reduceSub, Int.reduceAdd, Int.reduceMul, Int.reducePow, ne_eq, reduceCtorEq, ↓reduceIte]; exact hb2, rfl⟩
end
end Go.Proofs.Ytdenfjbhkdhlkaa.Lg
