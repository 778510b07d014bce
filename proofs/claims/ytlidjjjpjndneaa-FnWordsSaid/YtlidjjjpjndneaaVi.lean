/- Words: bits that are checked, and words that are drawn. -/
import Derived.Test.YtlidjjjpjndneaaVg
set_option linter.unusedSimpArgs false
set_option linter.unusedVariables false
namespace Go.Proofs.Ytlidjjjpjndneaa.Lg
open Go
attribute [local irreducible] SRun DS DRun
variable {Γ : St} {σ σ0 : St}
/-- What is said of bits. -/
def bitsA (es : List Ex) : V := bif es.all okE then .tup [.isl false 3 (exsV es), .int .i64 0] else .tup [.isl false 3 [], .int .i64 11]
theorem checkedExs_ok {ex : Bool} {ks : List Ex} (hl : ks.length ≤ 100000) (hsz : ∀ e ∈ ks, sizeE e ≤ 1000000) : Ret Try.prog Γ 65 [.isl ex 3 (exsV ks)] σ (bitsA ks) σ := by
  have hA : bitsA ks = bif ks.all okE then .tup [.isl false 3 (exsV ks), .int .i64 0] else .tup [.isl false 3 [], .int .i64 11] := rfl
  refine ret_of c65_ok rfl ?_
  simp (disch := omega) only [c65, go_sem, ↓if_pos, ne_eq, ↓reduceIte]
  refine SRun.callR (areExs_ok (ex := ex) (ks := ks) (by omega) hsz) ⟨[], rfl, rfl⟩ rfl ?_
  generalize ks.all okE = q at *
  cases q with
  | false =>
    simp (disch := omega) only [go_sem, ↓if_pos, ne_eq, ↓reduceIte]
    exact W_retC c65_ok (r := .tup [.isl true 0 [], .int .i64 11]) (r' := .tup [.isl false 3 [], .int .i64 11]) (σ' := σ) rfl ⟨fun _ _ h => h, frz_tup (by exact ⟨frz_nil _ _, .refl _, trivial⟩)⟩ ⟨hA.symm, rfl⟩
  | true =>
    simp (disch := omega) only [go_sem, ↓if_pos, ne_eq, ↓reduceIte]
    refine W_loopC (α := Nat × V × St × St) (fun p => p.1 ≤ ks.length ∧ OwnL p.2.2.1 3 (exsV (ks.take p.1)) p.2.1 p.2.2.2 ∧ ∀ d x, σ d = some x → p.2.2.1 d = some x)
      (fun p => [(4, p.2.1), (10, .isl ex 3 (exsV ks)), (11, .int .i64 ks.length), (12, .int .i64 (p.1 : Nat))]) (fun p => p.2.2.2) (fun p => ks.length - p.1) (0, .isl true 0 [], σ, σ) ⟨by simp, OwnL.nil _ _, fun _ _ h => h⟩ (by simp (disch := omega) only [subT, Int.natCast_add, Int.cast_ofNat_Int, go_sem, ↓if_pos, ne_eq, ↓reduceIte] <;> (repeat' apply And.intro) <;> first | rfl | (congr 1; omega) | assumption) rfl ?_
    rintro ⟨i, t, A, s⟩ ⟨hi, ho, hle⟩ ih2
    dsimp only at hi ho hle
    simp (disch := omega) only [go_sem, ↓if_pos, ne_eq, ↓reduceIte]
    first | refine iteW_dec (fun hq => ?_) (fun hq => ?_) | refine iteW_of (fun hq => ?_) (fun hq => ?_)
    · have he := getD_mem default (by omega : i < ks.length)
      simp (disch := omega) only [go_sem, ↓if_pos, ne_eq, ↓reduceIte]
      refine SRun.allocR ?_
      intro b5 hb5
      have ho2 := ho.ext (z := exC (ks.getD i default)) hb5
      simp (disch := omega) only [go_sem, ↓if_pos, ne_eq, ↓reduceIte]
      refine SRun.callR (cloneEx_ok _ (hsz _ he)) ⟨[], rfl, rfl⟩ rfl ?_
      simp (disch := omega) only [List.getD_cons_zero, List.getD_cons_succ, go_sem, ↓if_pos, ne_eq, ↓reduceIte]
      refine SRun.appL ho2 rfl (exs1_ok _) (by rw [exsV_len]; simp only [List.length_take, List.length_singleton]; omega) ?_
      intro t2 s3 ho3
      rw [exs_take (by omega)] at ho3
      have hA : A b5 = none := by
        cases hc : A b5 with
        | none => rfl
        | some x => rw [ho.get hc] at hb5; cases hb5
      simp (disch := omega) only [go_sem, ↓if_pos, ne_eq, ↓reduceIte]
      exact ih2 (i + 1, t2, _, s3) _ _ ⟨by simp only; omega, ho3, fun d z h => le_upd hA _ _ (hle _ _ h)⟩ (by simp only; omega) (by simp (disch := omega) only [subT, Int.natCast_add, Int.cast_ofNat_Int, go_sem, ↓if_pos, ne_eq, ↓reduceIte] <;> (repeat' apply And.intro) <;> first | rfl | (congr 1; omega) | assumption) rfl
    · have hik : i = ks.length := by omega
      rw [hik, List.take_length] at ho
      simp (disch := omega) only [go_sem, ↓if_pos, ne_eq, ↓reduceIte]
      refine W_retC c65_ok (r := .tup [t, .int .i64 0]) (r' := .tup [.isl false 3 (exsV ks), .int .i64 0]) (σ' := σ) rfl ⟨fun d x hd => ho.le _ _ (hle _ _ hd), frz_tup (by exact ⟨ho.frz (fun _ _ => rfl) (fun d hd => by
        cases hc : σ d with
        | none => rfl
        | some x => rw [hle _ _ hc] at hd; cases hd), .refl _, trivial⟩)⟩ ⟨hA.symm, rfl⟩
/-- What is left, of one that is not too deep. -/
theorem l04LeftG_ok : ∀ e, ∀ {Γ σ : St} {l d : Int}, 0 ≤ d → d + depthE e ≤ 41 → 0 ≤ l → l ≤ 1000000 → sizeE e ≤ 1000000 → ACalls Try.prog Γ 153 [exV e, .int .i64 l, .int .i64 d] σ fun r s => ∃ m : Int, r = .int .i64 m ∧ s = σ ∧ m ≤ 1000000 ∧ -1000000 ≤ m ∧ ((sizeE e : Int) ≤ l → m = l - sizeE e) ∧ (l < sizeE e → m < 0) := by
  refine Ex.ind fun k n ks ih Γ σ l d hd0 hd hl hl1 hsz => ?_
  have hlen := sizeL_len ks
  simp only [sizeE, depthE] at hd hsz
  refine acalls_W c153_ok rfl ?_
  simp (disch := omega) only [c153, exV_mk, go_sem, ↓if_pos, ne_eq, ↓reduceIte]
  refine SRun.boxR (by simp [ev, look, V.cells, V.one]) ?_
  intro b3 hb3
  have g3 : upd σ b3 [.int .i64 k, .int .i64 n, .isl false 3 (exsV ks)] b3 = some [.int .i64 k, .int .i64 n, .isl false 3 (exsV ks)] := upd_same _ _ _
  have hle : ∀ d x, σ d = some x → upd σ b3 [.int .i64 k, .int .i64 n, .isl false 3 (exsV ks)] d = some x := le_upd hb3
  simp (disch := omega) only [g3, exC_mk, go_sem, ↓if_pos, ne_eq, ↓reduceIte]
  refine W_loopC (α := Nat × Int) (fun p => p.1 ≤ ks.length ∧ p.2 ≤ 1000000 ∧ -1000000 ≤ p.2 ∧ ((0 ≤ p.2 ∧ p.2 - sizeL (ks.drop p.1) = l - 1 - sizeL ks) ∨ (p.2 < 0 ∧ l < 1 + sizeL ks))) (fun p => [(3, .ptr b3 0), (1, .int .i64 p.2), (2, .int .i64 d), (7, .int .i64 (p.1 : Nat))]) (fun _ => upd σ b3 [.int .i64 k, .int .i64 n, .isl false 3 (exsV ks)]) (fun p => ks.length - p.1) (0, l - 1) ⟨by simp, by simp only; omega, by simp only; omega, by dsimp only; rw [List.drop_zero]; omega⟩ (by simp (disch := omega) only [subT, Int.natCast_add, Int.cast_ofNat_Int, go_sem, ↓if_pos, ne_eq, ↓reduceIte] <;> (repeat' apply And.intro) <;> first | rfl | (congr 1; omega) | assumption) rfl ?_
  rintro ⟨i, a⟩ ⟨hi, ha1, ha2, hor⟩ ih2
  dsimp only at hi ha1 ha2 hor
  simp (disch := omega) only [g3, exC_mk, go_sem, ↓if_pos, ne_eq, ↓reduceIte]
  first | refine guardW_dec (fun hq => ?_) (fun hq => ?_) | refine guardW_by (fun hq => ?_) (fun hq => ?_)
  · have he := getD_mem default (by omega : i < ks.length)
    have hdp := depthL_mem he
    have hsm := sizeL_mem he
    by_cases ha : 0 ≤ a
    · have ha0 : decide (a ≥ 0) = true := decide_eq_true (by omega)
      rw [drop_cons default (by omega : i < ks.length)] at hor
      simp only [sizeL] at hor
      simp (disch := omega) only [g3, exC_mk, ha0, go_sem, ↓if_pos, ne_eq, ↓reduceIte]
      refine SRun.callQ (ih _ he (by omega) (by omega) ha (by omega) (by omega)) ⟨[], rfl, rfl⟩ rfl ?_
      rintro r s ⟨m, rfl, hs, hm1, hm2, hm3, hm4⟩
      obtain rfl := hs.symm
      simp (disch := omega) only [go_sem, ↓if_pos, ne_eq, ↓reduceIte]
      exact ih2 (i + 1, m) _ _ ⟨by simp only; omega, by simp only; omega, by simp only; omega, by simp only; omega⟩ (by simp only; omega) (by simp (disch := omega) only [subT, Int.natCast_add, Int.cast_ofNat_Int, go_sem, ↓if_pos, ne_eq, ↓reduceIte] <;> (repeat' apply And.intro) <;> first | rfl | (congr 1; omega) | assumption) rfl
    · have ha0 : decide (a ≥ 0) = false := decide_eq_false (by omega)
      simp (disch := omega) only [ha0, go_sem, ↓if_pos, ne_eq, ↓reduceIte]
      exact W_retC c153_ok (r := .int .i64 a) (r' := .int .i64 a) (σ' := σ) rfl (Conv.drop _ hle) ⟨a, rfl, rfl, ha1, ha2, by simp only [sizeE]; omega, by simp only [sizeE]; omega⟩
  · obtain rfl : i = ks.length := by omega
    rw [List.drop_length] at hor
    simp only [sizeL] at hor
    simp (disch := omega) only [go_sem, ↓if_pos, ne_eq, ↓reduceIte]
    exact W_retC c153_ok (r := .int .i64 a) (r' := .int .i64 a) (σ' := σ) rfl (Conv.drop _ hle) ⟨a, rfl, rfl, ha1, ha2, by simp only [sizeE]; omega, by simp only [sizeE]; omega⟩
theorem ExOKsG_ok {e : Ex} (hr : rightE e = true) (hd : depthE e ≤ 40) (hsz : sizeE e ≤ 1000000) : Ret Try.prog Γ 75 [exV e] σ (.bool (okE e)) σ := by
  have hA : okE e = decide (sizeE e ≤ 400) := by simp [okE, hr, hd]
  rw [hA]
  refine ret_of c75_ok rfl ?_
  simp (disch := omega) only [c75, go_sem, ↓if_pos, ne_eq, ↓reduceIte]
  refine SRun.boxR (by show ∀ c ∈ (exV e).cells, _; rw [cells_exV]; exact exC_one e) ?_
  intro b1 hb1
  simp (disch := omega) only [go_sem, ↓if_pos, ne_eq, ↓reduceIte]
  refine SRun.callQ (l04LeftG_ok e (l := 400) (d := 1) (by omega) (by omega) (by omega) (by omega) hsz) ⟨[], rfl, rfl⟩ rfl ?_
  rintro r s ⟨m, rfl, hs, hm1, hm2, hm3, hm4⟩
  obtain rfl := hs.symm
  by_cases h4 : sizeE e ≤ 400
  · have hm : m = 400 - sizeE e := hm3 (by omega)
    have hd : decide (m ≥ 0) = true := decide_eq_true (by omega)
    simp (disch := omega) only [hd, go_sem, ↓if_pos, ne_eq, ↓reduceIte]
    refine SRun.callR (l04Right_ok e hr (by omega)) ⟨[], rfl, rfl⟩ rfl ?_
    simp (disch := omega) only [go_sem, ↓if_pos, ne_eq, ↓reduceIte]
    exact W_retC c75_ok rfl (Conv.drop _ (le_upd hb1)) ⟨by simp only [look, ev, V.bool.injEq, V.int.injEq, V.str.injEq, V.tup.injEq, V.agg.injEq, V.isl.injEq, List.cons.injEq, true_and, and_true, Nat.reduceEqDiff, Nat.reduceAdd, Nat.reduceSub, Nat.reduceMul, Nat.reducePow, Nat.reduceDiv, Nat.reduceMod, Int.reduceToNat, Nat.reduceLeDiff, Nat.reduceLT, Int.reduceEq, Int.reduceLT, Int.reduceLE, Int.reduceGT, Int.reduceGE, Int.reduceNeg, Int.reduceSub, Int.reduceAdd, Int.reduceMul, Int.reducePow, ne_eq, reduceCtorEq, ↓reduceIte]; exact (decide_eq_true h4).symm, rfl⟩
  · have hm : m < 0 := hm4 (by omega)
    have hd : decide (m ≥ 0) = false := decide_eq_false (by omega)
    simp (disch := omega) only [hd, go_sem, ↓if_pos, ne_eq, ↓reduceIte]
    exact W_retC c75_ok rfl (Conv.drop _ (le_upd hb1)) ⟨by simp only [look, ev, V.bool.injEq, V.int.injEq, V.str.injEq, V.tup.injEq, V.agg.injEq, V.isl.injEq, List.cons.injEq, true_and, and_true, Nat.reduceEqDiff, Nat.reduceAdd, Nat.reduceSub, Nat.reduceMul, Nat.reducePow, Nat.reduceDiv, Nat.reduceMod, Int.reduceToNat, Nat.reduceLeDiff, Nat.reduceLT, Int.reduceEq, Int.reduceLT, Int.reduceLE, Int.reduceGT, Int.reduceGE, Int.reduceNeg, Int.reduceSub, Int.reduceAdd, Int.reduceMul, Int.reducePow, ne_eq, reduceCtorEq, ↓reduceIte]; exact (decide_eq_false h4).symm, rfl⟩
theorem l05Fits_ok {ex : Bool} {ks : List Ex} (hl : ks.length ≤ 100000) (hf : ∀ e ∈ ks, Fine 1000000 40 e) : Ret Try.prog Γ 68 [.isl ex 3 (exsV ks)] σ (.bool (ks.all okE)) σ := by
  refine ret_of c68_ok rfl ?_
  simp (disch := omega) only [c68, go_sem, ↓if_pos, ne_eq, ↓reduceIte]
  refine W_loopC (α := Nat) (fun i => i ≤ ks.length ∧ (ks.take i).all okE = true) (fun i => [(0, .isl ex 3 (exsV ks)), (3, .int .i64 (i : Nat))]) (fun _ => σ) (fun i => ks.length - i) 0 ⟨by omega, rfl⟩ (by simp (disch := omega) only [subT, Int.natCast_add, Int.cast_ofNat_Int, go_sem, ↓if_pos, ne_eq, ↓reduceIte] <;> (repeat' apply And.intro) <;> first | rfl | (congr 1; omega) | assumption) rfl ?_
  rintro i ⟨hi, hall⟩ ih
  simp (disch := omega) only [go_sem, ↓if_pos, ne_eq, ↓reduceIte]
  first | refine iteW_dec (fun hq => ?_) (fun hq => ?_) | refine iteW_of (fun hq => ?_) (fun hq => ?_)
  · have he := getD_mem default (by omega : i < ks.length)
    have hfe := hf _ he
    simp (disch := omega) only [go_sem, ↓if_pos, ne_eq, ↓reduceIte]
    refine SRun.callR (ExOKsG_ok hfe.right hfe.depth hfe.size) ⟨[], rfl, rfl⟩ rfl ?_
    generalize hqq : okE (ks.getD i default) = q
    cases q with
    | true =>
      simp (disch := omega) only [go_sem, ↓if_pos, ne_eq, ↓reduceIte]
      exact ih (i + 1) _ _ ⟨by omega, by rw [take_succ default (by omega), List.all_append, hall, List.all_cons, hqq]; rfl⟩ (by omega) (by simp (disch := omega) only [subT, Int.natCast_add, Int.cast_ofNat_Int, go_sem, ↓if_pos, ne_eq, ↓reduceIte] <;> (repeat' apply And.intro) <;> first | rfl | (congr 1; omega) | assumption) rfl
    | false =>
      simp (disch := omega) only [go_sem, ↓if_pos, ne_eq, ↓reduceIte]
      refine W_retR c68_ok rfl ⟨?_, rfl⟩
      simp only [look, ev, V.bool.injEq, V.int.injEq, V.str.injEq, V.tup.injEq, V.agg.injEq, V.isl.injEq, List.cons.injEq, true_and, and_true, Nat.reduceEqDiff, Nat.reduceAdd, Nat.reduceSub, Nat.reduceMul, Nat.reducePow, Nat.reduceDiv, Nat.reduceMod, Int.reduceToNat, Nat.reduceLeDiff, Nat.reduceLT, Int.reduceEq, Int.reduceLT, Int.reduceLE, Int.reduceGT, Int.reduceGE, Int.reduceNeg, Int.reduceSub, Int.reduceAdd, Int.reduceMul, Int.reducePow, ne_eq, reduceCtorEq, ↓reduceIte]
      symm; rw [List.all_eq_false]; exact ⟨_, he, by rw [hqq]; simp⟩
  · rw [List.take_of_length_le (by omega)] at hall
    simp (disch := omega) only [go_sem, ↓if_pos, ne_eq, ↓reduceIte]
    exact W_retR c68_ok rfl ⟨by simp only [look, ev, V.bool.injEq, V.int.injEq, V.str.injEq, V.tup.injEq, V.agg.injEq, V.isl.injEq, List.cons.injEq, true_and, and_true, Nat.reduceEqDiff, Nat.reduceAdd, Nat.reduceSub, Nat.reduceMul, Nat.reducePow, Nat.reduceDiv, Nat.reduceMod, Int.reduceToNat, Nat.reduceLeDiff, Nat.reduceLT, Int.reduceEq, Int.reduceLT, Int.reduceLE, Int.reduceGT, Int.reduceGE, Int.reduceNeg, Int.reduceSub, Int.reduceAdd, Int.reduceMul, Int.reducePow, ne_eq, reduceCtorEq, ↓reduceIte]; exact hall.symm, rfl⟩
theorem sbW_le {d : Nat} (h : d ≤ 3) : sbW d ≤ 496 := by
  match d, h with
  | 0, _ => decide
  | 1, _ => decide
  | 2, _ => decide
  | 3, _ => decide
theorem bits_fine3 {w : W3} {d : Nat} (h : okW w d) (hd : d ≤ 3) : ∀ e ∈ bitsW w, Fine 1000 40 e := fun e he => (bits_fine w d h e he).mono (by have := sbW_le hd; omega) (by omega)
theorem WordBits_ok {w : W3} {d : Nat} (h : okW w d) (hd : d ≤ 3) (hs : sizeW w ≤ 9) : Ret Try.prog Γ 15 [wdV w, .int .i64 3] σ (bitsA (bitsW w)) σ := by
  have hlb := bitsW_len w
  have hff := bits_fine3 h hd
  refine ret_of c15_ok rfl ?_
  simp (disch := omega) only [c15, wdV, go_sem, ↓if_pos, ne_eq, ↓reduceIte]
  refine SRun.boxR (wd_box w) ?_
  intro b2 hb2
  simp (disch := omega) only [go_sem, ↓if_pos, ne_eq, ↓reduceIte]
  refine SRun.callR (isWord_ok h hs) ⟨[], rfl, rfl⟩ rfl ?_
  simp (disch := omega) only [go_sem, ↓if_pos, ne_eq, ↓reduceIte]
  refine SRun.callR (wordBits_ok w d h) ⟨[], rfl, rfl⟩ rfl ?_
  simp (disch := omega) only [go_sem, ↓if_pos, ne_eq, ↓reduceIte]
  refine SRun.callR (checkedExs_ok (ex := false) (ks := bitsW w) (by omega) (fun e he => by have := (hff e he).size; omega)) ⟨[], rfl, rfl⟩ rfl ?_
  have hA : bitsA (bitsW w) = bif (bitsW w).all okE then .tup [.isl false 3 (exsV (bitsW w)), .int .i64 0] else .tup [.isl false 3 [], .int .i64 11] := rfl
  generalize (bitsW w).all okE = q at *
  cases q with
  | true =>
    rw [hA]
    simp (disch := omega) only [go_sem, ↓if_pos, ne_eq, ↓reduceIte]
    exact W_retC c15_ok rfl (Conv.drop _ (le_upd hb2)) ⟨rfl, rfl⟩
  | false =>
    rw [hA]
    simp (disch := omega) only [go_sem, ↓if_pos, ne_eq, ↓reduceIte]
    exact W_retC c15_ok rfl (Conv.drop _ (le_upd hb2)) ⟨rfl, rfl⟩
theorem WordBitss_ok {w : W3} {d : Nat} (h : okW w d) (hd : d ≤ 3) (hs : sizeW w ≤ 9) : Ret Try.prog Γ 16 [wdV w, .int .i64 3] σ (bitsA (bitsW w)) σ := by
  have hlb := bitsW_len w
  have hff := bits_fine3 h hd
  have hA : bitsA (bitsW w) = bif (bitsW w).all okE then .tup [.isl false 3 (exsV (bitsW w)), .int .i64 0] else .tup [.isl false 3 [], .int .i64 11] := rfl
  refine ret_of c16_ok rfl ?_
  simp (disch := omega) only [c16, wdV, go_sem, ↓if_pos, ne_eq, ↓reduceIte]
  refine SRun.boxR (wd_box w) ?_
  intro b2 hb2
  simp (disch := omega) only [go_sem, ↓if_pos, ne_eq, ↓reduceIte]
  refine SRun.callR (WordOKs_ok h hs) ⟨[], rfl, rfl⟩ rfl ?_
  simp (disch := omega) only [go_sem, ↓if_pos, ne_eq, ↓reduceIte]
  refine SRun.callR (l05Bits_ok w d hd h) ⟨[], rfl, rfl⟩ rfl ?_
  simp (disch := omega) only [go_sem, ↓if_pos, ne_eq, ↓reduceIte]
  refine SRun.callR (l05Fits_ok (ex := false) (ks := bitsW w) (by omega) (fun e he => (hff e he).mono (by omega) (by omega))) ⟨[], rfl, rfl⟩ rfl ?_
  generalize (bitsW w).all okE = q at *
  cases q with
  | true =>
    simp (disch := omega) only [go_sem, ↓if_pos, ne_eq, ↓reduceIte]
    exact W_retC c16_ok (r := .tup [.isl false 3 (exsV (bitsW w)), .int .i64 0]) (r' := .tup [.isl false 3 (exsV (bitsW w)), .int .i64 0]) (σ' := σ) rfl (Conv.drop _ (le_upd hb2)) ⟨hA.symm, rfl⟩
  | false =>
    simp (disch := omega) only [go_sem, ↓if_pos, ne_eq, ↓reduceIte]
    exact W_retC c16_ok (r := .tup [.isl true 3 [], .int .i64 11]) (r' := .tup [.isl false 3 [], .int .i64 11]) (σ' := σ) rfl ⟨le_upd hb2, frz_tup (by exact ⟨frz_nil _ _, .refl _, trivial⟩)⟩ ⟨hA.symm, rfl⟩
end Go.Proofs.Ytlidjjjpjndneaa.Lg
