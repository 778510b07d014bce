/- What is told of the functions that are reached, as far as it is asked here. -/
import Derived.Test.YtlidjjjpjndneaaKf3
import Derived.KernelRfl
set_option linter.unusedSimpArgs false
set_option linter.unusedVariables false
namespace Go.Proofs.Ytlidjjjpjndneaa.Lg
open Go
section
attribute [local irreducible] SRun DS DRun
variable {Γ : St} {σ σ0 : St}
end
section
attribute [local irreducible] SRun DS DRun
variable {Γ : St} {σ σ0 : St}
section
variable {P : Program} {f : FuncId} {n : Nat} {Q : V → St → Prop} {k : List It} {T : Ts} {g : GI} {l : List GI}
end
end
section
attribute [local irreducible] SRun DS DRun
variable {Γ : St} {σ σ0 : St}
end
section
attribute [local irreducible] SRun DS DRun
variable {Γ : St} {σ σ0 : St}
end
section
attribute [local irreducible] SRun DS DRun
variable {Γ : St} {σ σ0 : St}
/-- What is left, of one that is not too deep. -/
theorem l04LeftG_ok : ∀ e, ∀ {Γ σ : St} {l d : Int}, 0 ≤ d → d + depthE e ≤ 41 → 0 ≤ l → l ≤ 1000000 → sizeE e ≤ 1000000 → ACalls Try.prog Γ 153 [exV e, .int .i64 l, .int .i64 d] σ fun r s => ∃ m : Int, r = .int .i64 m ∧ s = σ ∧ m ≤ 1000000 ∧ -1000000 ≤ m ∧ ((sizeE e : Int) ≤ l → m = l - sizeE e) ∧ (l < sizeE e → m < 0) := by
  refine Ex.ind fun k n ks ih Γ σ l d hd0 hd hl hl1 hsz => ?_
  have hlen := sizeL_len ks
  simp only [sizeE, depthE] at hd hsz
  refine acalls_W c153_ok rfl ?_
  simp (disch := omega) only [c153, exV_mk, go_sem, ↓if_pos, ne_eq, ↓reduceIte]
  refine SRun.boxR (by simp [ev, look, V.cells, V.one]) ?_
  intro b3 hb3
  have g3 : upd σ b3 [.int .i64 k, .int .i64 n, .isl false 3 (exsV ks)] b3 = some [.int .i64 k, .int .i64 n, .isl false 3 (exsV ks)] := upd_same _ _ _
  have hle : ∀ d x, σ d = some x → upd σ b3 [.int .i64 k, .int .i64 n, .isl false 3 (exsV ks)] d = some x := le_upd hb3
  simp (disch := omega) only [g3, exC_mk, go_sem, ↓if_pos, ne_eq, ↓reduceIte]
  refine W_loopC (α := Nat × Int) (fun p => p.1 ≤ ks.length ∧ p.2 ≤ 1000000 ∧ -1000000 ≤ p.2 ∧ ((0 ≤ p.2 ∧ p.2 - sizeL (ks.drop p.1) = l - 1 - sizeL ks) ∨ (p.2 < 0 ∧ l < 1 + sizeL ks))) (fun p => [(3, .ptr b3 0), (1, .int .i64 p.2), (2, .int .i64 d), (7, .int .i64 (p.1 : Nat))]) (fun _ => upd σ b3 [.int .i64 k, .int .i64 n, .isl false 3 (exsV ks)]) (fun p => ks.length - p.1) (0, l - 1) ⟨by simp, by simp only; omega, by simp only; omega, by dsimp only; rw [List.drop_zero]; omega⟩ (by simp (disch := omega) only [subT, Int.natCast_add, Int.cast_ofNat_Int, go_sem, ↓if_pos, ne_eq, ↓reduceIte] <;> (repeat' apply And.intro) <;> first | rfl | (congr 1; omega) | assumption) rfl ?_
  rintro ⟨i, a⟩ ⟨hi, ha1, ha2, hor⟩ ih2
  dsimp only at hi ha1 ha2 hor
  simp (disch := omega) only [g3, exC_mk, go_sem, ↓if_pos, ne_eq, ↓reduceIte]
  first | refine guardW_dec (fun hq => ?_) (fun hq => ?_) | refine guardW_by (fun hq => ?_) (fun hq => ?_)
  · have he := getD_mem default (by omega : i < ks.length)
    have hdp := depthL_mem he
    have hsm := sizeL_mem he
    by_cases ha : 0 ≤ a
    · have ha0 : decide (a ≥ 0) = true := decide_eq_true (by omega)
      rw [drop_cons default (by omega : i < ks.length)] at hor
      simp only [sizeL] at hor
      simp (disch := omega) only [g3, exC_mk, ha0, go_sem, ↓if_pos, ne_eq, ↓reduceIte]
      refine SRun.callQ (ih _ he (by omega) (by omega) ha (by omega) (by omega)) ⟨[], rfl, rfl⟩ rfl ?_
      rintro r s ⟨m, rfl, hs, hm1, hm2, hm3, hm4⟩
      obtain rfl := hs.symm
      simp (disch := omega) only [go_sem, ↓if_pos, ne_eq, ↓reduceIte]
      exact ih2 (i + 1, m) _ _ ⟨by simp only; omega, by simp only; omega, by simp only; omega, by simp only; omega⟩ (by simp only; omega) (by simp (disch := omega) only [subT, Int.natCast_add, Int.cast_ofNat_Int, go_sem, ↓if_pos, ne_eq, ↓reduceIte] <;> (repeat' apply And.intro) <;> first | rfl | (congr 1; omega) | assumption) rfl
    · have ha0 : decide (a ≥ 0) = false := decide_eq_false (by omega)
      simp (disch := omega) only [ha0, go_sem, ↓if_pos, ne_eq, ↓reduceIte]
      exact W_retC c153_ok (r := .int .i64 a) (r' := .int .i64 a) (σ' := σ) rfl (Conv.drop _ hle) ⟨a, rfl, rfl, ha1, ha2, by simp only [sizeE]; omega, by simp only [sizeE]; omega⟩
  · obtain rfl : i = ks.length := by omega
    rw [List.drop_length] at hor
    simp only [sizeL] at hor
    simp (disch := omega) only [go_sem, ↓if_pos, ne_eq, ↓reduceIte]
    exact W_retC c153_ok (r := .int .i64 a) (r' := .int .i64 a) (σ' := σ) rfl (Conv.drop _ hle) ⟨a, rfl, rfl, ha1, ha2, by simp only [sizeE]; omega, by simp only [sizeE]; omega⟩
theorem ExOKsG_ok {e : Ex} (hr : rightE e = true) (hd : depthE e ≤ 40) (hsz : sizeE e ≤ 1000000) : Ret Try.prog Γ 75 [exV e] σ (.bool (okE e)) σ := by
  have hA : okE e = decide (sizeE e ≤ 400) := by simp [okE, hr, hd]
  rw [hA]
  refine ret_of c75_ok rfl ?_
  simp (disch := omega) only [c75, go_sem, ↓if_pos, ne_eq, ↓reduceIte]
  refine SRun.boxR (by show ∀ c ∈ (exV e).cells, _; rw [cells_exV]; exact exC_one e) ?_
  intro b1 hb1
  simp (disch := omega) only [go_sem, ↓if_pos, ne_eq, ↓reduceIte]
  refine SRun.callQ (l04LeftG_ok e (l := 400) (d := 1) (by omega) (by omega) (by omega) (by omega) hsz) ⟨[], rfl, rfl⟩ rfl ?_
  rintro r s ⟨m, rfl, hs, hm1, hm2, hm3, hm4⟩
  obtain rfl := hs.symm
  by_cases h4 : sizeE e ≤ 400
  · have hm : m = 400 - sizeE e := hm3 (by omega)
    have hd : decide (m ≥ 0) = true := decide_eq_true (by omega)
    simp (disch := omega) only [hd, go_sem, ↓if_pos, ne_eq, ↓reduceIte]
    refine SRun.callR (l04Right_ok e hr (by omega)) ⟨[], rfl, rfl⟩ rfl ?_
    simp (disch := omega) only [go_sem, ↓if_pos, ne_eq, ↓reduceIte]
    exact W_retC c75_ok rfl (Conv.drop _ (le_upd hb1)) ⟨by simp only [look, ev, V.bool.injEq, V.int.injEq, V.str.injEq, V.tup.injEq, V.agg.injEq, V.isl.injEq, List.cons.injEq, true_and, and_true, Nat.reduceEqDiff, Nat.reduceAdd, Nat.reduceSub, Nat.reduceMul, Nat.reducePow, Nat.reduceDiv, Nat.reduceMod, Int.reduceToNat, Nat.reduceLeDiff, Nat.reduceLT, Int.reduceEq, Int.reduceLT, Int.reduceLE, Int.reduceGT, Int.reduceGE, Int.reduceNeg, Int.reduceSub, Int.reduceAdd, Int.reduceMul, Int.reducePow, ne_eq, reduceCtorEq, ↓reduceIte]; exact (decide_eq_true h4).symm, rfl⟩
  · have hm : m < 0 := hm4 (by omega)
    have hd : decide (m ≥ 0) = false := decide_eq_false (by omega)
    simp (disch := omega) only [hd, go_sem, ↓if_pos, ne_eq, ↓reduceIte]
    exact W_retC c75_ok rfl (Conv.drop _ (le_upd hb1)) ⟨by simp only [look, ev, V.bool.injEq, V.int.injEq, V.str.injEq, V.tup.injEq, V.agg.injEq, V.isl.injEq, List.cons.injEq, true_and, and_true, Nat.reduceEqDiff, Nat.reduceAdd, Nat.reduceSub, Nat.reduceMul, Nat.reducePow, Nat.reduceDiv, Nat.reduceMod, Int.reduceToNat, Nat.reduceLeDiff, Nat.reduceLT, Int.reduceEq, Int.reduceLT, Int.reduceLE, Int.reduceGT, Int.reduceGE, Int.reduceNeg, Int.reduceSub, Int.reduceAdd, Int.reduceMul, Int.reducePow, ne_eq, reduceCtorEq, ↓reduceIte]; exact (decide_eq_false h4).symm, rfl⟩
end
end Go.Proofs.Ytlidjjjpjndneaa.Lg
