/- Expressions are right. -/
import Derived.Test.YtlidjjjpjndneaaEc
import Derived.Test.YtlidjjjpjndneaaLgO
set_option linter.unusedSimpArgs false
set_option linter.unusedVariables false
namespace Go.Proofs.Ytlidjjjpjndneaa.Lg
open Go
attribute [local irreducible] SRun DS DRun
variable {Γ : St} {σ σ0 : St}
theorem le_under {τ τ' : St} {b : Nat} {c : List V} (h : ∀ d x, τ d = some x → τ' d = some x) : ∀ d x, upd τ b c d = some x → upd τ' b c d = some x := by
  intro d x hd
  by_cases e : d = b
  · subst e; rw [upd_same] at hd ⊢; exact hd
  · rw [upd_ne _ _ e] at hd ⊢; exact h _ _ hd
theorem countL_drop {g : Ex → Int → Bool × Int} {ks : List Ex} {i : Nat} {c : Int} (h : i < ks.length) : countL g (ks.drop i) c = bif (g (ks.getD i default) c).1 then countL g (ks.drop (i + 1)) (g (ks.getD i default) c).2 else (false, (g (ks.getD i default) c).2) := by
  rw [drop_cons default h]; rfl
theorem indexFuncE_ok {ex : Bool} {ks : List Ex} {F : FuncId} {caps : List V} {s : Int → St} {g : Ex → Int → Bool × Int} {c0 : Int} (hl : ks.length ≤ 1000000)
    (hg : ∀ e c, 0 ≤ c → c ≤ 400 → c ≤ (g e c).2 ∧ (g e c).2 ≤ 401 ∧ ((g e c).1 = true → (g e c).2 ≤ 400)) (h0 : 0 ≤ c0) (h1 : c0 ≤ 400)
    (hp : ∀ e ∈ ks, ∀ c, 0 ≤ c → c ≤ 400 → Ret Try.prog Γ F (exV e :: caps) (s c) (.bool (!(g e c).1)) (s (g e c).2)) :
    ACalls Try.prog Γ 221 [.isl ex 3 (exsV ks), .fn F caps] (s c0) fun r σ' => ∃ i : Int, decide (i ≥ 0) = (!(countL g ks c0).1) ∧ r = .int .i64 i ∧ σ' = s (countL g ks c0).2 := by
  refine acalls_W c221_ok rfl ?_
  simp (disch := omega) only [c221, go_sem, ↓if_pos, ne_eq, ↓reduceIte]
  refine W_loopC (α := Nat × Int) (fun p => p.1 ≤ ks.length ∧ 0 ≤ p.2 ∧ p.2 ≤ 400 ∧ countL g ks c0 = countL g (ks.drop p.1) p.2) (fun p => [(0, .isl ex 3 (exsV ks)), (1, .fn F caps), (7, .int .i64 ks.length), (8, .int .i64 (p.1 : Nat))]) (fun p => s p.2) (fun p => ks.length - p.1) (0, c0) ⟨by omega, h0, h1, by simp⟩ (by simp (disch := omega) only [subT, Int.natCast_add, Int.cast_ofNat_Int, go_sem, ↓if_pos, ne_eq, ↓reduceIte] <;> (repeat' apply And.intro) <;> first | rfl | (congr 1; omega) | assumption) rfl ?_
  rintro ⟨i, c⟩ ⟨hi, hc0, hc1, heq⟩ ih
  dsimp only at hi hc0 hc1 heq
  simp (disch := omega) only [go_sem, ↓if_pos, ne_eq, ↓reduceIte]
  first | refine iteW_dec (fun hq => ?_) (fun hq => ?_) | refine iteW_of (fun hq => ?_) (fun hq => ?_)
  · simp (disch := omega) only [go_sem, ↓if_pos, ne_eq, ↓reduceIte]
    rw [countL_drop (by omega)] at heq
    have hb := hg (ks.getD i default) c hc0 hc1
    refine SRun.callR (hp _ (getD_mem default (by omega)) c hc0 hc1) ⟨caps, rfl, rfl⟩ rfl ?_
    simp (disch := omega) only [go_sem, ↓if_pos, ne_eq, ↓reduceIte]
    cases h2 : (g (ks.getD i default) c).1 with
    | false =>
      rw [h2] at heq
      simp (disch := omega) only [go_sem, ↓if_pos, ne_eq, ↓reduceIte]
      refine W_retR c221_ok rfl ⟨i, ?_, rfl, by rw [heq]; rfl⟩
      rw [heq]; exact decide_eq_true (by omega)
    | true =>
      rw [h2] at heq
      simp (disch := omega) only [go_sem, ↓if_pos, ne_eq, ↓reduceIte]
      exact ih (i + 1, (g (ks.getD i default) c).2) _ _ ⟨by simp only; omega, by simp only; omega, hb.2.2 h2, heq⟩ (by simp only; omega) (by simp (disch := omega) only [subT, Int.natCast_add, Int.cast_ofNat_Int, go_sem, ↓if_pos, ne_eq, ↓reduceIte] <;> (repeat' apply And.intro) <;> first | rfl | (congr 1; omega) | assumption) rfl
  · obtain rfl : i = ks.length := by omega
    rw [List.drop_length] at heq
    simp (disch := omega) only [go_sem, ↓if_pos, ne_eq, ↓reduceIte]
    refine W_retR c221_ok rfl ⟨-1, ?_, rfl, by rw [heq]; rfl⟩
    rw [heq]; rfl
theorem containsFuncE_ok {ex : Bool} {ks : List Ex} {F : FuncId} {caps : List V} {s : Int → St} {g : Ex → Int → Bool × Int} {c0 : Int} (hl : ks.length ≤ 1000000)
    (hg : ∀ e c, 0 ≤ c → c ≤ 400 → c ≤ (g e c).2 ∧ (g e c).2 ≤ 401 ∧ ((g e c).1 = true → (g e c).2 ≤ 400)) (h0 : 0 ≤ c0) (h1 : c0 ≤ 400)
    (hp : ∀ e ∈ ks, ∀ c, 0 ≤ c → c ≤ 400 → Ret Try.prog Γ F (exV e :: caps) (s c) (.bool (!(g e c).1)) (s (g e c).2)) :
    Ret Try.prog Γ 197 [.isl ex 3 (exsV ks), .fn F caps] (s c0) (.bool (!(countL g ks c0).1)) (s (countL g ks c0).2) := by
  refine ret_of c197_ok rfl ?_
  simp (disch := omega) only [c197, go_sem, ↓if_pos, ne_eq, ↓reduceIte]
  refine SRun.callQ (indexFuncE_ok (s := s) hl hg h0 h1 hp) ⟨[], rfl, rfl⟩ rfl ?_
  rintro r s ⟨i, hi, rfl, rfl⟩
  simp (disch := omega) only [go_sem, ↓if_pos, ne_eq, ↓reduceIte]
  refine W_retR c197_ok rfl ⟨?_, rfl⟩
  simp only [look, ev, V.bool.injEq, V.int.injEq, V.str.injEq, V.tup.injEq, V.agg.injEq, V.isl.injEq, List.cons.injEq, true_and, and_true, Nat.reduceEqDiff, Nat.reduceAdd, Nat.reduceSub, Nat.reduceMul, Nat.reducePow, Nat.reduceDiv, Nat.reduceMod, Int.reduceToNat, Nat.reduceLeDiff, Nat.reduceLT, Int.reduceEq, Int.reduceLT, Int.reduceLE, Int.reduceGT, Int.reduceGE, Int.reduceNeg, Int.reduceSub, Int.reduceAdd, Int.reduceMul, Int.reducePow, ne_eq, reduceCtorEq, ↓reduceIte]
  exact hi
theorem kidsOf_ok (k : Int) : Ret Try.prog Γ 199 [.int .i64 k] σ (.int .i64 (arity k)) σ := by
  refine ret_of c199_ok rfl ?_
  simp (disch := omega) only [c199, go_sem, ↓if_pos, ne_eq, ↓reduceIte]
  first | refine iteW_dec (fun h1 => ?_) (fun h1 => ?_) | refine iteW_of (fun h1 => ?_) (fun h1 => ?_)
  · simp (disch := omega) only [go_sem, ↓if_pos, ne_eq, ↓reduceIte]
    refine W_retR c199_ok rfl ⟨?_, rfl⟩
    simp only [look, ev, V.bool.injEq, V.int.injEq, V.str.injEq, V.tup.injEq, V.agg.injEq, V.isl.injEq, List.cons.injEq, true_and, and_true, arity, h1, true_or, or_true, or_self, Nat.reduceEqDiff, Nat.reduceAdd, Nat.reduceSub, Nat.reduceMul, Nat.reducePow, Nat.reduceDiv, Nat.reduceMod, Int.reduceToNat, Nat.reduceLeDiff, Nat.reduceLT, Int.reduceEq, Int.reduceLT, Int.reduceLE, Int.reduceGT, Int.reduceGE, Int.reduceNeg, Int.reduceSub, Int.reduceAdd, Int.reduceMul, Int.reducePow, ne_eq, reduceCtorEq, ↓reduceIte]
  simp (disch := omega) only [go_sem, ↓if_pos, ne_eq, ↓reduceIte]
  first | refine iteW_dec (fun h2 => ?_) (fun h2 => ?_) | refine iteW_of (fun h2 => ?_) (fun h2 => ?_)
  · simp (disch := omega) only [go_sem, ↓if_pos, ne_eq, ↓reduceIte]
    refine W_retR c199_ok rfl ⟨?_, rfl⟩
    simp only [look, ev, V.bool.injEq, V.int.injEq, V.str.injEq, V.tup.injEq, V.agg.injEq, V.isl.injEq, List.cons.injEq, true_and, and_true, arity, h2, true_or, or_true, or_self, Nat.reduceEqDiff, Nat.reduceAdd, Nat.reduceSub, Nat.reduceMul, Nat.reducePow, Nat.reduceDiv, Nat.reduceMod, Int.reduceToNat, Nat.reduceLeDiff, Nat.reduceLT, Int.reduceEq, Int.reduceLT, Int.reduceLE, Int.reduceGT, Int.reduceGE, Int.reduceNeg, Int.reduceSub, Int.reduceAdd, Int.reduceMul, Int.reducePow, ne_eq, reduceCtorEq, ↓reduceIte]
  simp (disch := omega) only [go_sem, ↓if_pos, ne_eq, ↓reduceIte]
  first | refine iteW_dec (fun h3 => ?_) (fun h3 => ?_) | refine iteW_of (fun h3 => ?_) (fun h3 => ?_)
  · simp (disch := omega) only [go_sem, ↓if_pos, ne_eq, ↓reduceIte]
    refine W_retR c199_ok rfl ⟨?_, rfl⟩
    simp only [look, ev, V.bool.injEq, V.int.injEq, V.str.injEq, V.tup.injEq, V.agg.injEq, V.isl.injEq, List.cons.injEq, true_and, and_true, arity, h3, true_or, or_true, or_self, Nat.reduceEqDiff, Nat.reduceAdd, Nat.reduceSub, Nat.reduceMul, Nat.reducePow, Nat.reduceDiv, Nat.reduceMod, Int.reduceToNat, Nat.reduceLeDiff, Nat.reduceLT, Int.reduceEq, Int.reduceLT, Int.reduceLE, Int.reduceGT, Int.reduceGE, Int.reduceNeg, Int.reduceSub, Int.reduceAdd, Int.reduceMul, Int.reducePow, ne_eq, reduceCtorEq, ↓reduceIte]
  simp (disch := omega) only [go_sem, ↓if_pos, ne_eq, ↓reduceIte]
  first | refine iteW_dec (fun h4 => ?_) (fun h4 => ?_) | refine iteW_of (fun h4 => ?_) (fun h4 => ?_)
  · simp (disch := omega) only [go_sem, ↓if_pos, ne_eq, ↓reduceIte]
    refine W_retR c199_ok rfl ⟨?_, rfl⟩
    simp only [look, ev, V.bool.injEq, V.int.injEq, V.str.injEq, V.tup.injEq, V.agg.injEq, V.isl.injEq, List.cons.injEq, true_and, and_true, arity, h4, true_or, or_true, or_self, Nat.reduceEqDiff, Nat.reduceAdd, Nat.reduceSub, Nat.reduceMul, Nat.reducePow, Nat.reduceDiv, Nat.reduceMod, Int.reduceToNat, Nat.reduceLeDiff, Nat.reduceLT, Int.reduceEq, Int.reduceLT, Int.reduceLE, Int.reduceGT, Int.reduceGE, Int.reduceNeg, Int.reduceSub, Int.reduceAdd, Int.reduceMul, Int.reducePow, ne_eq, reduceCtorEq, ↓reduceIte]
  simp (disch := omega) only [go_sem, ↓if_pos, ne_eq, ↓reduceIte]
  first | refine iteW_dec (fun h5 => ?_) (fun h5 => ?_) | refine iteW_of (fun h5 => ?_) (fun h5 => ?_)
  · simp (disch := omega) only [go_sem, ↓if_pos, ne_eq, ↓reduceIte]
    refine W_retR c199_ok rfl ⟨?_, rfl⟩
    simp only [look, ev, V.bool.injEq, V.int.injEq, V.str.injEq, V.tup.injEq, V.agg.injEq, V.isl.injEq, List.cons.injEq, true_and, and_true, arity, h5, true_or, or_true, or_self, Nat.reduceEqDiff, Nat.reduceAdd, Nat.reduceSub, Nat.reduceMul, Nat.reducePow, Nat.reduceDiv, Nat.reduceMod, Int.reduceToNat, Nat.reduceLeDiff, Nat.reduceLT, Int.reduceEq, Int.reduceLT, Int.reduceLE, Int.reduceGT, Int.reduceGE, Int.reduceNeg, Int.reduceSub, Int.reduceAdd, Int.reduceMul, Int.reducePow, ne_eq, reduceCtorEq, ↓reduceIte]
  simp (disch := omega) only [go_sem, ↓if_pos, ne_eq, ↓reduceIte]
  first | refine iteW_dec (fun h6 => ?_) (fun h6 => ?_) | refine iteW_of (fun h6 => ?_) (fun h6 => ?_)
  · simp (disch := omega) only [go_sem, ↓if_pos, ne_eq, ↓reduceIte]
    refine W_retR c199_ok rfl ⟨?_, rfl⟩
    simp only [look, ev, V.bool.injEq, V.int.injEq, V.str.injEq, V.tup.injEq, V.agg.injEq, V.isl.injEq, List.cons.injEq, true_and, and_true, arity, h6, true_or, or_true, or_self, Nat.reduceEqDiff, Nat.reduceAdd, Nat.reduceSub, Nat.reduceMul, Nat.reducePow, Nat.reduceDiv, Nat.reduceMod, Int.reduceToNat, Nat.reduceLeDiff, Nat.reduceLT, Int.reduceEq, Int.reduceLT, Int.reduceLE, Int.reduceGT, Int.reduceGE, Int.reduceNeg, Int.reduceSub, Int.reduceAdd, Int.reduceMul, Int.reducePow, ne_eq, reduceCtorEq, ↓reduceIte]
  simp (disch := omega) only [go_sem, ↓if_pos, ne_eq, ↓reduceIte]
  first | refine iteW_dec (fun h7 => ?_) (fun h7 => ?_) | refine iteW_of (fun h7 => ?_) (fun h7 => ?_)
  · simp (disch := omega) only [go_sem, ↓if_pos, ne_eq, ↓reduceIte]
    refine W_retR c199_ok rfl ⟨?_, rfl⟩
    simp only [look, ev, V.bool.injEq, V.int.injEq, V.str.injEq, V.tup.injEq, V.agg.injEq, V.isl.injEq, List.cons.injEq, true_and, and_true, arity, h7, true_or, or_true, or_self, Nat.reduceEqDiff, Nat.reduceAdd, Nat.reduceSub, Nat.reduceMul, Nat.reducePow, Nat.reduceDiv, Nat.reduceMod, Int.reduceToNat, Nat.reduceLeDiff, Nat.reduceLT, Int.reduceEq, Int.reduceLT, Int.reduceLE, Int.reduceGT, Int.reduceGE, Int.reduceNeg, Int.reduceSub, Int.reduceAdd, Int.reduceMul, Int.reducePow, ne_eq, reduceCtorEq, ↓reduceIte]
  simp (disch := omega) only [go_sem, ↓if_pos, ne_eq, ↓reduceIte]
  refine W_retR c199_ok rfl ⟨?_, rfl⟩
  simp only [look, ev, V.bool.injEq, V.int.injEq, V.str.injEq, V.tup.injEq, V.agg.injEq, V.isl.injEq, List.cons.injEq, true_and, and_true, arity, h1, h2, h3, h4, h5, h6, h7, true_or, or_true, or_self, Nat.reduceEqDiff, Nat.reduceAdd, Nat.reduceSub, Nat.reduceMul, Nat.reducePow, Nat.reduceDiv, Nat.reduceMod, Int.reduceToNat, Nat.reduceLeDiff, Nat.reduceLT, Int.reduceEq, Int.reduceLT, Int.reduceLE, Int.reduceGT, Int.reduceGE, Int.reduceNeg, Int.reduceSub, Int.reduceAdd, Int.reduceMul, Int.reducePow, ne_eq, reduceCtorEq, ↓reduceIte]
theorem sizeL_len (ks : List Ex) : ks.length ≤ sizeL ks := by
  induction ks with
  | nil => simp [sizeL]
  | cons e r ih => simp only [sizeL, List.length_cons]; have := sizeE_pos e; omega
theorem countEx1_ok {e : Ex} {b b4 b5 : Nat} {d : Int} {τ : St} {z z' : List V} {q : Bool} (h4 : upd τ b z b4 = some [.int .i64 d]) (h5 : upd τ b z b5 = some [.ptr b 0]) (hd : 0 ≤ d ∧ d ≤ 1000) (h : ∀ σ, Ret Try.prog Γ 150 [exV e, .int .i64 (d + 1), .ptr b 0] (upd σ b z) (.bool q) (upd σ b z')) : Ret Try.prog Γ 200 [exV e, .ptr b4 0, .ptr b5 0] (upd τ b z) (.bool (!q)) (upd τ b z') := by
  refine ret_of c200_ok rfl ?_
  simp (disch := omega) only [c200, go_sem, ↓if_pos, ne_eq, ↓reduceIte]
  refine SRun.boxR (by show ∀ c ∈ (exV e).cells, _; rw [cells_exV]; exact exC_one e) ?_
  intro b3 hb3
  have n3 := upd_none.1 hb3
  have g4 : upd (upd τ b z) b3 (exC e) b4 = _ := le_upd hb3 _ _ h4
  have g5 : upd (upd τ b z) b3 (exC e) b5 = _ := le_upd hb3 _ _ h5
  have h1 := exC_one e
  simp (disch := omega) only [g4, g5, h1, go_sem, ↓if_pos, ne_eq, ↓reduceIte]
  rw [upd_comm _ n3.1.symm]
  refine SRun.callR (h _) ⟨[], rfl, rfl⟩ rfl ?_
  simp (disch := omega) only [go_sem, ↓if_pos, ne_eq, ↓reduceIte]
  exact W_retC c200_ok rfl (Conv.drop _ (le_under (le_upd n3.2))) ⟨rfl, rfl⟩
set_option maxHeartbeats 1000000 in
theorem countEx_step {f : Nat} {b : Nat} {k n : Int} {ks : List Ex} {c : Int} (hf : f ≤ 40) (hc0 : 0 ≤ c) (hc1 : c ≤ 400) (hl : ks.length ≤ 1000000)
    (hk : ∀ m, f = m + 1 → ∀ {Γ σ : St}, ∀ e ∈ ks, ∀ c, 0 ≤ c → c ≤ 400 → Ret Try.prog Γ 150 [exV e, .int .i64 (41 - m), .ptr b 0] (upd σ b [.int .i64 c]) (.bool (countP m e c).1) (upd σ b [.int .i64 (countP m e c).2])) :
    Ret Try.prog Γ 150 [exV (.mk k n ks), .int .i64 (41 - f), .ptr b 0] (upd σ b [.int .i64 c]) (.bool (countP f (.mk k n ks) c).1) (upd σ b [.int .i64 (countP f (.mk k n ks) c).2]) := by
  refine ret_of c150_ok rfl ?_
  simp (disch := omega) only [c150, exV_mk, go_sem, ↓if_pos, ne_eq, ↓reduceIte]
  refine SRun.boxR (by simp [ev, look, V.cells, V.one]) ?_
  intro b3 hb3
  simp (disch := omega) only [go_sem, ↓if_pos, ne_eq, ↓reduceIte]
  refine SRun.boxR (by simp [ev, look, V.cells, V.one]) ?_
  intro b4 hb4
  simp (disch := omega) only [go_sem, ↓if_pos, ne_eq, ↓reduceIte]
  refine SRun.boxR (by simp [ev, look, V.cells, V.one]) ?_
  intro b5 hb5
  have n3 := upd_none.1 hb3
  have n4 := upd_none.1 hb4
  have n4' := upd_none.1 n4.2
  have n5 := upd_none.1 hb5
  have n5' := upd_none.1 n5.2
  have n5'' := upd_none.1 n5'.2
  have m3 := n3.1.symm
  have m4 := n4'.1.symm
  have m5 := n5''.1.symm
  have m34 := n4.1.symm
  have m45 := n5.1.symm
  have m35 := n5'.1.symm
  simp (disch := omega) only [n3.1, m3, n4.1, n4'.1, m4, n5.1, n5'.1, n5''.1, m5, m34, m45, m35, exC_mk, go_sem, ↓if_pos, ne_eq, ↓reduceIte]
  have hle : ∀ d x, upd σ b [.int .i64 c] d = some x → (upd (upd (upd (upd σ b [V.int IntKind.i64 c]) b3 [V.int IntKind.i64 k, V.int IntKind.i64 n, V.isl false 3 (exsV ks)]) b4 [V.int IntKind.i64 (41 - ↑f)]) b5 [V.ptr b 0]) d = some x := fun d x h => le_upd hb5 _ _ (le_upd hb4 _ _ (le_upd hb3 _ _ h))
  have g3 : ∀ z, upd (upd (upd (upd (upd σ b [V.int IntKind.i64 c]) b3 [V.int IntKind.i64 k, V.int IntKind.i64 n, V.isl false 3 (exsV ks)]) b4 [V.int IntKind.i64 (41 - ↑f)]) b5 [V.ptr b 0]) b z b3 = some [V.int IntKind.i64 k, V.int IntKind.i64 n, V.isl false 3 (exsV ks)] := fun z => by rw [upd_ne _ _ n3.1, upd_ne _ _ m35, upd_ne _ _ m34, upd_same]
  have g4 : ∀ z, upd (upd (upd (upd (upd σ b [V.int IntKind.i64 c]) b3 [V.int IntKind.i64 k, V.int IntKind.i64 n, V.isl false 3 (exsV ks)]) b4 [V.int IntKind.i64 (41 - ↑f)]) b5 [V.ptr b 0]) b z b4 = some [V.int IntKind.i64 (41 - ↑f)] := fun z => by rw [upd_ne _ _ n4'.1, upd_ne _ _ m45, upd_same]
  have g5 : ∀ z, upd (upd (upd (upd (upd σ b [V.int IntKind.i64 c]) b3 [V.int IntKind.i64 k, V.int IntKind.i64 n, V.isl false 3 (exsV ks)]) b4 [V.int IntKind.i64 (41 - ↑f)]) b5 [V.ptr b 0]) b z b5 = some [V.ptr b 0] := fun z => by rw [upd_ne _ _ n5''.1, upd_same]
  generalize upd (upd (upd (upd σ b [V.int IntKind.i64 c]) b3 [V.int IntKind.i64 k, V.int IntKind.i64 n, V.isl false 3 (exsV ks)]) b4 [V.int IntKind.i64 (41 - ↑f)]) b5 [V.ptr b 0] = τ at *
  have hle2 : ∀ (z : List V) d x, upd σ b z d = some x → upd τ b z d = some x := fun z d x h => by
    rw [← upd_upd σ b [.int .i64 c]] at h
    exact le_under hle d x h
  have hfin : (c + 1 > 400 ∨ f = 0 ∨ (ks.length : Int) ≠ arity k ∨ numOK k n = false) → countP f (.mk k n ks) c = (false, c + 1) := by
    intro h
    cases f with
    | zero => rfl
    | succ m =>
      rw [countP, if_pos]
      rcases h with h | h | h | h
      · exact .inl h
      · omega
      · exact .inr (.inl h)
      · exact .inr (.inr h)
  first | refine iteW_dec (fun h1 => ?_) (fun h1 => ?_) | refine iteW_of (fun h1 => ?_) (fun h1 => ?_)
  case' refine_2 =>
    simp (disch := omega) only [go_sem, ↓if_pos, ne_eq, ↓reduceIte]
    first | refine iteW_dec (fun h2 => ?_) (fun h2 => ?_) | refine iteW_of (fun h2 => ?_) (fun h2 => ?_)
  case' refine_1 =>
    simp (disch := omega) only [g3, go_sem, ↓if_pos, ne_eq, ↓reduceIte]
    refine SRun.callR (within_ok _ _ _) ⟨[], rfl, rfl⟩ rfl ?_
    simp (disch := omega) only [g5, go_sem, ↓if_pos, ne_eq, ↓reduceIte]
    rw [show (decide (0 ≤ n) && decide (n ≤ 11)) = numOK k n by rw [numOK, if_pos h1]]
  case' refine_2.refine_1 =>
    simp (disch := omega) only [g3, go_sem, ↓if_pos, ne_eq, ↓reduceIte]
    refine SRun.callR (within_ok _ _ _) ⟨[], rfl, rfl⟩ rfl ?_
    simp (disch := omega) only [g5, go_sem, ↓if_pos, ne_eq, ↓reduceIte]
    rw [show (decide (0 ≤ n) && decide (n ≤ 1)) = numOK k n by rw [numOK, if_neg h1, if_pos h2]]
  case' refine_2.refine_2 =>
    simp (disch := omega) only [go_sem, ↓if_pos, ne_eq, ↓reduceIte]
    rw [show (decide (n = 0)) = numOK k n by rw [numOK, if_neg h1, if_neg h2]]
  all_goals
    by_cases hA : c + 1 > 400
    · have hA' : decide (c + 1 > 400) = true := decide_eq_true hA
      refine W_drawW ?_
      simp (disch := omega) only [g5, g4, g3, hA', go_sem, ↓if_pos, ne_eq, ↓reduceIte]
      refine DRun.mixE rfl ?_
      simp (disch := omega) only [go_sem, ↓if_pos, ne_eq, ↓reduceIte]
      refine DS.skipG rfl rfl ?_
      simp (disch := omega) only [go_sem, ↓if_pos, ne_eq, ↓reduceIte]
      rw [hfin (.inl hA)]
      exact W_retC c150_ok rfl (Conv.drop _ (hle2 _)) ⟨rfl, rfl⟩
    · have hA' : decide (c + 1 > 400) = false := decide_eq_false hA
      by_cases hB : 41 - (f : Int) > 40
      · have hB' : decide (41 - (f : Int) > 40) = true := decide_eq_true hB
        refine W_drawW ?_
        simp (disch := omega) only [g5, g4, g3, hA', hB', go_sem, ↓if_pos, ne_eq, ↓reduceIte]
        refine DRun.mixE rfl ?_
        simp (disch := omega) only [go_sem, ↓if_pos, ne_eq, ↓reduceIte]
        refine DS.skipG rfl rfl ?_
        simp (disch := omega) only [go_sem, ↓if_pos, ne_eq, ↓reduceIte]
        rw [hfin (.inr (.inl (by omega)))]
        exact W_retC c150_ok rfl (Conv.drop _ (hle2 _)) ⟨rfl, rfl⟩
      · have hB' : decide (41 - (f : Int) > 40) = false := decide_eq_false hB
        refine W_drawW ?_
        simp (disch := omega) only [g5, g4, g3, hA', hB', go_sem, ↓if_pos, ne_eq, ↓reduceIte]
        refine DRun.mixE rfl ?_
        simp (disch := omega) only [g3, go_sem, ↓if_pos, ne_eq, ↓reduceIte]
        refine DS.callG (kidsOf_ok k) ⟨[], rfl, rfl⟩ rfl rfl ?_
        rintro r s ⟨rfl, rfl⟩ _
        by_cases hC : (ks.length : Int) = arity k
        · have hC' : decide (¬ (ks.length : Int) = arity k) = false := decide_eq_false (fun h => h hC)
          simp (disch := omega) only [hC', go_sem, ↓if_pos, ne_eq, ↓reduceIte]
          first | refine iteW_dec (fun hN => ?_) (fun hN => ?_) | refine iteW_of (fun hN => ?_) (fun hN => ?_)
          · simp (disch := omega) only [go_sem, ↓if_pos, ne_eq, ↓reduceIte]
            have hN' : numOK k n = false := by simpa using hN
            rw [hfin (.inr (.inr (.inr hN')))]
            exact W_retC c150_ok rfl (Conv.drop _ (hle2 _)) ⟨rfl, rfl⟩
          · have hN' : numOK k n = true := by simpa using hN
            obtain ⟨m, rfl⟩ : ∃ m, f = m + 1 := ⟨f - 1, by omega⟩
            simp (disch := omega) only [g3, go_sem, ↓if_pos, ne_eq, ↓reduceIte]
            refine SRun.callR (containsFuncE_ok (s := fun c => upd τ b [.int .i64 c]) hl (countP_bound m) (by omega) (by omega) (fun e he c hc0 hc1 => countEx1_ok (g4 _) (g5 _) (by omega) (fun σ => by rw [show (41 : Int) - ((m + 1 : Nat) : Int) + 1 = 41 - m by omega]; exact hk m rfl e he c hc0 hc1))) ⟨[], rfl, rfl⟩ rfl ?_
            simp (disch := omega) only [go_sem, ↓if_pos, ne_eq, ↓reduceIte]
            refine W_retC c150_ok rfl (Conv.drop _ (hle2 _)) ⟨?_, ?_⟩
            · simp only [look, ev, V.bool.injEq, V.int.injEq, V.str.injEq, V.tup.injEq, V.agg.injEq, V.isl.injEq, List.cons.injEq, true_and, and_true, countP, Nat.reduceEqDiff, Nat.reduceAdd, Nat.reduceSub, Nat.reduceMul, Nat.reducePow, Nat.reduceDiv, Nat.reduceMod, Int.reduceToNat, Nat.reduceLeDiff, Nat.reduceLT, Int.reduceEq, Int.reduceLT, Int.reduceLE, Int.reduceGT, Int.reduceGE, Int.reduceNeg, Int.reduceSub, Int.reduceAdd, Int.reduceMul, Int.reducePow, ne_eq, reduceCtorEq, ↓reduceIte]
              rw [if_neg (by rw [hC, hN']; simp; omega), Bool.not_not]
            · rw [countP, if_neg (by rw [hC, hN']; simp; omega)]
        · have hC' : decide (¬ (ks.length : Int) = arity k) = true := decide_eq_true hC
          simp (disch := omega) only [hC', go_sem, ↓if_pos, ne_eq, ↓reduceIte]
          rw [hfin (.inr (.inr (.inl hC)))]
          exact W_retC c150_ok rfl (Conv.drop _ (hle2 _)) ⟨rfl, rfl⟩
theorem countEx_ok : ∀ (f : Nat) {Γ σ : St} {b : Nat} (e : Ex) (c : Int), f ≤ 40 → 0 ≤ c → c ≤ 400 → sizeE e ≤ 1000000 →
    Ret Try.prog Γ 150 [exV e, .int .i64 (41 - f), .ptr b 0] (upd σ b [.int .i64 c]) (.bool (countP f e c).1) (upd σ b [.int .i64 (countP f e c).2]) := by
  intro f
  induction f with
  | zero =>
    intro Γ σ b e c hf hc0 hc1 hsz
    obtain ⟨k, n, ks⟩ := e
    have := sizeL_len ks
    simp only [sizeE] at hsz
    exact countEx_step hf hc0 hc1 (by omega) (fun m h => by omega)
  | succ f ih =>
    intro Γ σ b e c hf hc0 hc1 hsz
    obtain ⟨k, n, ks⟩ := e
    have := sizeL_len ks
    simp only [sizeE] at hsz
    refine countEx_step hf hc0 hc1 (by omega) (fun m h => ?_)
    obtain rfl : m = f := by omega
    intro Γ σ e he c h0 h1
    have := sizeL_mem he
    exact ih e c (by omega) h0 h1 (by omega)
theorem isEx_ok {e : Ex} (hsz : sizeE e ≤ 1000000) : Ret Try.prog Γ 69 [exV e] σ (.bool (okE e)) σ := by
  refine ret_of c69_ok rfl ?_
  simp (disch := omega) only [c69, go_sem, ↓if_pos, ne_eq, ↓reduceIte]
  refine SRun.boxR (by show ∀ c ∈ (exV e).cells, _; rw [cells_exV]; exact exC_one e) ?_
  intro b1 hb1
  simp (disch := omega) only [go_sem, ↓if_pos, ne_eq, ↓reduceIte]
  refine SRun.allocR ?_
  intro b3 hb3
  have n3 := upd_none.1 hb3
  have h1 := exC_one e
  have hne := n3.1.symm
  simp (disch := omega) only [h1, hne, go_sem, ↓if_pos, ne_eq, ↓reduceIte]
  refine SRun.callR (countEx_ok 40 e 0 (by omega) (by omega) (by omega) hsz) ⟨[], rfl, rfl⟩ rfl ?_
  simp (disch := omega) only [go_sem, ↓if_pos, ne_eq, ↓reduceIte]
  refine W_retC c69_ok rfl (Conv.drop _ fun c x hc => le_upd hb3 _ _ (le_upd hb1 _ _ hc)) ⟨?_, rfl⟩
  simp only [look, ev, V.bool.injEq, V.int.injEq, V.str.injEq, V.tup.injEq, V.agg.injEq, V.isl.injEq, List.cons.injEq, true_and, and_true, Nat.reduceEqDiff, Nat.reduceAdd, Nat.reduceSub, Nat.reduceMul, Nat.reducePow, Nat.reduceDiv, Nat.reduceMod, Int.reduceToNat, Nat.reduceLeDiff, Nat.reduceLT, Int.reduceEq, Int.reduceLT, Int.reduceLE, Int.reduceGT, Int.reduceGE, Int.reduceNeg, Int.reduceSub, Int.reduceAdd, Int.reduceMul, Int.reducePow, ne_eq, reduceCtorEq, ↓reduceIte]
  rw [← isExB_ok]; rfl
end Go.Proofs.Ytlidjjjpjndneaa.Lg
