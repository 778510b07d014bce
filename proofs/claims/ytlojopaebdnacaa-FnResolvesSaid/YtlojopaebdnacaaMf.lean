/- The program's functions, one by one: counting models. -/
import Derived.Test.YtlojopaebdnacaaPb
import Derived.Test.YtlojopaebdnacaaLgL
set_option linter.unusedSimpArgs false
set_option linter.unusedVariables false
namespace Go.Proofs.Ytlojopaebdnacaa.Lg
open Go
attribute [local irreducible] SRun DS DRun
variable {Γ : St} {σ σ0 : St}
theorem abs_ok {x : Int} (hx : -1000000 ≤ x ∧ x ≤ 1000000) : Ret Try.prog Γ 102 [.int .i64 x] σ (.int .i64 (x.natAbs : Int)) σ := by
  refine ret_of c102_ok rfl ?_
  simp (disch := omega) only [c102, go_sem]
  refine W_retR c102_ok rfl ⟨?_, rfl⟩
  simp only [look, ev, V.bool.injEq, V.int.injEq, V.str.injEq, V.tup.injEq, V.agg.injEq, V.isl.injEq, List.cons.injEq, true_and, and_true, Nat.reduceEqDiff, Nat.reduceAdd, Nat.reduceSub, Nat.reduceMul, Nat.reducePow, Nat.reduceDiv, Nat.reduceMod, Int.reduceToNat, Nat.reduceLeDiff, Nat.reduceLT, Int.reduceEq, Int.reduceLT, Int.reduceLE, Int.reduceGT, Int.reduceGE, Int.reduceNeg, Int.reduceSub, Int.reduceAdd, Int.reduceMul, Int.reducePow, ne_eq, reduceCtorEq, ↓reduceIte]
  split <;> omega
theorem isModel11_ok {x : Int} {b : Nat} {ex : Bool} {bs : List Bool} (hb : σ b = some [.isl ex 1 (bools bs)]) (hx : 1 ≤ x.natAbs ∧ x.natAbs ≤ bs.length) (hl : bs.length ≤ 1000) : Ret Try.prog Γ 101 [.int .i64 x, .ptr b 0] σ (.bool (litV bs x)) σ := by
  refine ret_of c101_ok rfl ?_
  simp (disch := omega) only [c101, go_sem]
  rw [W_draw]
  refine DRun.start (DRun.mixE rfl ?_)
  simp (disch := omega) only [hb, go_sem]
  refine DS.callQ (abs_ok (x := x) (by omega)) ⟨[], rfl, rfl⟩ rfl ?_
  rintro r s ⟨rfl, rfl⟩ _
  simp (disch := omega) only [bools, go_sem]
  refine W_retR c101_ok rfl ⟨?_, rfl⟩
  simp only [look, ev, V.bool.injEq, V.int.injEq, V.str.injEq, V.tup.injEq, V.agg.injEq, V.isl.injEq, List.cons.injEq, true_and, and_true, Nat.reduceEqDiff, Nat.reduceAdd, Nat.reduceSub, Nat.reduceMul, Nat.reducePow, Nat.reduceDiv, Nat.reduceMod, Int.reduceToNat, Nat.reduceLeDiff, Nat.reduceLT, Int.reduceEq, Int.reduceLT, Int.reduceLE, Int.reduceGT, Int.reduceGE, Int.reduceNeg, Int.reduceSub, Int.reduceAdd, Int.reduceMul, Int.reducePow, ne_eq, reduceCtorEq, ↓reduceIte]
  have : ((x.natAbs : Int) - 1).toNat = x.natAbs - 1 := by omega
  rw [this]; rfl
theorem isModel1_ok {c : List Int} {b : Nat} {ex : Bool} {bs : List Bool} (hb : σ b = some [.isl ex 1 (bools bs)]) (hc : ∀ x ∈ c, litOK bs.length x) (hl : bs.length ≤ 1000) (hs : c.length ≤ 1000000) : Ret Try.prog Γ 100 [intsV c, .ptr b 0] σ (.bool (!c.any (litV bs))) σ := by
  refine ret_of c100_ok rfl ?_
  simp (disch := omega) only [c100, intsV, go_sem]
  refine SRun.callR (containsFuncI_ok (p := fun v => litV bs (unInt v)) (cell_ints c) (by rw [ints_len]; omega) (fun y hy => by
    simp only [ints, List.mem_map] at hy; obtain ⟨x, hx, rfl⟩ := hy
    have := hc x hx
    exact isModel11_ok hb ⟨by have := this.1; omega, by have := this.2; omega⟩ hl)) ⟨[], rfl, rfl⟩ rfl ?_
  simp (disch := omega) only [List.getD_cons_zero, List.getD_cons_succ, go_sem]
  refine W_retR c100_ok rfl ⟨?_, rfl⟩
  simp only [look, ev, V.bool.injEq, V.int.injEq, V.str.injEq, V.tup.injEq, V.agg.injEq, V.isl.injEq, List.cons.injEq, true_and, and_true, any_ints, unInt, Nat.reduceEqDiff, Nat.reduceAdd, Nat.reduceSub, Nat.reduceMul, Nat.reducePow, Nat.reduceDiv, Nat.reduceMod, Int.reduceToNat, Nat.reduceLeDiff, Nat.reduceLT, Int.reduceEq, Int.reduceLT, Int.reduceLE, Int.reduceGT, Int.reduceGE, Int.reduceNeg, Int.reduceSub, Int.reduceAdd, Int.reduceMul, Int.reducePow, ne_eq, reduceCtorEq, ↓reduceIte]
theorem isModel_ok {ex : Bool} {vars : Int} {cls : List (List Int)} {bs : List Bool} (hc : ClsOK vars cls) (hl : (bs.length : Int) = vars) (hv : vars ≤ 1000) : Ret Try.prog Γ 52 [cnfV vars cls, .isl ex 1 (bools bs)] σ (.bool (evalB cls bs)) σ := by
  refine ret_of c52_ok rfl ?_
  simp (disch := omega) only [c52, cnfV, go_sem]
  refine SRun.boxR (by simp [ev, look, V.cells, V.one]) ?_
  intro b1 hb1
  simp (disch := omega) only [go_sem]
  refine SRun.boxR (by simp [ev, look, V.cells, V.one]) ?_
  intro b2 hb2
  have hn := upd_none.1 hb2
  simp (disch := omega) only [go_sem]
  refine SRun.callR (containsFuncL_ok (p := fun v => !(unInts v).any (litV bs)) (cell_cls cls) (by rw [clsV_len]; have := hc.1.1; omega) (fun y hy => by
    simp only [clsV, List.mem_map] at hy; obtain ⟨x, hx, rfl⟩ := hy
    rw [unInts_intsV]
    exact isModel1_ok (ex := ex) (upd_same _ _ _) (fun z hz => by rw [hl]; exact hc.2 x hx z hz) (by omega) (hc.1.2 x hx))) ⟨[], rfl, rfl⟩ rfl ?_
  simp (disch := omega) only [List.getD_cons_zero, List.getD_cons_succ, go_sem]
  refine W_retC c52_ok rfl (Conv.drop _ fun c x h => le_upd hb2 _ _ (le_upd hb1 _ _ h)) ⟨?_, rfl⟩
  simp only [look, ev, V.bool.injEq, V.int.injEq, V.str.injEq, V.tup.injEq, V.agg.injEq, V.isl.injEq, List.cons.injEq, true_and, and_true, any_cls, unInts_intsV, evalB, Nat.reduceEqDiff, Nat.reduceAdd, Nat.reduceSub, Nat.reduceMul, Nat.reducePow, Nat.reduceDiv, Nat.reduceMod, Int.reduceToNat, Nat.reduceLeDiff, Nat.reduceLT, Int.reduceEq, Int.reduceLT, Int.reduceLE, Int.reduceGT, Int.reduceGE, Int.reduceNeg, Int.reduceSub, Int.reduceAdd, Int.reduceMul, Int.reducePow, ne_eq, reduceCtorEq, ↓reduceIte]
  rw [List.all_eq_not_any_not]
/-- What is said of a least model, or of none. -/
def leastA : Option (List Int) → List Bool × Int
  | none => ([], 6)
  | some v => (valsB v, 0)
theorem LeastModel_ok {vars : Int} {cls : List (List Int)} (hb : cnfB vars cls = true) (hv : 1 ≤ vars) :
    Ret Try.prog Γ 15 [cnfV vars cls] σ (.tup [boolsV (leastA (modelP vars cls)).1, .int .i64 (leastA (modelP vars cls)).2]) σ := by
  obtain ⟨hc, hv0, hv40, hcl⟩ := clsOK_of hb
  refine ret_of c15_ok rfl ?_
  simp (disch := omega) only [c15, cnfV, go_sem]
  refine SRun.boxR (by simp [ev, look, V.cells, V.one]) ?_
  intro b1 hb1
  simp (disch := omega) only [go_sem]
  refine SRun.callR (isCnf_ok hc.1) ⟨[], rfl, rfl⟩ rfl ?_
  simp (disch := omega) only [hb, go_sem]
  refine SRun.callQ (leastModel_ok (vars := vars) (cls := cls) (by omega) hc) ⟨[], rfl, rfl⟩ rfl ?_
  rintro r s ⟨rfl, ⟨hn, rfl⟩ | ⟨v, hsome, rfl⟩⟩
  · simp (disch := omega) only [List.getD_cons_zero, List.getD_cons_succ, go_sem]
    rw [hn]
    exact W_retC c15_ok (r := .tup [.isl true 0 [], .int .i64 6]) (r' := .tup [boolsV [], .int .i64 6]) rfl ⟨le_upd hb1, frz_tup (by exact ⟨frz_nil _ _, .refl _, trivial⟩)⟩ ⟨rfl, rfl⟩
  · simp (disch := omega) only [List.getD_cons_zero, List.getD_cons_succ, go_sem]
    rw [hsome]
    exact W_retC c15_ok rfl (Conv.drop _ (le_upd hb1)) ⟨rfl, rfl⟩
theorem bitP_dec (a : Int) (i : Nat) : decide (bitsV .and .i64 (a.fdiv (2 ^ min i (IntKind.bits .i64))) 1 = 1) = bitP a i := by rw [← int_beq]; rfl
theorem bitP_dec' (a : Int) (i : Nat) : bitP a i = decide (bitsV .and .i64 (a.fdiv (2 ^ min i 64)) 1 = 1) := (bitP_dec a i).symm
theorem bools_set {xs : List Bool} {j : Nat} {b : Bool} : (bools xs).set j (.bool b) = bools (xs.set j b) := by simp [bools, List.map_set]
theorem mix_set {α : Type} {A B : List α} {j : Nat} (d : α) (hl : A.length = B.length) (hj : j < A.length) : (A.take j ++ B.drop j).set j (A.getD j d) = A.take (j + 1) ++ B.drop (j + 1) := by
  rw [List.set_append_right _ _ (by simp; omega), take_succ d hj, List.length_take, Nat.min_eq_left (by omega), Nat.sub_self, drop_cons d (by omega : j < B.length)]
  simp
theorem valuesP_getD {a : Int} {N j : Nat} (h : j < N) : (valuesP a N).getD j false = bitP a j := by simp [valuesP, List.getD, h]
theorem pow_small {N : Nat} (h6 : N ≤ 6) : ∃ M : Nat, 2 ^ N = M ∧ M ≤ 64 ∧ (1 : Int) * 2 ^ min N 64 = (M : Int) :=
  ⟨_, rfl, Nat.pow_le_pow_right (n := 2) (by omega) h6, by rw [show min N 64 = N from Nat.min_eq_left (by omega)]; simp⟩
theorem countP_succ (N : Nat) (cls : List (List Int)) (i : Nat) : countP' N cls (i + 1) = countP' N cls i + (evalB cls (valuesP (i : Int) N)).toNat := by
  simp only [countP', List.range_succ, List.filter_append, List.length_append, List.filter_cons, List.filter_nil]
  cases evalB cls (valuesP (i : Int) N) <;> rfl
theorem countP_le (N : Nat) (cls : List (List Int)) (i : Nat) : countP' N cls i ≤ i := by
  have := List.length_filter_le (fun j : Nat => evalB cls (valuesP (j : Int) N)) (List.range i)
  simpa [countP'] using this
theorem CountModels_ok {N : Nat} {cls : List (List Int)} (hb : cnfB N cls = true) (h6 : N ≤ 6) : Ret Try.prog Γ 16 [cnfV N cls] σ (.tup [.int .i64 (countP' N cls (2 ^ N) : Nat), .int .i64 0]) σ := by
  obtain ⟨hc, hv0, hv40, hcl⟩ := clsOK_of hb
  obtain ⟨M, hM, hM64, e1⟩ := pow_small h6
  rw [hM]
  refine ret_of c16_ok rfl ?_
  simp (disch := omega) only [c16, cnfV, go_sem]
  refine SRun.boxR (by simp [ev, look, V.cells, V.one]) ?_
  intro b1 hb1
  simp (disch := omega) only [go_sem]
  refine SRun.callR (isCnf_ok hc.1) ⟨[], rfl, rfl⟩ rfl ?_
  simp (disch := omega) only [hb, go_sem]
  refine SRun.mkslR (n' := N) (m := N) rfl rfl rfl (Nat.le_refl _) (by omega) (by omega) ?_
  intro b5 hb5
  have hn := upd_none.1 hb5
  have hz : (List.replicate N [V.bool false]).flatten = bools (List.replicate N false) := by simp [bools]
  have c0 : (0 : Int) ≤ (N : Int) := by omega
  rw [hz]
  simp (disch := omega) only [e1, c0, go_sem]
  refine W_loopC (fun p : Nat × List Bool => p.1 ≤ M ∧ p.2.length = N) (fun p => [(1, .ptr b1 0), (4, .int .i64 (countP' N cls p.1 : Nat)), (5, .msl b5 1 0 N N), (21, .int .i64 M), (22, .int .i64 p.1)])
    (fun p => upd (upd σ b1 [.int .i64 N, .isl false 1 (clsV cls)]) b5 (bools p.2)) (fun p => M - p.1) (0, List.replicate N false) ⟨by omega, by simp⟩ (by simp (disch := omega) only [subT, Int.natCast_add, Int.cast_ofNat_Int, go_sem] <;> (repeat' apply And.intro) <;> first | rfl | (congr 1; omega) | assumption) rfl ?_
  rintro ⟨i, vs⟩ ⟨hi, hvl⟩ ih
  dsimp only at hi hvl
  simp (disch := omega) only [go_sem]
  first | refine iteW_dec (fun h => ?_) (fun h => ?_) | refine iteW_of (fun h => ?_) (fun h => ?_)
  · simp (disch := omega) only [go_sem]
    refine W_loopC (fun j : Nat => j ≤ N) (fun j => [(1, .ptr b1 0), (4, .int .i64 (countP' N cls i : Nat)), (5, .msl b5 1 0 N N), (21, .int .i64 M), (22, .int .i64 i), (6, .int .i64 i), (26, .int .i64 N), (27, .int .i64 j)])
      (fun j => upd (upd σ b1 [.int .i64 N, .isl false 1 (clsV cls)]) b5 (bools ((valuesP i N).take j ++ vs.drop j))) (fun j => N - j) 0 (by omega) (by simp (disch := omega) only [subT, Int.natCast_add, Int.cast_ofNat_Int, go_sem] <;> (repeat' apply And.intro) <;> first | rfl | (congr 1; omega) | assumption) (by simp) ?_
    intro j hj ih2
    simp (disch := omega) only [go_sem]
    first | refine iteW_dec (fun h2 => ?_) (fun h2 => ?_) | refine iteW_of (fun h2 => ?_) (fun h2 => ?_)
    · have hbl : (bools ((valuesP (i : Int) N).take j ++ vs.drop j)).length = N := by simp [bools, valuesP]; omega
      simp (disch := omega) only [go_sem]
      refine ih2 (j + 1) _ _ (by omega) (by omega) (by simp (disch := omega) only [subT, Int.natCast_add, Int.cast_ofNat_Int, go_sem] <;> (repeat' apply And.intro) <;> first | rfl | (congr 1; omega) | assumption) ?_
      rw [← bitP_dec', bools_set, ← valuesP_getD (a := (i : Int)) (by omega : j < N), mix_set false (by simp [valuesP]; omega) (by simp [valuesP]; omega)]
    · obtain rfl : j = N := by omega
      have hv1 : (valuesP (i : Int) j).take j ++ vs.drop j = valuesP (i : Int) j := by
        rw [List.take_of_length_le (by simp [valuesP]), List.drop_of_length_le (by omega), List.append_nil]
      rw [hv1]
      have hne : b1 ≠ b5 := fun e => hn.1 e.symm
      have hl5 : (valuesP (i : Int) j).length = j := by simp [valuesP]
      simp (disch := omega) only [go_sem]
      refine SRun.callR (Ret.lendL (isModel_ok (ex := false) (vars := j) (cls := cls) (bs := valuesP (i : Int) j) hc (by omega) (by omega)) (by exact ⟨.refl _, frz_row (upd_same _ _ _) rfl (by simp [bools, valuesP]) (bools_one _), trivial⟩) (Plain.bool _)) ⟨[], rfl, rfl⟩ rfl ?_
      simp (disch := omega) only [List.getD_cons_zero, List.getD_cons_succ, go_sem]
      have hsucc := countP_succ j cls i
      have hcp := countP_le j cls i
      first | refine iteW_dec (fun h3 => ?_) (fun h3 => ?_) | refine iteW_of (fun h3 => ?_) (fun h3 => ?_)
      · rw [h3] at hsucc
        simp (disch := omega) only [go_sem]
        refine ih (i + 1, valuesP (i : Int) j) _ _ ⟨by omega, hl5⟩ (by simp only; omega) (by simp (disch := omega) only [subT, Int.natCast_add, Int.cast_ofNat_Int, hsucc, Bool.toNat_true, go_sem] <;> (repeat' apply And.intro) <;> first | rfl | (congr 1; omega) | assumption) rfl
      · rw [h3] at hsucc
        simp (disch := omega) only [go_sem]
        refine ih (i + 1, valuesP (i : Int) j) _ _ ⟨by omega, hl5⟩ (by simp only; omega) (by simp (disch := omega) only [subT, Int.natCast_add, Int.cast_ofNat_Int, hsucc, Bool.toNat_false, go_sem] <;> (repeat' apply And.intro) <;> first | rfl | (congr 1; omega) | assumption) rfl
  · obtain rfl : i = M := by omega
    simp (disch := omega) only [go_sem]
    exact W_retC c16_ok rfl (Conv.drop _ fun c x h => le_upd hb5 _ _ (le_upd hb1 _ _ h)) ⟨rfl, rfl⟩
end Go.Proofs.Ytlojopaebdnacaa.Lg
