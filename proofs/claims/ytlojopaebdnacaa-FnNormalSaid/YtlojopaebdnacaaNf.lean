/- The program's rows, neighbours once; no row at all. -/
import Derived.Test.YtlojopaebdnacaaNc
import Derived.Test.YtlojopaebdnacaaMf
import Derived.Test.YtlojopaebdnacaaLgK
set_option linter.unusedSimpArgs false
set_option linter.unusedVariables false
namespace Go.Proofs.Ytlojopaebdnacaa.Lg
open Go
attribute [local irreducible] SRun DS DRun
variable {Γ : St} {σ σ0 : St}
theorem equalI_ok {ex ex2 : Bool} {xs ys : List Int} (hl : xs.length ≤ 1000000000) : Ret Try.prog Γ 80 [.isl ex 1 (ints xs), .isl ex2 1 (ints ys)] σ (.bool (xs == ys)) σ := by
  refine ret_of c80_ok rfl ?_
  simp (disch := omega) only [c80, go_sem]
  first | refine iteW_dec (fun h => ?_) (fun h => ?_) | refine iteW_of (fun h => ?_) (fun h => ?_)
  · simp (disch := omega) only [go_sem]
    refine W_retR c80_ok rfl ⟨?_, rfl⟩
    simp only [look, ev, V.bool.injEq, V.int.injEq, V.str.injEq, V.tup.injEq, V.agg.injEq, V.isl.injEq, List.cons.injEq, true_and, and_true, Nat.reduceEqDiff, Nat.reduceAdd, Nat.reduceSub, Nat.reduceMul, Nat.reducePow, Nat.reduceDiv, Nat.reduceMod, Int.reduceToNat, Nat.reduceLeDiff, Nat.reduceLT, Int.reduceEq, Int.reduceLT, Int.reduceLE, Int.reduceGT, Int.reduceGE, Int.reduceNeg, Int.reduceSub, Int.reduceAdd, Int.reduceMul, Int.reducePow, ne_eq, reduceCtorEq, ↓reduceIte]
    symm; rw [beq_eq_false_iff_ne]; intro e; exact h (by rw [e])
  · simp (disch := omega) only [go_sem]
    have hlen : xs.length = ys.length := by omega
    refine W_loopC (fun i : Nat => i ≤ xs.length ∧ xs.take i = ys.take i) (fun i => [(0, .isl ex 1 (ints xs)), (1, .isl ex2 1 (ints ys)), (12, .int .i64 xs.length), (13, .int .i64 i)]) (fun _ => σ) (fun i => xs.length - i) 0 ⟨by omega, rfl⟩ (by simp (disch := omega) only [subT, Int.natCast_add, Int.cast_ofNat_Int, go_sem] <;> (repeat' apply And.intro) <;> first | rfl | (congr 1; omega) | assumption) rfl ?_
    rintro i ⟨hi, ht⟩ ih
    simp (disch := omega) only [go_sem]
    first | refine iteW_dec (fun h2 => ?_) (fun h2 => ?_) | refine iteW_of (fun h2 => ?_) (fun h2 => ?_)
    · simp (disch := omega) only [go_sem]
      refine W_drawW ?_
      simp (disch := omega) only [go_sem]
      first | refine iteW_dec (fun h3 => ?_) (fun h3 => ?_) | refine iteW_of (fun h3 => ?_) (fun h3 => ?_)
      · simp (disch := omega) only [go_sem]
        refine W_retR c80_ok rfl ⟨?_, rfl⟩
        simp only [look, ev, V.bool.injEq, V.int.injEq, V.str.injEq, V.tup.injEq, V.agg.injEq, V.isl.injEq, List.cons.injEq, true_and, and_true, Nat.reduceEqDiff, Nat.reduceAdd, Nat.reduceSub, Nat.reduceMul, Nat.reducePow, Nat.reduceDiv, Nat.reduceMod, Int.reduceToNat, Nat.reduceLeDiff, Nat.reduceLT, Int.reduceEq, Int.reduceLT, Int.reduceLE, Int.reduceGT, Int.reduceGE, Int.reduceNeg, Int.reduceSub, Int.reduceAdd, Int.reduceMul, Int.reducePow, ne_eq, reduceCtorEq, ↓reduceIte]
        symm; rw [beq_eq_false_iff_ne]; intro e; subst e; exact h3 rfl
      · simp (disch := omega) only [go_sem]
        refine ih (i + 1) _ _ ⟨by omega, ?_⟩ (by omega) (by simp (disch := omega) only [subT, Int.natCast_add, Int.cast_ofNat_Int, go_sem] <;> (repeat' apply And.intro) <;> first | rfl | (congr 1; omega) | assumption) rfl
        rw [take_succ 0 (by omega), take_succ 0 (by omega), ht]
        have h3' : xs.getD i 0 = ys.getD i 0 := by omega
        rw [h3']
    · simp (disch := omega) only [go_sem]
      refine W_retR c80_ok rfl ⟨?_, rfl⟩
      simp only [look, ev, V.bool.injEq, V.int.injEq, V.str.injEq, V.tup.injEq, V.agg.injEq, V.isl.injEq, List.cons.injEq, true_and, and_true, Nat.reduceEqDiff, Nat.reduceAdd, Nat.reduceSub, Nat.reduceMul, Nat.reducePow, Nat.reduceDiv, Nat.reduceMod, Int.reduceToNat, Nat.reduceLeDiff, Nat.reduceLT, Int.reduceEq, Int.reduceLT, Int.reduceLE, Int.reduceGT, Int.reduceGE, Int.reduceNeg, Int.reduceSub, Int.reduceAdd, Int.reduceMul, Int.reducePow, ne_eq, reduceCtorEq, ↓reduceIte]
      symm; rw [beq_iff_eq]
      rw [List.take_of_length_le (by omega), List.take_of_length_le (by omega)] at ht; exact ht
theorem l01Same_ok {ex ex2 : Bool} {xs ys : List Int} (hl : xs.length ≤ 1000000000) : Ret Try.prog Γ 82 [.isl ex 1 (ints xs), .isl ex2 1 (ints ys)] σ (.bool (xs == ys)) σ := by
  refine ret_of c82_ok rfl ?_
  simp (disch := omega) only [c82, go_sem]
  first | refine iteW_dec (fun h => ?_) (fun h => ?_) | refine iteW_of (fun h => ?_) (fun h => ?_)
  · simp (disch := omega) only [go_sem]
    refine W_retR c82_ok rfl ⟨?_, rfl⟩
    simp only [look, ev, V.bool.injEq, V.int.injEq, V.str.injEq, V.tup.injEq, V.agg.injEq, V.isl.injEq, List.cons.injEq, true_and, and_true, Nat.reduceEqDiff, Nat.reduceAdd, Nat.reduceSub, Nat.reduceMul, Nat.reducePow, Nat.reduceDiv, Nat.reduceMod, Int.reduceToNat, Nat.reduceLeDiff, Nat.reduceLT, Int.reduceEq, Int.reduceLT, Int.reduceLE, Int.reduceGT, Int.reduceGE, Int.reduceNeg, Int.reduceSub, Int.reduceAdd, Int.reduceMul, Int.reducePow, ne_eq, reduceCtorEq, ↓reduceIte]
    symm; rw [beq_eq_false_iff_ne]; intro e; exact h (by rw [e])
  · simp (disch := omega) only [go_sem]
    have hlen : xs.length = ys.length := by omega
    refine W_loopC (fun i : Nat => i ≤ xs.length ∧ xs.take i = ys.take i) (fun i => [(0, .isl ex 1 (ints xs)), (1, .isl ex2 1 (ints ys)), (5, .int .i64 i)]) (fun _ => σ) (fun i => xs.length - i) 0 ⟨by omega, rfl⟩ (by simp (disch := omega) only [subT, Int.natCast_add, Int.cast_ofNat_Int, go_sem] <;> (repeat' apply And.intro) <;> first | rfl | (congr 1; omega) | assumption) rfl ?_
    rintro i ⟨hi, ht⟩ ih
    simp (disch := omega) only [go_sem]
    first | refine iteW_dec (fun h2 => ?_) (fun h2 => ?_) | refine iteW_of (fun h2 => ?_) (fun h2 => ?_)
    · simp (disch := omega) only [go_sem]
      refine W_drawW ?_
      simp (disch := omega) only [go_sem]
      first | refine iteW_dec (fun h3 => ?_) (fun h3 => ?_) | refine iteW_of (fun h3 => ?_) (fun h3 => ?_)
      · simp (disch := omega) only [go_sem]
        refine W_retR c82_ok rfl ⟨?_, rfl⟩
        simp only [look, ev, V.bool.injEq, V.int.injEq, V.str.injEq, V.tup.injEq, V.agg.injEq, V.isl.injEq, List.cons.injEq, true_and, and_true, Nat.reduceEqDiff, Nat.reduceAdd, Nat.reduceSub, Nat.reduceMul, Nat.reducePow, Nat.reduceDiv, Nat.reduceMod, Int.reduceToNat, Nat.reduceLeDiff, Nat.reduceLT, Int.reduceEq, Int.reduceLT, Int.reduceLE, Int.reduceGT, Int.reduceGE, Int.reduceNeg, Int.reduceSub, Int.reduceAdd, Int.reduceMul, Int.reducePow, ne_eq, reduceCtorEq, ↓reduceIte]
        symm; rw [beq_eq_false_iff_ne]; intro e; subst e; exact h3 rfl
      · simp (disch := omega) only [go_sem]
        refine ih (i + 1) _ _ ⟨by omega, ?_⟩ (by omega) (by simp (disch := omega) only [subT, Int.natCast_add, Int.cast_ofNat_Int, go_sem] <;> (repeat' apply And.intro) <;> first | rfl | (congr 1; omega) | assumption) rfl
        rw [take_succ 0 (by omega), take_succ 0 (by omega), ht]
        have h3' : xs.getD i 0 = ys.getD i 0 := by omega
        rw [h3']
    · simp (disch := omega) only [go_sem]
      refine W_retR c82_ok rfl ⟨?_, rfl⟩
      simp only [look, ev, V.bool.injEq, V.int.injEq, V.str.injEq, V.tup.injEq, V.agg.injEq, V.isl.injEq, List.cons.injEq, true_and, and_true, Nat.reduceEqDiff, Nat.reduceAdd, Nat.reduceSub, Nat.reduceMul, Nat.reducePow, Nat.reduceDiv, Nat.reduceMod, Int.reduceToNat, Nat.reduceLeDiff, Nat.reduceLT, Int.reduceEq, Int.reduceLT, Int.reduceLE, Int.reduceGT, Int.reduceGE, Int.reduceNeg, Int.reduceSub, Int.reduceAdd, Int.reduceMul, Int.reducePow, ne_eq, reduceCtorEq, ↓reduceIte]
      symm; rw [beq_iff_eq]
      rw [List.take_of_length_le (by omega), List.take_of_length_le (by omega)] at ht; exact ht
theorem sameIntsP_ok {ex ex2 : Bool} {xs ys : List Int} (hl : xs.length ≤ 1000000000) : Ret Try.prog Γ 20 [.isl ex 1 (ints xs), .isl ex2 1 (ints ys)] σ (.bool (xs == ys)) σ := by
  refine ret_of c20_ok rfl ?_
  simp (disch := omega) only [c20, go_sem]
  first | refine iteW_dec (fun h => ?_) (fun h => ?_) | refine iteW_of (fun h => ?_) (fun h => ?_)
  · simp (disch := omega) only [go_sem]
    refine W_retR c20_ok rfl ⟨?_, rfl⟩
    simp only [look, ev, V.bool.injEq, V.int.injEq, V.str.injEq, V.tup.injEq, V.agg.injEq, V.isl.injEq, List.cons.injEq, true_and, and_true, Nat.reduceEqDiff, Nat.reduceAdd, Nat.reduceSub, Nat.reduceMul, Nat.reducePow, Nat.reduceDiv, Nat.reduceMod, Int.reduceToNat, Nat.reduceLeDiff, Nat.reduceLT, Int.reduceEq, Int.reduceLT, Int.reduceLE, Int.reduceGT, Int.reduceGE, Int.reduceNeg, Int.reduceSub, Int.reduceAdd, Int.reduceMul, Int.reducePow, ne_eq, reduceCtorEq, ↓reduceIte]
    symm; rw [beq_eq_false_iff_ne]; intro e; exact h (by rw [e])
  · simp (disch := omega) only [go_sem]
    have hlen : xs.length = ys.length := by omega
    refine W_loopC (fun i : Nat => i ≤ xs.length ∧ xs.take i = ys.take i) (fun i => [(0, .isl ex 1 (ints xs)), (1, .isl ex2 1 (ints ys)), (5, .int .i64 i)]) (fun _ => σ) (fun i => xs.length - i) 0 ⟨by omega, rfl⟩ (by simp (disch := omega) only [subT, Int.natCast_add, Int.cast_ofNat_Int, go_sem] <;> (repeat' apply And.intro) <;> first | rfl | (congr 1; omega) | assumption) rfl ?_
    rintro i ⟨hi, ht⟩ ih
    simp (disch := omega) only [go_sem]
    first | refine iteW_dec (fun h2 => ?_) (fun h2 => ?_) | refine iteW_of (fun h2 => ?_) (fun h2 => ?_)
    · simp (disch := omega) only [go_sem]
      refine W_drawW ?_
      simp (disch := omega) only [go_sem]
      first | refine iteW_dec (fun h3 => ?_) (fun h3 => ?_) | refine iteW_of (fun h3 => ?_) (fun h3 => ?_)
      · simp (disch := omega) only [go_sem]
        refine W_retR c20_ok rfl ⟨?_, rfl⟩
        simp only [look, ev, V.bool.injEq, V.int.injEq, V.str.injEq, V.tup.injEq, V.agg.injEq, V.isl.injEq, List.cons.injEq, true_and, and_true, Nat.reduceEqDiff, Nat.reduceAdd, Nat.reduceSub, Nat.reduceMul, Nat.reducePow, Nat.reduceDiv, Nat.reduceMod, Int.reduceToNat, Nat.reduceLeDiff, Nat.reduceLT, Int.reduceEq, Int.reduceLT, Int.reduceLE, Int.reduceGT, Int.reduceGE, Int.reduceNeg, Int.reduceSub, Int.reduceAdd, Int.reduceMul, Int.reducePow, ne_eq, reduceCtorEq, ↓reduceIte]
        symm; rw [beq_eq_false_iff_ne]; intro e; subst e; exact h3 rfl
      · simp (disch := omega) only [go_sem]
        refine ih (i + 1) _ _ ⟨by omega, ?_⟩ (by omega) (by simp (disch := omega) only [subT, Int.natCast_add, Int.cast_ofNat_Int, go_sem] <;> (repeat' apply And.intro) <;> first | rfl | (congr 1; omega) | assumption) rfl
        rw [take_succ 0 (by omega), take_succ 0 (by omega), ht]
        have h3' : xs.getD i 0 = ys.getD i 0 := by omega
        rw [h3']
    · simp (disch := omega) only [go_sem]
      refine W_retR c20_ok rfl ⟨?_, rfl⟩
      simp only [look, ev, V.bool.injEq, V.int.injEq, V.str.injEq, V.tup.injEq, V.agg.injEq, V.isl.injEq, List.cons.injEq, true_and, and_true, Nat.reduceEqDiff, Nat.reduceAdd, Nat.reduceSub, Nat.reduceMul, Nat.reducePow, Nat.reduceDiv, Nat.reduceMod, Int.reduceToNat, Nat.reduceLeDiff, Nat.reduceLT, Int.reduceEq, Int.reduceLT, Int.reduceLE, Int.reduceGT, Int.reduceGE, Int.reduceNeg, Int.reduceSub, Int.reduceAdd, Int.reduceMul, Int.reducePow, ne_eq, reduceCtorEq, ↓reduceIte]
      symm; rw [beq_iff_eq]
      rw [List.take_of_length_le (by omega), List.take_of_length_le (by omega)] at ht; exact ht
theorem clsV_ones (xs : List (List Int)) : ∀ x ∈ clsV xs, x.one = true := by
  intro y hy; simp only [clsV, List.mem_map] at hy; obtain ⟨x, _, rfl⟩ := hy; rfl
theorem clsV_get {xs : List (List Int)} {i : Nat} (h : i < xs.length) : (clsV xs)[i]? = some (.isl false 1 (ints (xs.getD i []))) := by
  simp [clsV, intsV, List.getD, h]
theorem cmpToR_step {xs : List (List Int)} {k : Nat} (hk : 1 ≤ k) : cmpToR xs (k + 1) = if xs.getD k [] = xs.getD (k - 1) [] then cmpToR xs k else cmpToR xs k ++ [xs.getD k []] := by
  obtain ⟨j, rfl⟩ : ∃ j, k = j + 1 := ⟨k - 1, by omega⟩
  rw [Nat.add_sub_cancel]
  simp only [cmpToR]
  split <;> simp
theorem cmpToR_one (xs : List (List Int)) (h : xs.length ≤ 1) : cmpToR xs xs.length = xs := by
  match xs, h with
  | [], _ => rfl
  | [a], _ => rfl
theorem compactFR0_ok {ex : Bool} {es : Nat} {F : FuncId} {caps : List V} : Ret Try.prog Γ 79 [.isl ex es [], .fn F caps] σ (.isl ex es []) σ := by
  refine ret_of c79_ok rfl ?_
  simp (disch := omega) only [c79, go_sem]
  refine W_retR c79_ok rfl ⟨?_, rfl⟩
  rfl
set_option maxHeartbeats 2000000 in
theorem compactFR_ok {xs : List (List Int)} {b cap : Nat} (hb : σ0 b = none) (hcap : xs.length ≤ cap) (hl : xs.length ≤ 1000000) (hx : ∀ x ∈ xs, x.length ≤ 1000000) :
    Ret Try.prog Γ 79 [.msl b 1 0 xs.length cap, .fn 80 []] (upd σ0 b (clsV xs)) (.isl false 1 (clsV (cmpToR xs xs.length))) σ0 := by
  have hil : (clsV xs).length = xs.length := clsV_len _
  have hfr : ∀ (m : Nat) (cs : List V) (ys : List (List Int)), m ≤ cs.length → cs.take m = clsV ys → m = ys.length → ∀ r, r = .msl b 1 0 m cap → Conv (upd σ0 b cs) r σ0 (.isl false 1 (clsV ys)) := by
    rintro m cs ys h1 h2 h3 r rfl
    exact ⟨le_upd hb, Frz.row (upd_same _ _ _) hb h2 (by rw [clsV_len]; exact h3.symm) (clsV_ones _)⟩
  refine ret_of c79_ok rfl ?_
  simp (disch := omega) only [c79, go_sem]
  by_cases c1 : xs.length ≤ 1
  case' pos =>
    have d1 : decide ((xs.length : Int) < 2) = true := decide_eq_true (by omega)
    simp (disch := omega) only [d1, go_sem]
    rw [cmpToR_one xs c1]
    exact W_retC c79_ok rfl (hfr xs.length _ xs (by omega) (List.take_of_length_le (by omega)) rfl _ rfl) ⟨rfl, rfl⟩
  have d1 : decide ((xs.length : Int) < 2) = false := decide_eq_false (by omega)
  simp (disch := omega) only [d1, go_sem]
  refine W_loopC (α := Nat) (fun k => 1 ≤ k ∧ k ≤ xs.length ∧ cmpToR xs k = xs.take k) (fun k => [(0, .msl b 1 0 xs.length cap), (1, .fn 80 []), (5, .int .i64 (k : Nat))]) (fun _ => upd σ0 b (clsV xs)) (fun k => xs.length - k) 1 ⟨Nat.le_refl _, by omega, by
    rw [take_succ [] (by omega)]; rfl⟩ (by simp (disch := omega) only [subT, Int.natCast_add, Int.cast_ofNat_Int, go_sem] <;> (repeat' apply And.intro) <;> first | rfl | (congr 1; omega) | assumption) rfl ?_
  rintro k ⟨hk1, hk, hck⟩ ih
  have gx := upd_same σ0 b (clsV xs)
  simp (disch := omega) only [go_sem]
  first | refine iteW_dec (fun h1 => ?_) (fun h1 => ?_) | refine iteW_of (fun h1 => ?_) (fun h1 => ?_)
  · have hj1 : ((k : Int) - 1).toNat = k - 1 := by omega
    have e1 := clsV_get (xs := xs) (i := k) (by omega)
    have e2 := clsV_get (xs := xs) (i := k - 1) (by omega)
    have hxk : (xs.getD k []).length ≤ 1000000000 := by have := hx _ (getD_mem [] (by omega : k < xs.length)); omega
    have hcs : cmpToR xs (k + 1) = if xs.getD k [] = xs.getD (k - 1) [] then cmpToR xs k else cmpToR xs k ++ [xs.getD k []] := cmpToR_step hk1
    simp (disch := omega) only [go_sem]
    refine W_drawW ?_
    simp (disch := omega) only [gx, e1, e2, hj1, go_sem]
    refine DRun.callQ (equalI_ok hxk) ⟨[], rfl, rfl⟩ ?_
    rintro r s ⟨rfl, hs⟩
    obtain rfl := hs.symm
    by_cases h2 : xs.getD k [] = xs.getD (k - 1) []
    · have d2 : (xs.getD k [] == xs.getD (k - 1) []) = true := beq_iff_eq.2 h2
      have hne : ¬ ((cap : Int) = k) := by omega
      have hto : ((xs.length : Int) - k).toNat = xs.length - k := by omega
      rw [if_pos h2] at hcs
      simp (disch := omega) only [d2, hne, hto, go_sem]
      have hL1 : (cmpToR xs (k + 1)).length = k := by rw [hcs, hck, List.length_take]; omega
      refine W_loopC (α := Nat × List V) (fun q => 1 ≤ q.1 ∧ k + q.1 ≤ xs.length ∧ q.2.length = xs.length ∧ q.2.take (cmpToR xs (k + q.1)).length = clsV (cmpToR xs (k + q.1)) ∧ (cmpToR xs (k + q.1)).length + 1 ≤ k + q.1 ∧ ∀ p, k + q.1 ≤ p + 1 → p < xs.length → q.2[p]? = some (.isl false 1 (ints (xs.getD p [])))) (fun q => [(0, .msl b 1 0 xs.length cap), (1, .fn 80 []), (5, .int .i64 ((cmpToR xs (k + q.1)).length : Nat)), (6, .msl b 1 k (xs.length - k) (((cap : Int) - k).toNat)), (7, .int .i64 (q.1 : Nat))]) (fun q => upd σ0 b q.2) (fun q => xs.length - k - q.1) (1, clsV xs) ⟨Nat.le_refl _, by simp only; omega, hil, ?_, by simp only [hL1]; omega, fun p _ hp => clsV_get hp⟩ ?_ rfl ?_
      · simp only [hL1]
        rw [hcs, hck]; simp [clsV, List.map_take]
      · exact (by simp (disch := omega) only [subT, Int.natCast_add, Int.cast_ofNat_Int, hL1, go_sem] <;> (repeat' apply And.intro) <;> first | rfl | (congr 1; omega) | assumption)
      rintro ⟨m, cs⟩ ⟨hm1, hm, hcl, hct, hw, hrd⟩ ih2
      dsimp only at hm1 hm hcl hct hw hrd
      have gc := upd_same σ0 b cs
      simp (disch := omega) only [go_sem]
      first | refine iteW_dec (fun h3 => ?_) (fun h3 => ?_) | refine iteW_of (fun h3 => ?_) (fun h3 => ?_)
      · have hj2 : ((m : Int) - 1).toNat = m - 1 := by omega
        have f1 : cs[k + m]? = some (.isl false 1 (ints (xs.getD (k + m) []))) := hrd _ (by omega) (by omega)
        have f2 : cs[k + (m - 1)]? = some (.isl false 1 (ints (xs.getD (k + m - 1) []))) := by
          have := hrd (k + m - 1) (by omega) (by omega)
          rwa [show k + m - 1 = k + (m - 1) by omega] at this ⊢
        have hxm : (xs.getD (k + m) []).length ≤ 1000000000 := by have := hx _ (getD_mem [] (by omega : k + m < xs.length)); omega
        have hcs2 : cmpToR xs (k + (m + 1)) = if xs.getD (k + m) [] = xs.getD (k + m - 1) [] then cmpToR xs (k + m) else cmpToR xs (k + m) ++ [xs.getD (k + m) []] := cmpToR_step (k := k + m) (by omega)
        simp (disch := omega) only [go_sem]
        refine W_drawW ?_
        simp (disch := omega) only [gc, f1, f2, hj2, go_sem]
        refine DRun.callQ (equalI_ok hxm) ⟨[], rfl, rfl⟩ ?_
        rintro r s ⟨rfl, hs⟩
        obtain rfl := hs.symm
        by_cases h4 : xs.getD (k + m) [] = xs.getD (k + m - 1) []
        · have d4 : (xs.getD (k + m) [] == xs.getD (k + m - 1) []) = true := beq_iff_eq.2 h4
          rw [if_pos h4] at hcs2
          simp (disch := omega) only [d4, go_sem]
          refine ih2 (m + 1, cs) _ _ ⟨by simp only; omega, by simp only; omega, hcl, ?_, ?_, fun p h5 h6 => hrd p (by simp only at h5; omega) h6⟩ (by simp only; omega) (by simp (disch := omega) only [subT, Int.natCast_add, Int.cast_ofNat_Int, hcs2, go_sem] <;> (repeat' apply And.intro) <;> first | rfl | (congr 1; omega) | assumption) rfl
          · simp only [hcs2]; exact hct
          · simp only [hcs2]; omega
        · have d4 : (xs.getD (k + m) [] == xs.getD (k + m - 1) []) = false := beq_eq_false_iff_ne.2 h4
          rw [if_neg h4] at hcs2
          simp (disch := omega) only [d4, go_sem]
          simp (disch := omega) only [gc, f1, go_sem]
          have hlt2 : (cmpToR xs (k + m)).length < cs.length := by omega
          refine ih2 (m + 1, cs.set (cmpToR xs (k + m)).length (.isl false 1 (ints (xs.getD (k + m) [])))) _ _ ⟨by simp only; omega, by simp only; omega, by simpa using hcl, ?_, ?_, fun p h5 h6 => ?_⟩ (by simp only; omega) (by simp (disch := omega) only [subT, Int.natCast_add, Int.cast_ofNat_Int, hcs2, List.length_append, List.length_singleton, go_sem] <;> (repeat' apply And.intro) <;> first | rfl | (congr 1; omega) | assumption) rfl
          · simp only [hcs2]
            rw [List.length_append, List.length_singleton, List.take_add_one, List.take_set_of_le (Nat.le_refl _), hct]
            simp [hlt2, clsV, intsV]
          · simp only [hcs2, List.length_append, List.length_singleton]; omega
          · simp only at h5 ⊢
            rw [List.getElem?_set_ne (by omega)]
            exact hrd p (by omega) h6
      · have hkm : k + m = xs.length := by omega
        rw [hkm] at hct hw
        rw [hkm]
        generalize cmpToR xs xs.length = ys at *
        have hne2 : ¬ ((cap : Int) = ys.length) := by omega
        have hto3 : ((xs.length : Int) - ys.length).toNat = xs.length - ys.length := by omega
        have hto2 : ((ys.length : Int) - 0).toNat = ys.length := by omega
        have hne0 : ¬ ((cap : Int) = 0) := by omega
        simp (disch := omega) only [hne2, hto3, go_sem]
        refine SRun.clearR (cs := cs) (by rfl) (upd_same _ _ _) (by omega) rfl ?_
        simp (disch := omega) only [hto2, go_sem]
        simp (disch := omega) only [hne0, hto2, go_sem]
        refine W_retC c79_ok rfl (hfr ys.length _ ys ?_ ?_ rfl _ rfl) ⟨rfl, rfl⟩
        · simp only [List.length_append, List.length_take]; omega
        · rw [List.append_assoc, List.take_append_of_le_length (by simp; omega), List.take_take, Nat.min_self, hct]
    · have d2 : (xs.getD k [] == xs.getD (k - 1) []) = false := beq_eq_false_iff_ne.2 h2
      rw [if_neg h2, hck] at hcs
      simp (disch := omega) only [d2, go_sem]
      exact ih (k + 1) _ _ ⟨by omega, by omega, by rw [hcs, take_succ [] (by omega)]⟩ (by omega) (by simp (disch := omega) only [subT, Int.natCast_add, Int.cast_ofNat_Int, go_sem] <;> (repeat' apply And.intro) <;> first | rfl | (congr 1; omega) | assumption) rfl
  · have hkl : k = xs.length := by omega
    subst hkl
    simp (disch := omega) only [go_sem]
    rw [hck, List.take_length]
    exact W_retC c79_ok rfl (hfr xs.length _ xs (by omega) (List.take_of_length_le (by omega)) rfl _ rfl) ⟨rfl, rfl⟩
theorem insSortR0_ok {ex : Bool} {es : Nat} {F : FuncId} {caps : List V} : Ret Try.prog Γ 129 [.isl ex es [], .int .i64 0, .int .i64 0, .fn F caps] σ (.tup []) σ := by
  refine ret_of c129_ok rfl ?_
  simp (disch := omega) only [c129, go_sem]
  refine W_loopC (α := Unit) (fun _ => True) (fun _ => [(2, .int .i64 0), (8, .int .i64 1)]) (fun _ => σ) (fun _ => 0) () trivial (by simp (disch := omega) only [subT, Int.natCast_add, Int.cast_ofNat_Int, go_sem] <;> (repeat' apply And.intro) <;> first | rfl | (congr 1; omega) | assumption) rfl ?_
  intro _ _ _
  simp (disch := omega) only [go_sem]
  exact W_fallR c129_ok rfl ⟨rfl, rfl⟩
theorem pdqR0_ok {ex : Bool} {es : Nat} {F : FuncId} {caps : List V} : Ret Try.prog Γ 116 [.isl ex es [], .int .i64 0, .int .i64 0, .int .i64 0, .fn F caps] σ (.tup []) σ := by
  refine ret_of c116_ok rfl ?_
  simp (disch := omega) only [c116, go_sem]
  refine W_loopC (α := Unit) (fun _ => True) (fun _ => [(0, .isl ex es []), (1, .int .i64 0), (2, .int .i64 0), (4, .fn F caps)]) (fun _ => σ) (fun _ => 0) () trivial (by simp (disch := omega) only [subT, Int.natCast_add, Int.cast_ofNat_Int, go_sem] <;> (repeat' apply And.intro) <;> first | rfl | (congr 1; omega) | assumption) rfl ?_
  intro _ _ _
  simp (disch := omega) only [go_sem]
  refine SRun.callR insSortR0_ok ⟨[], rfl, rfl⟩ rfl ?_
  simp (disch := omega) only [go_sem]
  exact W_retR c116_ok rfl ⟨rfl, rfl⟩
theorem sortR0_ok {ex : Bool} {es : Nat} {F : FuncId} {caps : List V} : Ret Try.prog Γ 77 [.isl ex es [], .fn F caps] σ (.tup []) σ := by
  refine ret_of c77_ok rfl ?_
  simp (disch := omega) only [c77, go_sem]
  refine SRun.callR Lenz_ok ⟨[], rfl, rfl⟩ rfl ?_
  simp (disch := omega) only [go_sem]
  refine SRun.callR pdqR0_ok ⟨[], rfl, rfl⟩ rfl ?_
  simp (disch := omega) only [go_sem]
  exact W_fallR c77_ok rfl ⟨rfl, rfl⟩
end Go.Proofs.Ytlojopaebdnacaa.Lg
/- The program's formulas in order. -/
set_option linter.unusedSimpArgs false
set_option linter.unusedVariables false
namespace Go.Proofs.Ytlojopaebdnacaa.Lg
open Go
attribute [local irreducible] SRun DS DRun
variable {Γ : St} {σ σ0 : St}
theorem resV_2 {T : Ts} {a nn b p : Nat} {cs : List V} (h : look T a = .ptr b 0) (hb : σ b = some cs) (hl : nn = cs.length) : resV [.cell a true nn, .t p] T σ = some (.tup [.agg cs, look T p]) := by
  subst hl
  simp [resV, resV1, h, hb]
theorem rows_of {vars : Int} {cls : List (List Int)} (h : cnfB vars cls = true) : ∀ c ∈ cls, c.length ≤ 12 ∧ (∀ x ∈ c, litOK vars x) ∧ smallL c ∧ ∀ x ∈ c, litN x := fun c hc => by
  obtain ⟨_, hv0, hv40, _⟩ := clsOK_of h
  simp only [cnfB, Bool.and_eq_true, List.all_eq_true] at h
  have := h.2 c hc
  simp only [clauseB, Bool.and_eq_true, decide_eq_true_eq, List.all_eq_true] at this
  have hl : ∀ x ∈ c, litOK vars x := fun x hx => litB_iff.1 (this.2 x hx)
  exact ⟨this.1, hl, fun x hx => by obtain ⟨_, h1, h2⟩ := hl x hx; omega, fun x hx => by obtain ⟨h0, h1, h2⟩ := hl x hx; exact ⟨h0, by omega, by omega⟩⟩
theorem ordP_fine {c : List Int} (h : c.length ≤ 12) (hs : smallL c) : Fine (ordP c) ∧ (ordP c).length ≤ 12 := by
  have := ordP_len c
  exact ⟨⟨by omega, fun x hx => hs x (((ordP_of c).2 x).1 hx)⟩, by omega⟩
theorem rowsP_step {cls : List (List Int)} {i : Nat} (h : i < cls.length) : rowsP (cls.take (i + 1)) = if tautP (ordP (cls.getD i [])) then rowsP (cls.take i) else rowsP (cls.take i) ++ [ordP (cls.getD i [])] := by
  rw [take_succ [] h]
  unfold rowsP
  rw [List.map_append, List.filter_append]
  simp only [List.map_cons, List.map_nil, List.filter_cons, List.filter_nil]
  cases e : tautP (ordP (cls.getD i [])) <;> simp
theorem NormOf.cnf {vars : Int} {cls ys : List (List Int)} (h : NormOf cls ys) (hb : cnfB vars cls = true) : cnfB vars ys = true := by
  obtain ⟨_, hv0, hv40, hcl⟩ := clsOK_of hb
  have hr := rows_of hb
  have hyl := h.len
  simp only [cnfB, Bool.and_eq_true, decide_eq_true_eq, List.all_eq_true]
  refine ⟨⟨⟨hv0, hv40⟩, by omega⟩, fun r hrm => ?_⟩
  obtain ⟨c, hc, rfl, _⟩ := rowsP_mem.1 ((h.2 r).1 hrm)
  obtain ⟨h1, h2, h3, _⟩ := hr c hc
  simp only [clauseB, Bool.and_eq_true, decide_eq_true_eq, List.all_eq_true]
  exact ⟨(ordP_fine h1 h3).2, fun x hx => litB_iff.2 (h2 x (((ordP_of c).2 x).1 hx))⟩
theorem clsRow_ok (c : List Int) : ∀ y ∈ [V.isl false 1 (ints c)], y.cells.length = 1 ∧ ∀ c ∈ y.cells, c.one = true := by
  intro y hy; rw [List.mem_singleton.1 hy]; simp [V.cells, V.one]
theorem clsV_app (cls : List (List Int)) (c : List Int) : clsV cls ++ [V.isl false 1 (ints c)] = clsV (cls ++ [c]) := by simp [clsV, intsV]
theorem clsV_flat (cls : List (List Int)) : flat (clsV cls) = clsV cls := flat_one (clsV_ones cls)
set_option maxHeartbeats 2000000 in
theorem NormalCnf_ok {vars : Int} {cls : List (List Int)} (hb : cnfB vars cls = true) : ACalls Try.prog Γ 31 [cnfV vars cls] σ fun r s => ∃ ys, NormOf cls ys ∧ r = .tup [cnfV vars ys, .int .i64 0] ∧ s = σ := by
  obtain ⟨hc, hv0, hv40, hcl⟩ := clsOK_of hb
  have hr := rows_of hb
  refine acalls_W c31_ok rfl ?_
  simp (disch := omega) only [c31, cnfV, go_sem]
  refine SRun.boxR (by simp [ev, look, V.cells, V.one]) ?_
  intro b1 hb1
  simp (disch := omega) only [go_sem]
  refine SRun.allocR ?_
  intro b2 hb2
  have n2 := upd_none.1 hb2
  have g21 : ∀ z, upd (upd σ b1 z) b2 [.int .i64 0, .isl true 0 []] b1 = some z := fun z => by rw [upd_ne _ _ n2.1.symm, upd_same]
  simp (disch := omega) only [g21, go_sem]
  refine SRun.callR (isCnf_ok hc.1) ⟨[], rfl, rfl⟩ rfl ?_
  rw [hb]
  simp (disch := omega) only [g21, go_sem]
  refine SRun.allocR ?_
  intro b4 hb4
  have n4 := upd_none.1 hb4
  have n41 : b4 ≠ b1 := (upd_none.1 n4.2).1
  have gA1 : upd (upd σ b1 [.int .i64 vars, .isl false 1 (clsV cls)]) b2 [.int .i64 0, .isl true 0 []] b1 = some [.int .i64 vars, .isl false 1 (clsV cls)] := g21 _
  have gA2 := upd_same (upd σ b1 [.int .i64 vars, .isl false 1 (clsV cls)]) b2 [.int .i64 0, .isl true 0 []]
  have hleA : ∀ c x, σ c = some x → upd (upd σ b1 [.int .i64 vars, .isl false 1 (clsV cls)]) b2 [.int .i64 0, .isl true 0 []] c = some x := fun c x h => le_upd hb2 _ _ (le_upd hb1 _ _ h)
  generalize upd (upd σ b1 [.int .i64 vars, .isl false 1 (clsV cls)]) b2 [.int .i64 0, .isl true 0 []] = A at *
  have g41 : ∀ z, upd A b4 z b1 = some [.int .i64 vars, .isl false 1 (clsV cls)] := fun z => by rw [upd_ne _ _ n41.symm]; exact gA1
  simp (disch := omega) only [g41, clsV_len, go_sem]
  refine W_loopC (α := Nat × V × St) (fun p => p.1 ≤ cls.length ∧ OwnL (upd A b4 [.int .i64 vars, p.2.1]) 1 (clsV (rowsP (cls.take p.1))) p.2.1 p.2.2 ∧ (rowsP (cls.take p.1) = [] → p.2.1 = .isl true 0 [] ∧ p.2.2 = upd A b4 [.int .i64 vars, .isl true 0 []])) (fun p => [(2, .ptr b2 0), (4, .ptr b4 0), (15, .isl false 1 (clsV cls)), (16, .int .i64 cls.length), (17, .int .i64 (p.1 : Nat))]) (fun p => p.2.2) (fun p => cls.length - p.1) (0, .isl true 0 [], upd A b4 [.int .i64 vars, .isl true 0 []]) ⟨by simp, by simp only [List.take_zero]; exact OwnL.nil _ _, fun _ => ⟨rfl, rfl⟩⟩ (by simp (disch := omega) only [subT, Int.natCast_add, Int.cast_ofNat_Int, go_sem] <;> (repeat' apply And.intro) <;> first | rfl | (congr 1; omega) | assumption) rfl ?_
  rintro ⟨i, q, s⟩ ⟨hi, ho, he⟩ ih
  dsimp only at hi ho he
  have s4 := ho.get (upd_same A b4 _)
  simp (disch := omega) only [go_sem]
  first | refine iteW_dec (fun h1 => ?_) (fun h1 => ?_) | refine iteW_of (fun h1 => ?_) (fun h1 => ?_)
  · have hlt : i < cls.length := by omega
    have hmem := getD_mem [] hlt
    have hstep := rowsP_step hlt
    simp (disch := omega) only [go_sem]
    generalize cls.getD i [] = c at *
    obtain ⟨c1, c2, c3, c4⟩ := hr c hmem
    have hof := ordP_fine c1 c3
    have hrl : (rowsP (cls.take i)).length ≤ i := by have := rowsP_len (cls.take i); rw [List.length_take] at this; omega
    refine SRun.callQ (inOrder_ok (ex := false) (by omega) c3) ⟨[], rfl, rfl⟩ rfl ?_
    rintro r _ ⟨ys, hys, rfl, hs⟩
    obtain rfl := hs.symm
    obtain rfl := hys.eq
    simp (disch := omega) only [go_sem]
    refine SRun.callR (isTautology_ok hof.1.1 hof.1.2) ⟨[], rfl, rfl⟩ rfl ?_
    cases ht : tautP (ordP c) with
    | true =>
      rw [ht, if_pos rfl] at hstep
      simp (disch := omega) only [go_sem]
      exact ih (i + 1, q, _) _ _ ⟨by simp only; omega, by simp only [hstep]; exact ho, by simp only [hstep]; exact he⟩ (by simp only; omega) (by simp (disch := omega) only [subT, Int.natCast_add, Int.cast_ofNat_Int, go_sem] <;> (repeat' apply And.intro) <;> first | rfl | (congr 1; omega) | assumption) rfl
    | false =>
      rw [ht, if_neg Bool.false_ne_true] at hstep
      simp (disch := omega) only [s4, intsV, go_sem]
      refine SRun.appL ho rfl (clsRow_ok (ordP c)) (by simp only [clsV_len, List.length_singleton]; omega) ?_
      intro r s9 ho9
      rw [clsV_app] at ho9
      have g49 := ho9.get (upd_same A b4 _)
      simp (disch := omega) only [g49, ho9.one, ho9.cells, go_sem]
      have ho10 := ho9.upd (c' := [.int .i64 vars, r]) (upd_same A b4 _)
      rw [upd_upd] at ho10
      exact ih (i + 1, r, _) _ _ ⟨by simp only; omega, by simp only [hstep]; exact ho10, by simp only [hstep]; intro e; simp at e⟩ (by simp only; omega) (by simp (disch := omega) only [subT, Int.natCast_add, Int.cast_ofNat_Int, go_sem] <;> (repeat' apply And.intro) <;> first | rfl | (congr 1; omega) | assumption) rfl
  · have hil : i = cls.length := by omega
    subst hil
    rw [List.take_length] at ho
    clear ih
    have hfine : ∀ x ∈ rowsP cls, Fine x := fun x hx => by
      obtain ⟨c, hc, rfl, _⟩ := rowsP_mem.1 hx
      obtain ⟨h1, _, h3, _⟩ := hr c hc
      exact (ordP_fine h1 h3).1
    have hrl := rowsP_len cls
    have fin : ∀ (e : Bool) (es : Nat) (ys : List (List Int)) (z : V), (∀ τ, Frz τ σ z (.isl false 1 (clsV ys))) → Conv (upd (upd A b4 [.int .i64 vars, z]) b2 [.int .i64 vars, z]) (.tup [.agg [.int .i64 vars, z], .int .i64 0]) σ (.tup [cnfV vars ys, .int .i64 0]) := fun e es ys z hz =>
      ⟨fun d x hd => by
        have h2 : d ≠ b2 := fun e => by subst e; rw [n2.2] at hd; cases hd
        have h4 : d ≠ b4 := fun e => by subst e; rw [hleA _ _ hd] at hb4; cases hb4
        rw [upd_ne _ _ h2, upd_ne _ _ h4]; exact hleA _ _ hd, frz_tup (by exact ⟨frz_agg (by exact ⟨.refl _, hz _, trivial⟩) (by simp [V.one]), .refl _, trivial⟩)⟩
    by_cases h0 : rowsP cls = []
    · obtain ⟨rfl, rfl⟩ := he (by rw [List.take_length]; exact h0)
      simp (disch := omega) only [s4, go_sem]
      refine SRun.callR sortR0_ok ⟨[], rfl, rfl⟩ rfl ?_
      simp (disch := omega) only [s4, go_sem]
      refine SRun.callR compactFR0_ok ⟨[], rfl, rfl⟩ rfl ?_
      have g2 : upd A b4 [.int .i64 vars, .isl true 0 []] b2 = some [.int .i64 0, .isl true 0 []] := by rw [upd_ne _ _ n4.1.symm]; exact gA2
      simp (disch := omega) only [s4, g2, go_sem]
      exact W_retC c31_ok (resV_2 rfl (upd_same _ _ _) rfl) (fin true 0 [] _ fun τ => frz_nil _ _) ⟨[], ⟨List.Pairwise.nil, fun r => by rw [h0]⟩, rfl, rfl⟩
    · obtain ⟨b, cap, rfl, hbs, hcap, hA, rfl⟩ := ho.at (by simpa [clsV] using h0)
      rw [clsV_flat, clsV_len] at *
      have hpos : 0 < (rowsP cls).length := List.length_pos_iff.2 h0
      simp (disch := omega) only [s4, go_sem]
      refine SRun.callQ (sortRows_ok (σ0 := upd A b4 [.int .i64 vars, .msl b 1 0 (rowsP cls).length cap]) hpos (by omega) hfine) ⟨[], rfl, rfl⟩ rfl ?_
      rintro r s ⟨ys, hyl, hym, hyu, rfl⟩
      have hb4b : b ≠ b4 := fun e => by subst e; rw [upd_same] at hA; cases hA
      have hbA : A b = none := by rwa [upd_ne _ _ hb4b] at hA
      have s4' : upd (upd A b4 [.int .i64 vars, .msl b 1 0 (rowsP cls).length cap]) b (clsV ys) b4 = some [.int .i64 vars, .msl b 1 0 (rowsP cls).length cap] := by rw [upd_ne _ _ hb4b.symm, upd_same]
      simp (disch := omega) only [s4', go_sem]
      rw [← hyl] at hA ⊢
      refine SRun.callR (compactFR_ok (xs := ys) hA (by omega) (by omega) (fun x hx => (hfine x ((hym x).1 hx)).1)) ⟨[], rfl, rfl⟩ rfl ?_
      have s4'' := upd_same A b4 [.int .i64 vars, .msl b 1 0 (rowsP cls).length cap]
      have g2 : ∀ z, upd A b4 z b2 = some [.int .i64 0, .isl true 0 []] := fun z => by rw [upd_ne _ _ n4.1.symm]; exact gA2
      have hno := norm_compact hyu hym
      simp (disch := omega) only [s4'', g2, go_sem]
      generalize cmpToR ys ys.length = zs at *
      exact W_retC c31_ok (resV_2 rfl (upd_same _ _ _) rfl) (fin false 1 zs _ fun τ => .refl _) ⟨zs, hno, rfl, rfl⟩
end Go.Proofs.Ytlojopaebdnacaa.Lg
/- The law FnModels over its code. -/
set_option linter.unusedSimpArgs false
set_option linter.unusedVariables false
namespace Go.Proofs.Ytlojopaebdnacaa.Lg
open Go
attribute [local irreducible] SRun DS DRun
variable {Γ : St} {σ σ0 : St}
end Go.Proofs.Ytlojopaebdnacaa.Lg
/- The reference's formulas in order. -/
set_option linter.unusedSimpArgs false
set_option linter.unusedVariables false
namespace Go.Proofs.Ytlojopaebdnacaa.Lg
open Go
attribute [local irreducible] SRun DS DRun
variable {Γ : St} {σ σ0 : St}
section
variable {P : Program} {f : FuncId} {n : Nat} {Q : V → St → Prop} {k : List It} {T : Ts}
theorem W_freezeInN {T' : Ts} {σ' : St} {c : C} (hin : frzIn σ σ') (hT : frzT σ σ' T' T) (h : W P Γ f n Q (.code (.loop c) :: k) T' σ') : W P Γ f n Q (.code (.loop c) :: k) T σ := by
  rw [W_loop] at *; exact SRun.freezeIn hin hT h
end
theorem frzIn_one {A : St} {b : Nat} {cs cs' : List V} (h1 : ∀ c ∈ cs', c.one = true) (hf : frzL (upd A b cs) (upd A b cs') cs cs') : frzIn (upd A b cs) (upd A b cs') := by
  intro d c hd
  by_cases e : d = b
  · subst e
    rw [upd_same] at hd
    obtain rfl := Option.some.inj hd
    exact ⟨cs, upd_same _ _ _, hf, .inr h1⟩
  · rw [upd_ne _ _ e] at hd
    exact ⟨c, by rw [upd_ne _ _ e]; exact hd, frzL_refl _, .inl rfl⟩
theorem l01Less_ok {e1 e2 : Bool} {a b : List Int} (hla : a.length ≤ 1000000) (hlb : b.length ≤ 1000000) (ha : ∀ x ∈ a, litN x) (hb : ∀ x ∈ b, litN x) : Ret Try.prog Γ 81 [.isl e1 1 (ints a), .isl e2 1 (ints b)] σ (.bool (decide (rowC a b < 0))) σ := by
  refine ret_of c81_ok rfl ?_
  simp (disch := omega) only [c81, go_sem]
  refine W_loopC (fun i : Nat => i ≤ a.length ∧ i ≤ b.length ∧ rowC (a.drop i) (b.drop i) = rowC a b) (fun i => [(0, .isl e1 1 (ints a)), (1, .isl e2 1 (ints b)), (5, .int .i64 (i : Nat))]) (fun _ => σ) (fun i => a.length - i) 0 ⟨by omega, by omega, rfl⟩ (by simp (disch := omega) only [subT, Int.natCast_add, Int.cast_ofNat_Int, go_sem] <;> (repeat' apply And.intro) <;> first | rfl | (congr 1; omega) | assumption) rfl ?_
  rintro i ⟨hi, hib, hr⟩ ih
  simp (disch := omega) only [go_sem]
  by_cases c1 : i < a.length
  case' pos =>
    have d1 : decide ((i : Int) < a.length) = true := decide_eq_true (by omega)
    by_cases c2 : i < b.length
    case' pos =>
      have d2 : decide ((i : Int) < b.length) = true := decide_eq_true (by omega)
      have hax := ha _ (getD_mem 0 c1)
      have hbx := hb _ (getD_mem 0 c2)
      rw [drop_cons 0 c1, drop_cons 0 c2] at hr
      simp only [rowC] at hr
      simp (disch := omega) only [d1, d2, go_sem]
      refine W_drawW ?_
      simp (disch := omega) only [go_sem]
      first | refine iteW_dec (fun h3 => ?_) (fun h3 => ?_) | refine iteW_of (fun h3 => ?_) (fun h3 => ?_)
      · have hne : rankP (a.getD i 0) ≠ rankP (b.getD i 0) := fun e => h3 (rankP_inj e)
        rw [if_neg hne] at hr
        simp (disch := omega) only [go_sem]
        refine W_drawW ?_
        simp (disch := omega) only [go_sem]
        refine DRun.callQ (l01Before_ok hax hbx) ⟨[], rfl, rfl⟩ ?_
        rintro r s ⟨rfl, hs⟩
        obtain rfl := hs.symm
        simp (disch := omega) only [go_sem]
        refine W_retR c81_ok rfl ⟨?_, rfl⟩
        simp only [look, ev, V.bool.injEq, V.int.injEq, V.str.injEq, V.tup.injEq, V.agg.injEq, V.isl.injEq, List.cons.injEq, true_and, and_true, Nat.reduceEqDiff, Nat.reduceAdd, Nat.reduceSub, Nat.reduceMul, Nat.reducePow, Nat.reduceDiv, Nat.reduceMod, Int.reduceToNat, Nat.reduceLeDiff, Nat.reduceLT, Int.reduceEq, Int.reduceLT, Int.reduceLE, Int.reduceGT, Int.reduceGE, Int.reduceNeg, Int.reduceSub, Int.reduceAdd, Int.reduceMul, Int.reducePow, ne_eq, reduceCtorEq, ↓reduceIte]
        rw [← hr]
        exact decide_eq_decide.2 (by omega)
      · have he : a.getD i 0 = b.getD i 0 := by omega
        rw [if_pos (by rw [he])] at hr
        simp (disch := omega) only [go_sem]
        exact ih (i + 1) _ _ ⟨by omega, by omega, hr⟩ (by omega) (by simp (disch := omega) only [subT, Int.natCast_add, Int.cast_ofNat_Int, go_sem] <;> (repeat' apply And.intro) <;> first | rfl | (congr 1; omega) | assumption) rfl
    case' neg =>
      have d2 : decide ((i : Int) < b.length) = false := decide_eq_false (by omega)
      simp (disch := omega) only [d1, d2, go_sem]
  case' neg =>
    have d1 : decide ((i : Int) < a.length) = false := decide_eq_false (by omega)
    simp (disch := omega) only [d1, go_sem]
  all_goals
    refine W_retR c81_ok rfl ⟨?_, rfl⟩
    simp only [look, ev, V.bool.injEq, V.int.injEq, V.str.injEq, V.tup.injEq, V.agg.injEq, V.isl.injEq, List.cons.injEq, true_and, and_true, Nat.reduceEqDiff, Nat.reduceAdd, Nat.reduceSub, Nat.reduceMul, Nat.reducePow, Nat.reduceDiv, Nat.reduceMod, Int.reduceToNat, Nat.reduceLeDiff, Nat.reduceLT, Int.reduceEq, Int.reduceLT, Int.reduceLE, Int.reduceGT, Int.reduceGE, Int.reduceNeg, Int.reduceSub, Int.reduceAdd, Int.reduceMul, Int.reducePow, ne_eq, reduceCtorEq, ↓reduceIte]
    rw [← hr]
    clear ih
  · rw [List.drop_of_length_le (show a.length ≤ i by omega)]
    by_cases c2 : i < b.length
    · rw [drop_cons 0 c2]
      simp only [rowC]
      exact decide_eq_decide.2 (by omega)
    · rw [List.drop_of_length_le (show b.length ≤ i by omega)]
      simp only [rowC]
      exact decide_eq_decide.2 (by omega)
  · rw [drop_cons 0 c1, List.drop_of_length_le (show b.length ≤ i by omega)]
    simp only [rowC]
    exact decide_eq_decide.2 (by omega)
theorem normOf_taut {cls ys : List (List Int)} {i : Nat} (h : NormOf (cls.take i) ys) (hi : i < cls.length) (ht : tautP (ordP (cls.getD i [])) = true) : NormOf (cls.take (i + 1)) ys :=
  ⟨h.1, fun r => by rw [rowsP_step hi, if_pos ht]; exact h.2 r⟩
theorem normOf_ins {cls ys : List (List Int)} {i : Nat} (h : NormOf (cls.take i) ys) (hi : i < cls.length) (ht : tautP (ordP (cls.getD i [])) = false) : NormOf (cls.take (i + 1)) (insN ys (ordP (cls.getD i []))) := by
  obtain ⟨h1, h2⟩ := insN_strict (c := ordP (cls.getD i [])) h.1
  refine ⟨h1, fun r => ?_⟩
  rw [rowsP_step hi, ht, if_neg Bool.false_ne_true, h2, h.2, List.mem_append, List.mem_singleton]
theorem clsVK_ok (cls : List (List Int)) : ∀ y ∈ clsV cls, y.cells.length = 1 ∧ ∀ c ∈ y.cells, c.one = true := by
  intro y hy; simp only [clsV, List.mem_map] at hy; obtain ⟨x, _, rfl⟩ := hy; simp [V.cells, V.one, intsV]
set_option maxHeartbeats 4000000 in
theorem specNormalCnf_ok {vars : Int} {cls : List (List Int)} (hb : cnfB vars cls = true) : ACalls Try.prog Γ 32 [cnfV vars cls] σ fun r s => ∃ ys, NormOf cls ys ∧ r = .tup [cnfV vars ys, .int .i64 0] ∧ s = σ := by
  obtain ⟨hc, hv0, hv40, hcl⟩ := clsOK_of hb
  have hr := rows_of hb
  refine acalls_W c32_ok rfl ?_
  simp (disch := omega) only [c32, cnfV, go_sem]
  refine SRun.boxR (by simp [ev, look, V.cells, V.one]) ?_
  intro b1 hb1
  simp (disch := omega) only [go_sem]
  refine SRun.allocR ?_
  intro b2 hb2
  have n2 := upd_none.1 hb2
  have g21 : ∀ z, upd (upd σ b1 z) b2 [.int .i64 0, .isl true 0 []] b1 = some z := fun z => by rw [upd_ne _ _ n2.1.symm, upd_same]
  simp (disch := omega) only [g21, go_sem]
  refine SRun.callR (cnfOK_ok hb) ⟨[], rfl, rfl⟩ rfl ?_
  simp (disch := omega) only [g21, go_sem]
  refine SRun.allocR ?_
  intro b4 hb4
  have n4 := upd_none.1 hb4
  have n41 : b4 ≠ b1 := (upd_none.1 n4.2).1
  have gA1 : upd (upd σ b1 [.int .i64 vars, .isl false 1 (clsV cls)]) b2 [.int .i64 0, .isl true 0 []] b1 = some [.int .i64 vars, .isl false 1 (clsV cls)] := g21 _
  have gA2 := upd_same (upd σ b1 [.int .i64 vars, .isl false 1 (clsV cls)]) b2 [.int .i64 0, .isl true 0 []]
  have hleA : ∀ c x, σ c = some x → upd (upd σ b1 [.int .i64 vars, .isl false 1 (clsV cls)]) b2 [.int .i64 0, .isl true 0 []] c = some x := fun c x h => le_upd hb2 _ _ (le_upd hb1 _ _ h)
  generalize upd (upd σ b1 [.int .i64 vars, .isl false 1 (clsV cls)]) b2 [.int .i64 0, .isl true 0 []] = A at *
  simp (disch := omega) only [go_sem]
  refine W_freezeInN (T' := [(1, .ptr b1 0), (2, .ptr b2 0), (4, .ptr b4 0), (5, .int .i64 0)]) (σ' := upd A b4 [.int .i64 vars, .isl false 1 (clsV [])]) (frzIn_one (by simp [V.one]) ⟨.refl _, frz_nil _ _, trivial⟩) (frzT_of_sub (by simp (disch := omega) only [subT, Int.natCast_add, Int.cast_ofNat_Int, go_sem] <;> (repeat' apply And.intro) <;> first | rfl | (congr 1; omega) | assumption)) ?_
  refine W_loopC (α := Nat × List (List Int)) (fun p => p.1 ≤ cls.length ∧ NormOf (cls.take p.1) p.2) (fun p => [(1, .ptr b1 0), (2, .ptr b2 0), (4, .ptr b4 0), (5, .int .i64 (p.1 : Nat))]) (fun p => upd A b4 [.int .i64 vars, .isl false 1 (clsV p.2)]) (fun p => cls.length - p.1) (0, []) ⟨by simp, ⟨List.Pairwise.nil, fun r => by simp [rowsP]⟩⟩ (by simp (disch := omega) only [subT, Int.natCast_add, Int.cast_ofNat_Int, go_sem] <;> (repeat' apply And.intro) <;> first | rfl | (congr 1; omega) | assumption) rfl ?_
  rintro ⟨i, ys⟩ ⟨hi, hn⟩ ih
  dsimp only at hi hn
  have s1 : ∀ z, upd A b4 z b1 = some [.int .i64 vars, .isl false 1 (clsV cls)] := fun z => by rw [upd_ne _ _ n41.symm]; exact gA1
  have s2 : ∀ z, upd A b4 z b2 = some [.int .i64 0, .isl true 0 []] := fun z => by rw [upd_ne _ _ n4.1.symm]; exact gA2
  have s4 : ∀ z, upd A b4 z b4 = some z := fun z => upd_same _ _ _
  simp (disch := omega) only [s1, go_sem]
  first | refine iteW_dec (fun h1 => ?_) (fun h1 => ?_) | refine iteW_of (fun h1 => ?_) (fun h1 => ?_)
  · have hlt : i < cls.length := by omega
    have hmem := getD_mem [] hlt
    have ht1 := normOf_taut hn hlt
    have ht2 := normOf_ins hn hlt
    simp (disch := omega) only [s1, go_sem]
    generalize cls.getD i [] = c at *
    obtain ⟨c1, c2, c3, c4⟩ := hr c hmem
    have hof := ordP_fine c1 c3
    have hyl : ys.length ≤ i := by have := hn.len; rw [List.length_take] at this; omega
    have hyN : ∀ y ∈ ys, y.length ≤ 12 ∧ ∀ x ∈ y, litN x := fun y hy => by
      obtain ⟨d, hd, rfl, _⟩ := rowsP_mem.1 ((hn.2 y).1 hy)
      obtain ⟨d1, _, d3, d4⟩ := hr d (List.mem_of_mem_take hd)
      exact ⟨(ordP_fine d1 d3).2, fun x hx => d4 x (((ordP_of d).2 x).1 hx)⟩
    have hoN : ∀ x ∈ ordP c, litN x := fun x hx => c4 x (((ordP_of c).2 x).1 hx)
    refine SRun.callQ (l01Sorted_ok (ex := false) (by omega) c4) ⟨[], rfl, rfl⟩ rfl ?_
    rintro r s' ⟨zs, hzs, rfl, hs'⟩
    obtain rfl := hs'.symm
    obtain rfl := hzs.eq
    simp (disch := omega) only [go_sem]
    cases ht : tautP (ordP c) with
    | true =>
      simp (disch := omega) only [go_sem]
      exact ih (i + 1, ys) _ _ ⟨by simp only; omega, ht1 ht⟩ (by simp only; omega) (by simp (disch := omega) only [subT, Int.natCast_add, Int.cast_ofNat_Int, go_sem] <;> (repeat' apply And.intro) <;> first | rfl | (congr 1; omega) | assumption) rfl
    | false =>
      have hnext := ht2 ht
      have hol := hof.2
      have hkl := insKN_le (ordP c) ys
      clear ht1 ht2
      generalize ordP c = o at *
      simp (disch := omega) only [intsV, go_sem]
      refine W_loopC (α := Nat) (fun k => k ≤ insKN o ys) (fun k => [(1, .ptr b1 0), (2, .ptr b2 0), (4, .ptr b4 0), (5, .int .i64 (i : Nat)), (6, .isl false 1 (ints o)), (8, .int .i64 (k : Nat))]) (fun _ => upd A b4 [.int .i64 vars, .isl false 1 (clsV ys)]) (fun k => insKN o ys - k) 0 (Nat.zero_le _) (by simp (disch := omega) only [subT, Int.natCast_add, Int.cast_ofNat_Int, go_sem] <;> (repeat' apply And.intro) <;> first | rfl | (congr 1; omega) | assumption) rfl ?_
      intro k hk ih2
      simp (disch := omega) only [s4, go_sem]
      by_cases c1 : k < insKN o ys
      · have hb2 := insKN_before o c1
        have hyk := hyN _ (getD_mem [] (by omega : k < ys.length))
        have d1 : decide ((k : Int) < ys.length) = true := decide_eq_true (by omega)
        simp (disch := omega) only [s4, d1, go_sem]
        refine SRun.callR (l01Less_ok (e1 := false) (e2 := false) (by omega) (by omega) hyk.2 hoN) ⟨[], rfl, rfl⟩ rfl ?_
        rw [decide_eq_true hb2]
        simp (disch := omega) only [go_sem]
        exact ih2 (k + 1) _ _ (by omega) (by omega) (by simp (disch := omega) only [subT, Int.natCast_add, Int.cast_ofNat_Int, go_sem] <;> (repeat' apply And.intro) <;> first | rfl | (congr 1; omega) | assumption) rfl
      · have hkk : k = insKN o ys := by omega
        clear ih2
        have hst := insKN_stop o (ys := ys)
        have hR : insN ys o = if insKN o ys < ys.length ∧ ys.getD (insKN o ys) [] = o then ys else ys.take (insKN o ys) ++ [o] ++ ys.drop (insKN o ys) := rfl
        rw [← hkk] at hst hR hkl
        clear hkk hk c1
        by_cases c2 : k < ys.length
        case' pos =>
          have hyk := hyN _ (getD_mem [] c2)
          have d1 : decide ((k : Int) < ys.length) = true := decide_eq_true (by omega)
          simp (disch := omega) only [s4, d1, go_sem]
          refine SRun.callR (l01Less_ok (e1 := false) (e2 := false) (by omega) (by omega) hyk.2 hoN) ⟨[], rfl, rfl⟩ rfl ?_
          rw [decide_eq_false (hst c2)]
          simp (disch := omega) only [s4, d1, go_sem]
          refine SRun.callR (l01Same_ok (ex := false) (ex2 := false) (xs := ys.getD k []) (ys := o) (by omega)) ⟨[], rfl, rfl⟩ rfl ?_
          by_cases c3 : ys.getD k [] = o
          case' pos =>
            have d3 : (ys.getD k [] == o) = true := beq_iff_eq.2 c3
            rw [if_pos ⟨c2, c3⟩] at hR
            rw [hR] at hnext
            simp (disch := omega) only [d3, go_sem]
            refine ih (i + 1, ys) _ _ ⟨by simp only; omega, hnext⟩ (by simp only; omega) (by simp (disch := omega) only [subT, Int.natCast_add, Int.cast_ofNat_Int, go_sem] <;> (repeat' apply And.intro) <;> first | rfl | (congr 1; omega) | assumption) rfl
          have d3 : (ys.getD k [] == o) = false := beq_eq_false_iff_ne.2 c3
          rw [if_neg (fun e => c3 e.2)] at hR
          simp (disch := omega) only [d3, go_sem]
        case' neg =>
          have d1 : decide ((k : Int) < ys.length) = false := decide_eq_false (by omega)
          rw [if_neg (fun e => c2 e.1)] at hR
          simp (disch := omega) only [s4, d1, go_sem]
        all_goals
          rw [hR] at hnext
          rw [W_draw]
          have t1 : List.take ((k : Int) - 0).toNat (clsV ys) = clsV (ys.take k) := by rw [show ((k : Int) - 0).toNat = k by omega]; simp [clsV, List.map_take]
          have t2 : List.take ((ys.length : Int) - k).toNat (List.drop k (clsV ys)) = clsV (ys.drop k) := by rw [List.take_of_length_le (by rw [List.length_drop, clsV_len]; omega)]; simp [clsV, List.map_drop]
          refine DRun.start (DRun.mixN rfl ?_)
          simp (disch := omega) only [s4, go_sem]
          refine DS.wrQ (WrF.appL (OwnL.nil (σ0 := emp) 1 1) (congrArg (V.isl _ 1) t1) (clsVK_ok (ys.take k)) (by simp only [clsV_len, List.length_nil, List.length_take]; omega)) rfl ?_
          intro q1 s1' hr1 _
          have hr1' := OwnL.of_app (OwnL.nil (σ0 := emp) 1 1) (clsVK_ok (ys.take k)) hr1
          rw [List.nil_append] at hr1'
          simp (disch := omega) only [go_sem]
          refine DS.wrQ (WrF.appL hr1' rfl (clsRow_ok o) (by simp only [clsV_len, List.length_take, List.length_singleton]; omega)) rfl ?_
          intro q2 s2' hr2 hdj
          have hr2' := OwnL.of_app hr1' (clsRow_ok o) hr2
          rw [clsV_app] at hr2'
          have hr3 := ownL_join hr2' hdj
          simp (disch := omega) only [go_sem]
          refine DRun.appL hr3 (congrArg (V.isl _ 1) t2) (clsVK_ok (ys.drop k)) (by simp only [clsV_len, List.length_append, List.length_take, List.length_singleton, List.length_drop]; omega) ?_
          intro q3 s3 hr4
          have he : clsV (ys.take k ++ [o]) ++ clsV (ys.drop k) = clsV (ys.take k ++ [o] ++ ys.drop k) := by simp [clsV]
          rw [he] at hr4
          generalize ys.take k ++ [o] ++ ys.drop k = zs at *
          have g43 := hr4.get (s4 _)
          have hr5 := hr4.upd (c' := [.int .i64 vars, q3]) (s4 _)
          rw [upd_upd] at hr5
          have hin := ownL_frzIn (cs' := [.int .i64 vars, .isl false 1 (clsV zs)]) hr5 (by simp [V.one]) (fun hf => ⟨.refl _, hf, trivial⟩)
          simp (disch := omega) only [g43, hr4.one, hr4.cells, go_sem]
          refine W_freezeIn (σ' := upd A b4 [.int .i64 vars, .isl false 1 (clsV zs)]) (T' := [(1, .ptr b1 0), (2, .ptr b2 0), (4, .ptr b4 0), (5, .int .i64 ((i : Int) + 1))]) hin (frzT_of_sub (by simp (disch := omega) only [subT, Int.natCast_add, Int.cast_ofNat_Int, go_sem] <;> (repeat' apply And.intro) <;> first | rfl | (congr 1; omega) | assumption)) ?_
          exact ih (i + 1, zs) _ _ ⟨by simp only; omega, hnext⟩ (by simp only; omega) (by simp (disch := omega) only [subT, Int.natCast_add, Int.cast_ofNat_Int, go_sem] <;> (repeat' apply And.intro) <;> first | rfl | (congr 1; omega) | assumption) rfl
  · have hil : i = cls.length := by omega
    subst hil
    rw [List.take_length] at hn
    simp (disch := omega) only [s4, s2, go_sem]
    refine W_retC c32_ok (resV_2 rfl (upd_same _ _ _) rfl) ⟨fun d x hd => ?_, .refl _⟩ ⟨ys, hn, rfl, rfl⟩
    have h2 : d ≠ b2 := fun e => by subst e; rw [n2.2] at hd; cases hd
    have h4 : d ≠ b4 := fun e => by subst e; rw [hleA _ _ hd] at hb4; cases hb4
    rw [upd_ne _ _ h2, upd_ne _ _ h4]; exact hleA _ _ hd
end Go.Proofs.Ytlojopaebdnacaa.Lg
