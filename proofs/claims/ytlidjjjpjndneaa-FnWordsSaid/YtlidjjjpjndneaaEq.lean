/- Circuits: the program's answers, and what the laws compare them by. -/
import Derived.Test.YtlidjjjpjndneaaEo
set_option linter.unusedSimpArgs false
set_option linter.unusedVariables false
namespace Go.Proofs.Ytlidjjjpjndneaa.Lg
open Go
attribute [local irreducible] SRun DS DRun
variable {Γ : St} {σ σ0 : St}
theorem sameInts_ok {ex ex2 : Bool} {xs ys : List Int} (hl : xs.length ≤ 1000000000) : Ret Try.prog Γ 22 [.isl ex 1 (ints xs), .isl ex2 1 (ints ys)] σ (.bool (xs == ys)) σ := by
  refine ret_of c22_ok rfl ?_
  simp (disch := omega) only [c22, go_sem, ↓if_pos, ne_eq, ↓reduceIte]
  first | refine iteW_dec (fun h => ?_) (fun h => ?_) | refine iteW_of (fun h => ?_) (fun h => ?_)
  · simp (disch := omega) only [go_sem, ↓if_pos, ne_eq, ↓reduceIte]
    refine W_retR c22_ok rfl ⟨?_, rfl⟩
    simp only [look, ev, V.bool.injEq, V.int.injEq, V.str.injEq, V.tup.injEq, V.agg.injEq, V.isl.injEq, List.cons.injEq, true_and, and_true, Nat.reduceEqDiff, Nat.reduceAdd, Nat.reduceSub, Nat.reduceMul, Nat.reducePow, Nat.reduceDiv, Nat.reduceMod, Int.reduceToNat, Nat.reduceLeDiff, Nat.reduceLT, Int.reduceEq, Int.reduceLT, Int.reduceLE, Int.reduceGT, Int.reduceGE, Int.reduceNeg, Int.reduceSub, Int.reduceAdd, Int.reduceMul, Int.reducePow, ne_eq, reduceCtorEq, ↓reduceIte]
    symm; rw [beq_eq_false_iff_ne]; intro e; exact h (by rw [e])
  · simp (disch := omega) only [go_sem, ↓if_pos, ne_eq, ↓reduceIte]
    have hlen : xs.length = ys.length := by omega
    refine W_loopC (fun i : Nat => i ≤ xs.length ∧ xs.take i = ys.take i) (fun i => [(0, .isl ex 1 (ints xs)), (1, .isl ex2 1 (ints ys)), (5, .int .i64 i)]) (fun _ => σ) (fun i => xs.length - i) 0 ⟨by omega, rfl⟩ (by simp (disch := omega) only [subT, Int.natCast_add, Int.cast_ofNat_Int, go_sem, ↓if_pos, ne_eq, ↓reduceIte] <;> (repeat' apply And.intro) <;> first | rfl | (congr 1; omega) | assumption) rfl ?_
    rintro i ⟨hi, ht⟩ ih
    simp (disch := omega) only [go_sem, ↓if_pos, ne_eq, ↓reduceIte]
    first | refine iteW_dec (fun h2 => ?_) (fun h2 => ?_) | refine iteW_of (fun h2 => ?_) (fun h2 => ?_)
    · simp (disch := omega) only [go_sem, ↓if_pos, ne_eq, ↓reduceIte]
      refine W_drawW ?_
      simp (disch := omega) only [go_sem, ↓if_pos, ne_eq, ↓reduceIte]
      first | refine iteW_dec (fun h3 => ?_) (fun h3 => ?_) | refine iteW_of (fun h3 => ?_) (fun h3 => ?_)
      · simp (disch := omega) only [go_sem, ↓if_pos, ne_eq, ↓reduceIte]
        refine W_retR c22_ok rfl ⟨?_, rfl⟩
        simp only [look, ev, V.bool.injEq, V.int.injEq, V.str.injEq, V.tup.injEq, V.agg.injEq, V.isl.injEq, List.cons.injEq, true_and, and_true, Nat.reduceEqDiff, Nat.reduceAdd, Nat.reduceSub, Nat.reduceMul, Nat.reducePow, Nat.reduceDiv, Nat.reduceMod, Int.reduceToNat, Nat.reduceLeDiff, Nat.reduceLT, Int.reduceEq, Int.reduceLT, Int.reduceLE, Int.reduceGT, Int.reduceGE, Int.reduceNeg, Int.reduceSub, Int.reduceAdd, Int.reduceMul, Int.reducePow, ne_eq, reduceCtorEq, ↓reduceIte]
        symm; rw [beq_eq_false_iff_ne]; intro e; subst e; exact h3 rfl
      · simp (disch := omega) only [go_sem, ↓if_pos, ne_eq, ↓reduceIte]
        refine ih (i + 1) _ _ ⟨by omega, ?_⟩ (by omega) (by simp (disch := omega) only [subT, Int.natCast_add, Int.cast_ofNat_Int, go_sem, ↓if_pos, ne_eq, ↓reduceIte] <;> (repeat' apply And.intro) <;> first | rfl | (congr 1; omega) | assumption) rfl
        rw [take_succ 0 (by omega), take_succ 0 (by omega), ht]
        have h3' : xs.getD i 0 = ys.getD i 0 := by omega
        rw [h3']
    · simp (disch := omega) only [go_sem, ↓if_pos, ne_eq, ↓reduceIte]
      refine W_retR c22_ok rfl ⟨?_, rfl⟩
      simp only [look, ev, V.bool.injEq, V.int.injEq, V.str.injEq, V.tup.injEq, V.agg.injEq, V.isl.injEq, List.cons.injEq, true_and, and_true, Nat.reduceEqDiff, Nat.reduceAdd, Nat.reduceSub, Nat.reduceMul, Nat.reducePow, Nat.reduceDiv, Nat.reduceMod, Int.reduceToNat, Nat.reduceLeDiff, Nat.reduceLT, Int.reduceEq, Int.reduceLT, Int.reduceLE, Int.reduceGT, Int.reduceGE, Int.reduceNeg, Int.reduceSub, Int.reduceAdd, Int.reduceMul, Int.reducePow, ne_eq, reduceCtorEq, ↓reduceIte]
      symm; rw [beq_iff_eq]
      rw [List.take_of_length_le (by omega), List.take_of_length_le (by omega)] at ht; exact ht
theorem sameBools_ok {ex ex2 : Bool} {xs bs : List Bool} (hl : xs.length ≤ 1000000000) : Ret Try.prog Γ 28 [.isl ex 1 (bools xs), .isl ex2 1 (bools bs)] σ (.bool (xs == bs)) σ := by
  refine ret_of c28_ok rfl ?_
  simp (disch := omega) only [c28, bools, go_sem, ↓if_pos, ne_eq, ↓reduceIte]
  first | refine iteW_dec (fun h => ?_) (fun h => ?_) | refine iteW_of (fun h => ?_) (fun h => ?_)
  · simp (disch := omega) only [go_sem, ↓if_pos, ne_eq, ↓reduceIte]
    refine W_retR c28_ok rfl ⟨?_, rfl⟩
    simp only [look, ev, V.bool.injEq, V.int.injEq, V.str.injEq, V.tup.injEq, V.agg.injEq, V.isl.injEq, List.cons.injEq, true_and, and_true, Nat.reduceEqDiff, Nat.reduceAdd, Nat.reduceSub, Nat.reduceMul, Nat.reducePow, Nat.reduceDiv, Nat.reduceMod, Int.reduceToNat, Nat.reduceLeDiff, Nat.reduceLT, Int.reduceEq, Int.reduceLT, Int.reduceLE, Int.reduceGT, Int.reduceGE, Int.reduceNeg, Int.reduceSub, Int.reduceAdd, Int.reduceMul, Int.reducePow, ne_eq, reduceCtorEq, ↓reduceIte]
    symm; rw [beq_eq_false_iff_ne]; intro e; exact h (by rw [e])
  · simp (disch := omega) only [go_sem, ↓if_pos, ne_eq, ↓reduceIte]
    have hlen : xs.length = bs.length := by omega
    refine W_loopC (fun i : Nat => i ≤ xs.length ∧ xs.take i = bs.take i) (fun i => [(0, .isl ex 1 (xs.map V.bool)), (1, .isl ex2 1 (bs.map V.bool)), (5, .int .i64 i)]) (fun _ => σ) (fun i => xs.length - i) 0 ⟨by omega, rfl⟩ (by simp (disch := omega) only [subT, Int.natCast_add, Int.cast_ofNat_Int, go_sem, ↓if_pos, ne_eq, ↓reduceIte] <;> (repeat' apply And.intro) <;> first | rfl | (congr 1; omega) | assumption) rfl ?_
    rintro i ⟨hi, ht⟩ ih
    simp (disch := omega) only [go_sem, ↓if_pos, ne_eq, ↓reduceIte]
    first | refine iteW_dec (fun h2 => ?_) (fun h2 => ?_) | refine iteW_of (fun h2 => ?_) (fun h2 => ?_)
    · simp (disch := omega) only [go_sem, ↓if_pos, ne_eq, ↓reduceIte]
      refine W_drawW ?_
      simp (disch := omega) only [go_sem, ↓if_pos, ne_eq, ↓reduceIte]
      first | refine iteW_dec (fun h3 => ?_) (fun h3 => ?_) | refine iteW_of (fun h3 => ?_) (fun h3 => ?_)
      · simp (disch := omega) only [go_sem, ↓if_pos, ne_eq, ↓reduceIte]
        refine W_retR c28_ok rfl ⟨?_, rfl⟩
        simp only [look, ev, V.bool.injEq, V.int.injEq, V.str.injEq, V.tup.injEq, V.agg.injEq, V.isl.injEq, List.cons.injEq, true_and, and_true, Nat.reduceEqDiff, Nat.reduceAdd, Nat.reduceSub, Nat.reduceMul, Nat.reducePow, Nat.reduceDiv, Nat.reduceMod, Int.reduceToNat, Nat.reduceLeDiff, Nat.reduceLT, Int.reduceEq, Int.reduceLT, Int.reduceLE, Int.reduceGT, Int.reduceGE, Int.reduceNeg, Int.reduceSub, Int.reduceAdd, Int.reduceMul, Int.reducePow, ne_eq, reduceCtorEq, ↓reduceIte]
        symm; rw [beq_eq_false_iff_ne]; intro e; subst e; simp at h3
      · simp (disch := omega) only [go_sem, ↓if_pos, ne_eq, ↓reduceIte]
        refine ih (i + 1) _ _ ⟨by omega, ?_⟩ (by omega) (by simp (disch := omega) only [subT, Int.natCast_add, Int.cast_ofNat_Int, go_sem, ↓if_pos, ne_eq, ↓reduceIte] <;> (repeat' apply And.intro) <;> first | rfl | (congr 1; omega) | assumption) rfl
        rw [take_succ default (by omega), take_succ default (by omega), ht]
        simp at h3; simp [h3]
    · simp (disch := omega) only [go_sem, ↓if_pos, ne_eq, ↓reduceIte]
      refine W_retR c28_ok rfl ⟨?_, rfl⟩
      simp only [look, ev, V.bool.injEq, V.int.injEq, V.str.injEq, V.tup.injEq, V.agg.injEq, V.isl.injEq, List.cons.injEq, true_and, and_true, Nat.reduceEqDiff, Nat.reduceAdd, Nat.reduceSub, Nat.reduceMul, Nat.reducePow, Nat.reduceDiv, Nat.reduceMod, Int.reduceToNat, Nat.reduceLeDiff, Nat.reduceLT, Int.reduceEq, Int.reduceLT, Int.reduceLE, Int.reduceGT, Int.reduceGE, Int.reduceNeg, Int.reduceSub, Int.reduceAdd, Int.reduceMul, Int.reducePow, ne_eq, reduceCtorEq, ↓reduceIte]
      symm; rw [beq_iff_eq]
      rw [List.take_of_length_le (by omega), List.take_of_length_le (by omega)] at ht; exact ht
/-- The bits of a number, as the program has them. -/
def bitP (a : Int) (i : Nat) : Bool := decide (bitsV .and .i64 (a.fdiv (2 ^ min i 64)) 1 = 1)
def valuesP (a : Int) (many : Nat) : List Bool := (List.range many).map (bitP a)
theorem valuesP_len (a : Int) (many : Nat) : (valuesP a many).length = many := by simp [valuesP]
theorem values_ok {a : Int} {many : Nat} (hm : many ≤ 1000) : Ret Try.prog Γ 25 [.int .i64 a, .int .i64 many] σ (boolsV (valuesP a many)) σ := by
  refine ret_of c25_ok rfl ?_
  simp (disch := omega) only [c25, go_sem, ↓if_pos, ne_eq, ↓reduceIte]
  refine W_loopC (α := Nat × V × St) (fun p => p.1 ≤ many ∧ OwnL σ 1 (bools (valuesP a p.1)) p.2.1 p.2.2) (fun p => [(0, .int .i64 a), (1, .int .i64 many), (5, p.2.1), (6, .int .i64 (p.1 : Nat))]) (fun p => p.2.2) (fun p => many - p.1) (0, .isl true 1 [], σ) ⟨by simp, OwnL.nil _ _⟩ (by simp (disch := omega) only [subT, Int.natCast_add, Int.cast_ofNat_Int, go_sem, ↓if_pos, ne_eq, ↓reduceIte] <;> (repeat' apply And.intro) <;> first | rfl | (congr 1; omega) | assumption) rfl ?_
  rintro ⟨i, t, s⟩ ⟨hi, ho⟩ ih
  dsimp only at hi ho
  simp (disch := omega) only [go_sem, ↓if_pos, ne_eq, ↓reduceIte]
  first | refine iteW_dec (fun hq => ?_) (fun hq => ?_) | refine iteW_of (fun hq => ?_) (fun hq => ?_)
  · have w2 := wrapU64 (a := (i : Int)) (by omega) (by omega)
    simp (disch := omega) only [w2, go_sem, ↓if_pos, ne_eq, ↓reduceIte]
    refine SRun.appL ho rfl (bools_ok [bitP a i]) (by rw [bools_len, valuesP_len]; simp only [List.length_singleton]; omega) ?_
    intro t2 s2 ho2
    have hap : bools (valuesP a i) ++ [V.bool (decide (bitsV .and .i64 (a.fdiv (2 ^ min i 64)) 1 = 1))] = bools (valuesP a (i + 1)) := by simp [valuesP, List.range_succ, bools, bitP]
    rw [hap] at ho2
    simp (disch := omega) only [go_sem, ↓if_pos, ne_eq, ↓reduceIte]
    exact ih (i + 1, t2, s2) _ _ ⟨by simp only; omega, ho2⟩ (by simp only; omega) (by simp (disch := omega) only [subT, Int.natCast_add, Int.cast_ofNat_Int, go_sem, ↓if_pos, ne_eq, ↓reduceIte] <;> (repeat' apply And.intro) <;> first | rfl | (congr 1; omega) | assumption) rfl
  · obtain rfl : i = many := by omega
    simp (disch := omega) only [go_sem, ↓if_pos, ne_eq, ↓reduceIte]
    exact W_retC c25_ok (r := t) (r' := boolsV (valuesP a i)) (σ' := σ) rfl ho.conv ⟨rfl, rfl⟩
theorem indexInts_no {ex : Bool} {xs : List Int} {F : FuncId} {caps : List V} (hl : xs.length ≤ 140737488355328) (hp : ∀ x ∈ xs, Ret Try.prog Γ F (.int .i64 x :: caps) σ (.bool false) σ) :
    Ret Try.prog Γ 141 [.isl ex 1 (ints xs), .fn F caps] σ (.int .i64 (-1)) σ := by
  refine ret_of c141_ok rfl ?_
  simp (disch := omega) only [c141, go_sem, ↓if_pos, ne_eq, ↓reduceIte]
  refine W_loopC (α := Nat) (fun i => i ≤ xs.length) (fun i => [(0, .isl ex 1 (ints xs)), (1, .fn F caps), (7, .int .i64 xs.length), (8, .int .i64 (i : Nat))]) (fun _ => σ) (fun i => xs.length - i) 0 (by omega) (by simp (disch := omega) only [subT, Int.natCast_add, Int.cast_ofNat_Int, ints_len, go_sem, ↓if_pos, ne_eq, ↓reduceIte] <;> (repeat' apply And.intro) <;> first | rfl | (congr 1; omega) | assumption) rfl ?_
  intro i hi ih
  simp (disch := omega) only [go_sem, ↓if_pos, ne_eq, ↓reduceIte]
  first | refine iteW_dec (fun hq => ?_) (fun hq => ?_) | refine iteW_of (fun hq => ?_) (fun hq => ?_)
  · simp (disch := omega) only [go_sem, ↓if_pos, ne_eq, ↓reduceIte]
    refine SRun.callR (hp _ (getD_mem 0 (by omega : i < xs.length))) ⟨caps, rfl, rfl⟩ rfl ?_
    simp (disch := omega) only [go_sem, ↓if_pos, ne_eq, ↓reduceIte]
    exact ih (i + 1) _ _ (by omega) (by omega) (by simp (disch := omega) only [subT, Int.natCast_add, Int.cast_ofNat_Int, go_sem, ↓if_pos, ne_eq, ↓reduceIte] <;> (repeat' apply And.intro) <;> first | rfl | (congr 1; omega) | assumption) rfl
  · simp (disch := omega) only [go_sem, ↓if_pos, ne_eq, ↓reduceIte]
    exact W_retR c141_ok rfl ⟨rfl, rfl⟩
theorem containsInts_no {ex : Bool} {xs : List Int} {F : FuncId} {caps : List V} (hl : xs.length ≤ 140737488355328) (hp : ∀ x ∈ xs, Ret Try.prog Γ F (.int .i64 x :: caps) σ (.bool false) σ) :
    Ret Try.prog Γ 58 [.isl ex 1 (ints xs), .fn F caps] σ (.bool false) σ := by
  refine ret_of c58_ok rfl ?_
  simp (disch := omega) only [c58, go_sem, ↓if_pos, ne_eq, ↓reduceIte]
  refine SRun.callR (indexInts_no (ex := ex) hl hp) ⟨[], rfl, rfl⟩ rfl ?_
  simp (disch := omega) only [List.getD_cons_zero, List.getD_cons_succ, go_sem, ↓if_pos, ne_eq, ↓reduceIte]
  refine W_retR c58_ok rfl ⟨?_, rfl⟩
  rfl
theorem nodesOf_ok {inp : Int} {gs : List (Int × Int)} (hinp : 0 ≤ inp ∧ inp ≤ 12) (hl : gs.length ≤ 400) : Ret Try.prog Γ 159 [aigV inp gs] σ (.int .i64 (1 + inp + gs.length)) σ := by
  have hgl := gsV_len gs
  refine ret_of c159_ok rfl ?_
  simp (disch := omega) only [c159, aigV, go_sem, ↓if_pos, ne_eq, ↓reduceIte]
  refine SRun.boxR (by simp [ev, look, V.cells, V.one]) ?_
  intro b hb
  simp (disch := omega) only [hgl, go_sem, ↓if_pos, ne_eq, ↓reduceIte]
  exact W_retC c159_ok rfl (Conv.drop _ (le_upd hb)) ⟨rfl, rfl⟩
theorem isAigLiteral_ok {inp : Int} {gs : List (Int × Int)} {x : Int} (hinp : 0 ≤ inp ∧ inp ≤ 12) (hl : gs.length ≤ 400) (hx : LitOK inp gs x) : Ret Try.prog Γ 80 [aigV inp gs, .int .i64 x] σ (.bool true) σ := by
  refine ret_of c80_ok rfl ?_
  simp (disch := omega) only [c80, aigV, go_sem, ↓if_pos, ne_eq, ↓reduceIte]
  refine SRun.boxR (by simp [ev, look, V.cells, V.one]) ?_
  intro b hb
  simp (disch := omega) only [go_sem, ↓if_pos, ne_eq, ↓reduceIte]
  refine SRun.callR (nodesOf_ok (inp := inp) (gs := gs) hinp hl) ⟨[], rfl, rfl⟩ rfl ?_
  simp (disch := omega) only [go_sem, ↓if_pos, ne_eq, ↓reduceIte]
  refine SRun.callR (within_ok x 0 (2 * (1 + inp + gs.length) - 1)) ⟨[], rfl, rfl⟩ rfl ?_
  simp (disch := omega) only [List.getD_cons_zero, List.getD_cons_succ, go_sem, ↓if_pos, ne_eq, ↓reduceIte]
  unfold LitOK at hx
  have hb2 : (decide (0 ≤ x) && decide (x ≤ 2 * (1 + inp + gs.length) - 1)) = true := by simp; omega
  exact W_retC c80_ok rfl (Conv.drop _ (le_upd hb)) ⟨by simp only [look, ev, V.bool.injEq, V.int.injEq, V.str.injEq, V.tup.injEq, V.agg.injEq, V.isl.injEq, List.cons.injEq, true_and, and_true, Nat.reduceEqDiff, Nat.reduceAdd, Nat.reduceSub, Nat.reduceMul, Nat.reducePow, Nat.reduceDiv, Nat.reduceMod, Int.reduceToNat, Nat.reduceLeDiff, Nat.reduceLT, Int.reduceEq, Int.reduceLT, Int.reduceLE, Int.reduceGT, Int.reduceGE, Int.reduceNeg, Int.reduceSub, Int.reduceAdd, Int.reduceMul, Int.reducePow, ne_eq, reduceCtorEq, ↓reduceIte]; exact hb2, rfl⟩
theorem EvalAig1_ok {inp : Int} {gs : List (Int × Int)} {x : Int} {b : Nat} (hb : σ b = some [.int .i64 inp, .isl false 2 (gsV gs)]) (hinp : 0 ≤ inp ∧ inp ≤ 12) (hl : gs.length ≤ 400) (hx : LitOK inp gs x) : Ret Try.prog Γ 79 [.int .i64 x, .ptr b 0] σ (.bool false) σ := by
  refine ret_of c79_ok rfl ?_
  simp (disch := omega) only [c79, hb, go_sem, ↓if_pos, ne_eq, ↓reduceIte]
  refine SRun.callR (isAigLiteral_ok (inp := inp) (gs := gs) hinp hl hx) ⟨[], rfl, rfl⟩ rfl ?_
  simp (disch := omega) only [go_sem, ↓if_pos, ne_eq, ↓reduceIte]
  exact W_retR c79_ok rfl ⟨rfl, rfl⟩
theorem EvalAig_ok {inp : Int} {gs : List (Int × Int)} {ex ex2 : Bool} {lits : List Int} {vs : List Bool} (hinp : 0 ≤ inp ∧ inp ≤ 12) (hl : gs.length ≤ 400) (hg : GatesOK inp gs) (hv : (vs.length : Int) = inp) (hv0 : vs ≠ []) (hlit : ∀ x ∈ lits, LitOK inp gs x) (hll : lits.length ≤ 4096) :
    Ret Try.prog Γ 26 [aigV inp gs, .isl ex 1 (ints lits), .isl ex2 1 (bools vs)] σ (.tup [boolsV (lits.map (valP (nodesP vs gs))), .int .i64 0]) σ := by
  have hbl := bools_len vs
  have h1 : decide ((lits.length : Int) > 4096) = false := decide_eq_false (by omega)
  refine ret_of c26_ok rfl ?_
  simp (disch := omega) only [c26, aigV, go_sem, ↓if_pos, ne_eq, ↓reduceIte]
  refine SRun.boxR (by simp [ev, look, V.cells, V.one]) ?_
  intro b hb
  simp (disch := omega) only [h1, go_sem, ↓if_pos, ne_eq, ↓reduceIte]
  refine SRun.callR (isAig_ok (inp := inp) (gs := gs) hinp hl hg) ⟨[], rfl, rfl⟩ rfl ?_
  have hne : (decide ¬ (vs.length : Int) = inp) = false := decide_eq_false (by omega)
  simp (disch := omega) only [hne, hbl, go_sem, ↓if_pos, ne_eq, ↓reduceIte]
  refine SRun.callR (containsInts_no (ex := ex) (xs := lits) (F := 79) (caps := [.ptr b 0]) (by omega) fun x hx => EvalAig1_ok (upd_same _ b _) hinp hl (hlit x hx)) ⟨[], rfl, rfl⟩ rfl ?_
  simp (disch := omega) only [go_sem, ↓if_pos, ne_eq, ↓reduceIte]
  refine SRun.callR (evalAig_ok (ex := ex) (ex2 := ex2) hinp hl hg hv hv0 hlit hll) ⟨[], rfl, rfl⟩ rfl ?_
  simp (disch := omega) only [go_sem, ↓if_pos, ne_eq, ↓reduceIte]
  exact W_retC c26_ok rfl (Conv.drop _ (le_upd hb)) ⟨rfl, rfl⟩
theorem AigOK_ok {inp : Int} {gs : List (Int × Int)} (hinp : 0 ≤ inp ∧ inp ≤ 12) (hl : gs.length ≤ 400) (hg : GatesOK inp gs) : Ret Try.prog Γ 23 [aigV inp gs] σ (.bool true) σ := by
  refine ret_of c23_ok rfl ?_
  simp (disch := omega) only [c23, aigV, go_sem, ↓if_pos, ne_eq, ↓reduceIte]
  refine SRun.boxR (by simp [ev, look, V.cells, V.one]) ?_
  intro b hb
  simp (disch := omega) only [go_sem, ↓if_pos, ne_eq, ↓reduceIte]
  refine SRun.callR (isAig_ok (inp := inp) (gs := gs) hinp hl hg) ⟨[], rfl, rfl⟩ rfl ?_
  simp (disch := omega) only [go_sem, ↓if_pos, ne_eq, ↓reduceIte]
  exact W_retC c23_ok rfl (Conv.drop _ (le_upd hb)) ⟨rfl, rfl⟩
end Go.Proofs.Ytlidjjjpjndneaa.Lg
