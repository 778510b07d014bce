/- What is told of the functions that are reached, as far as it is asked here. -/
import Derived.Test.YtabelcohkpmpnaaW1
import Derived.KernelRfl
set_option linter.unusedSimpArgs false
set_option linter.unusedVariables false
namespace Go.Proofs.Ytabelcohkpmpnaa.Lg
open Go
section
attribute [local irreducible] SRun DS DRun
variable {Γ : St} {σ σ0 : St}
theorem sameInts_ok {ex ex2 : Bool} {xs ys : List Int} (hl : xs.length ≤ 1000000000) : Ret Try.prog Γ 15 [.isl ex 1 (ints xs), .isl ex2 1 (ints ys)] σ (.bool (xs == ys)) σ := by
  refine ret_of c15_ok rfl ?_
  simp (disch := omega) only [c15, go_sem, ↓if_pos, ne_eq, ↓reduceIte]
  first | refine iteW_dec (fun h => ?_) (fun h => ?_) | refine iteW_of (fun h => ?_) (fun h => ?_)
  · simp (disch := omega) only [go_sem, ↓if_pos, ne_eq, ↓reduceIte]
    refine W_retR c15_ok rfl ⟨?_, rfl⟩
    simp only [look, ev, V.bool.injEq, V.int.injEq, V.str.injEq, V.tup.injEq, V.agg.injEq, V.isl.injEq, List.cons.injEq, true_and, and_true, Nat.reduceEqDiff, Nat.reduceAdd, Nat.reduceSub, Nat.reduceMul, Nat.reducePow, Nat.reduceDiv, Nat.reduceMod, Int.reduceToNat, Nat.reduceLeDiff, Nat.reduceLT, Int.reduceEq, Int.reduceLT, Int.reduceLE, Int.reduceGT, Int.reduceGE, Int.reduceNeg, Int.reduceSub, Int.reduceAdd, Int.reduceMul, Int.reducePow, ne_eq, reduceCtorEq, ↓reduceIte]
    symm; rw [beq_eq_false_iff_ne]; intro e; exact h (by rw [e])
  · simp (disch := omega) only [go_sem, ↓if_pos, ne_eq, ↓reduceIte]
    have hlen : xs.length = ys.length := by omega
    refine W_loopC (fun i : Nat => i ≤ xs.length ∧ xs.take i = ys.take i) (fun i => [(0, .isl ex 1 (ints xs)), (1, .isl ex2 1 (ints ys)), (5, .int .i64 i)]) (fun _ => σ) (fun i => xs.length - i) 0 ⟨by omega, rfl⟩ (by simp (disch := omega) only [subT, Int.natCast_add, Int.cast_ofNat_Int, go_sem, ↓if_pos, ne_eq, ↓reduceIte] <;> (repeat' apply And.intro) <;> first | rfl | (congr 1; omega) | assumption) rfl ?_
    rintro i ⟨hi, ht⟩ ih
    simp (disch := omega) only [go_sem, ↓if_pos, ne_eq, ↓reduceIte]
    first | refine iteW_dec (fun h2 => ?_) (fun h2 => ?_) | refine iteW_of (fun h2 => ?_) (fun h2 => ?_)
    · simp (disch := omega) only [go_sem, ↓if_pos, ne_eq, ↓reduceIte]
      refine W_drawW ?_
      simp (disch := omega) only [go_sem, ↓if_pos, ne_eq, ↓reduceIte]
      first | refine iteW_dec (fun h3 => ?_) (fun h3 => ?_) | refine iteW_of (fun h3 => ?_) (fun h3 => ?_)
      · simp (disch := omega) only [go_sem, ↓if_pos, ne_eq, ↓reduceIte]
        refine W_retR c15_ok rfl ⟨?_, rfl⟩
        simp only [look, ev, V.bool.injEq, V.int.injEq, V.str.injEq, V.tup.injEq, V.agg.injEq, V.isl.injEq, List.cons.injEq, true_and, and_true, Nat.reduceEqDiff, Nat.reduceAdd, Nat.reduceSub, Nat.reduceMul, Nat.reducePow, Nat.reduceDiv, Nat.reduceMod, Int.reduceToNat, Nat.reduceLeDiff, Nat.reduceLT, Int.reduceEq, Int.reduceLT, Int.reduceLE, Int.reduceGT, Int.reduceGE, Int.reduceNeg, Int.reduceSub, Int.reduceAdd, Int.reduceMul, Int.reducePow, ne_eq, reduceCtorEq, ↓reduceIte]
        symm; rw [beq_eq_false_iff_ne]; intro e; subst e; exact h3 rfl
      · simp (disch := omega) only [go_sem, ↓if_pos, ne_eq, ↓reduceIte]
        refine ih (i + 1) _ _ ⟨by omega, ?_⟩ (by omega) (by simp (disch := omega) only [subT, Int.natCast_add, Int.cast_ofNat_Int, go_sem, ↓if_pos, ne_eq, ↓reduceIte] <;> (repeat' apply And.intro) <;> first | rfl | (congr 1; omega) | assumption) rfl
        rw [take_succ 0 (by omega), take_succ 0 (by omega), ht]
        have h3' : xs.getD i 0 = ys.getD i 0 := by omega
        rw [h3']
    · simp (disch := omega) only [go_sem, ↓if_pos, ne_eq, ↓reduceIte]
      refine W_retR c15_ok rfl ⟨?_, rfl⟩
      simp only [look, ev, V.bool.injEq, V.int.injEq, V.str.injEq, V.tup.injEq, V.agg.injEq, V.isl.injEq, List.cons.injEq, true_and, and_true, Nat.reduceEqDiff, Nat.reduceAdd, Nat.reduceSub, Nat.reduceMul, Nat.reducePow, Nat.reduceDiv, Nat.reduceMod, Int.reduceToNat, Nat.reduceLeDiff, Nat.reduceLT, Int.reduceEq, Int.reduceLT, Int.reduceLE, Int.reduceGT, Int.reduceGE, Int.reduceNeg, Int.reduceSub, Int.reduceAdd, Int.reduceMul, Int.reducePow, ne_eq, reduceCtorEq, ↓reduceIte]
      symm; rw [beq_iff_eq]
      rw [List.take_of_length_le (by omega), List.take_of_length_le (by omega)] at ht; exact ht
theorem sameBools_ok {ex ex2 : Bool} {xs bs : List Bool} (hl : xs.length ≤ 1000000000) : Ret Try.prog Γ 108 [.isl ex 1 (bools xs), .isl ex2 1 (bools bs)] σ (.bool (xs == bs)) σ := by
  refine ret_of c108_ok rfl ?_
  simp (disch := omega) only [c108, bools, go_sem, ↓if_pos, ne_eq, ↓reduceIte]
  first | refine iteW_dec (fun h => ?_) (fun h => ?_) | refine iteW_of (fun h => ?_) (fun h => ?_)
  · simp (disch := omega) only [go_sem, ↓if_pos, ne_eq, ↓reduceIte]
    refine W_retR c108_ok rfl ⟨?_, rfl⟩
    simp only [look, ev, V.bool.injEq, V.int.injEq, V.str.injEq, V.tup.injEq, V.agg.injEq, V.isl.injEq, List.cons.injEq, true_and, and_true, Nat.reduceEqDiff, Nat.reduceAdd, Nat.reduceSub, Nat.reduceMul, Nat.reducePow, Nat.reduceDiv, Nat.reduceMod, Int.reduceToNat, Nat.reduceLeDiff, Nat.reduceLT, Int.reduceEq, Int.reduceLT, Int.reduceLE, Int.reduceGT, Int.reduceGE, Int.reduceNeg, Int.reduceSub, Int.reduceAdd, Int.reduceMul, Int.reducePow, ne_eq, reduceCtorEq, ↓reduceIte]
    symm; rw [beq_eq_false_iff_ne]; intro e; exact h (by rw [e])
  · simp (disch := omega) only [go_sem, ↓if_pos, ne_eq, ↓reduceIte]
    have hlen : xs.length = bs.length := by omega
    refine W_loopC (fun i : Nat => i ≤ xs.length ∧ xs.take i = bs.take i) (fun i => [(0, .isl ex 1 (xs.map V.bool)), (1, .isl ex2 1 (bs.map V.bool)), (5, .int .i64 i)]) (fun _ => σ) (fun i => xs.length - i) 0 ⟨by omega, rfl⟩ (by simp (disch := omega) only [subT, Int.natCast_add, Int.cast_ofNat_Int, go_sem, ↓if_pos, ne_eq, ↓reduceIte] <;> (repeat' apply And.intro) <;> first | rfl | (congr 1; omega) | assumption) rfl ?_
    rintro i ⟨hi, ht⟩ ih
    simp (disch := omega) only [go_sem, ↓if_pos, ne_eq, ↓reduceIte]
    first | refine iteW_dec (fun h2 => ?_) (fun h2 => ?_) | refine iteW_of (fun h2 => ?_) (fun h2 => ?_)
    · simp (disch := omega) only [go_sem, ↓if_pos, ne_eq, ↓reduceIte]
      refine W_drawW ?_
      simp (disch := omega) only [go_sem, ↓if_pos, ne_eq, ↓reduceIte]
      first | refine iteW_dec (fun h3 => ?_) (fun h3 => ?_) | refine iteW_of (fun h3 => ?_) (fun h3 => ?_)
      · simp (disch := omega) only [go_sem, ↓if_pos, ne_eq, ↓reduceIte]
        refine W_retR c108_ok rfl ⟨?_, rfl⟩
        simp only [look, ev, V.bool.injEq, V.int.injEq, V.str.injEq, V.tup.injEq, V.agg.injEq, V.isl.injEq, List.cons.injEq, true_and, and_true, Nat.reduceEqDiff, Nat.reduceAdd, Nat.reduceSub, Nat.reduceMul, Nat.reducePow, Nat.reduceDiv, Nat.reduceMod, Int.reduceToNat, Nat.reduceLeDiff, Nat.reduceLT, Int.reduceEq, Int.reduceLT, Int.reduceLE, Int.reduceGT, Int.reduceGE, Int.reduceNeg, Int.reduceSub, Int.reduceAdd, Int.reduceMul, Int.reducePow, ne_eq, reduceCtorEq, ↓reduceIte]
        symm; rw [beq_eq_false_iff_ne]; intro e; subst e; simp at h3
      · simp (disch := omega) only [go_sem, ↓if_pos, ne_eq, ↓reduceIte]
        refine ih (i + 1) _ _ ⟨by omega, ?_⟩ (by omega) (by simp (disch := omega) only [subT, Int.natCast_add, Int.cast_ofNat_Int, go_sem, ↓if_pos, ne_eq, ↓reduceIte] <;> (repeat' apply And.intro) <;> first | rfl | (congr 1; omega) | assumption) rfl
        rw [take_succ default (by omega), take_succ default (by omega), ht]
        simp at h3; simp [h3]
    · simp (disch := omega) only [go_sem, ↓if_pos, ne_eq, ↓reduceIte]
      refine W_retR c108_ok rfl ⟨?_, rfl⟩
      simp only [look, ev, V.bool.injEq, V.int.injEq, V.str.injEq, V.tup.injEq, V.agg.injEq, V.isl.injEq, List.cons.injEq, true_and, and_true, Nat.reduceEqDiff, Nat.reduceAdd, Nat.reduceSub, Nat.reduceMul, Nat.reducePow, Nat.reduceDiv, Nat.reduceMod, Int.reduceToNat, Nat.reduceLeDiff, Nat.reduceLT, Int.reduceEq, Int.reduceLT, Int.reduceLE, Int.reduceGT, Int.reduceGE, Int.reduceNeg, Int.reduceSub, Int.reduceAdd, Int.reduceMul, Int.reducePow, ne_eq, reduceCtorEq, ↓reduceIte]
      symm; rw [beq_iff_eq]
      rw [List.take_of_length_le (by omega), List.take_of_length_le (by omega)] at ht; exact ht
end
section
variable {Γ : St} {σ σ0 : St}
section
variable {P : Program} {f : FuncId} {n : Nat} {Q : V → St → Prop} {k : List It} {T : Ts}
theorem DRun.mixNR {t : DT} {segs : List DT} (R : Ts → St → Prop) (hr : rdOK t = true) (h : DSW P Γ σ t T emp R) (hk : ∀ T s, R T s → WD P Γ f n Q k segs T (cup s σ)) : DRun P Γ f n Q (t :: segs) k T σ :=
  ⟨emp, σ, disj_emp_left _, (emp_cup _).symm, DS.mono (fun T s hR => (hk T s hR).sound) (DS.of hr h)⟩
end
attribute [local irreducible] SRun DS DRun
end
section
attribute [local irreducible] SRun DS DRun
variable {Γ : St} {σ σ0 : St}
section
variable {P : Program} {f : FuncId} {n : Nat} {Q : V → St → Prop} {k : List It} {T : Ts} {g : GI} {l : List GI}
theorem stepW_iaddr_p0 {ex : Bool} {es : Nat} {x y : V} {kk : IntKind} : stepW P Γ f n Q (.iaddr es (.c (.isl ex es [x, y])) (.c (.int kk 0))) g l k T σ = W P Γ f n Q (.ops l :: k) (putT T g.d (.iptr x.cells)) σ := by simp [stepW_iaddr_isl]
theorem stepW_iaddr_p1 {ex : Bool} {es : Nat} {x y : V} {kk : IntKind} : stepW P Γ f n Q (.iaddr es (.c (.isl ex es [x, y])) (.c (.int kk 1))) g l k T σ = W P Γ f n Q (.ops l :: k) (putT T g.d (.iptr y.cells)) σ := by simp [stepW_iaddr_isl]
theorem stepK_iaddr_p0 {K : V → St → Prop} {ex : Bool} {es : Nat} {x y : V} {kk : IntKind} : stepK (.iaddr es (.c (.isl ex es [x, y])) (.c (.int kk 0))) σ K = K (.iptr x.cells) σ := by simp [stepK_iaddr_isl]
theorem stepK_iaddr_p1 {K : V → St → Prop} {ex : Bool} {es : Nat} {x y : V} {kk : IntKind} : stepK (.iaddr es (.c (.isl ex es [x, y])) (.c (.int kk 1))) σ K = K (.iptr y.cells) σ := by simp [stepK_iaddr_isl]
end
attribute [go_sem] stepW_iaddr_p0 stepW_iaddr_p1 stepK_iaddr_p0 stepK_iaddr_p1
end
section
attribute [local irreducible] SRun DS DRun
variable {Γ : St} {σ σ0 : St}
theorem byte_in (c : UInt8) : 0 ≤ (c.toNat : Int) ∧ (c.toNat : Int) ≤ 255 := by have := c.toNat_lt; omega
theorem at_ok {ex : Bool} {code : List UInt8} {i n : Int} (hl : code.length ≤ 140737488355328) (hi : 0 ≤ i ∧ i ≤ 1000000) (hn : 2 ≤ n ∧ n ≤ 1000000) : ACalls Try.prog Γ 12 [codeV ex code, .int .i64 i, .int .i64 n] σ fun r σ' => ∃ v : Int, 0 ≤ v ∧ v < n ∧ r = .int .i64 v ∧ σ' = σ := by
  have hlen : (code.map fun c => V.int .u8 (c.toNat : Int)).length = code.length := by simp
  refine acalls_W c12_ok rfl ?_
  simp (disch := omega) only [c12, codeV, go_sem, ↓if_pos, ne_eq, ↓reduceIte]
  first | refine iteW_dec (fun h0 => ?_) (fun h0 => ?_) | refine iteW_of (fun h0 => ?_) (fun h0 => ?_)
  · have hz : 0 ≤ i * 7 := by omega
    simp (disch := omega) only [go_sem, ↓if_pos, ne_eq, ↓reduceIte]
    exact W_retR c12_ok rfl ⟨(i * 7).tmod n, Int.tmod_nonneg _ hz, Int.tmod_lt_of_pos _ (by omega), rfl, rfl⟩
  · have hp : 0 < (code.length : Int) := by omega
    have m1 := tmod_in (a := i) (n := code.length) hi.1 hp
    have m2 := tmod_in (a := i + 1) (n := code.length) (by omega) hp
    have d1 : 0 ≤ i.tdiv code.length ∧ i.tdiv code.length ≤ 1000000 := by
      rw [Int.tdiv_eq_ediv_of_nonneg hi.1]
      exact ⟨Int.ediv_nonneg hi.1 (by omega), Int.le_trans (Int.ediv_le_self _ hi.1) hi.2⟩
    simp (disch := omega) only [go_sem, ↓if_pos, ne_eq, ↓reduceIte]
    refine W_drawW ?_
    have b1 := byte_in (code.getD (i.tmod code.length).toNat default)
    have b2 := byte_in (code.getD ((i + 1).tmod code.length).toNat default)
    simp (disch := omega) only [go_sem, ↓if_pos, ne_eq, ↓reduceIte]
    exact W_retR c12_ok rfl ⟨_, Int.tmod_nonneg _ (by omega), Int.tmod_lt_of_pos _ (by omega), rfl, rfl⟩
end
section
variable {Γ : St} {σ σ0 : St}
section
variable {P : Program} {f : FuncId} {n : Nat} {Q : V → St → Prop} {k : List It} {T : Ts}
theorem DRun.mixNQ {t : DT} {segs : List DT} (R : Ts → St → Prop) (hr : rdOK t = true) (h : DSW P Γ σ t T emp R) (hk : ∀ T s, R T s → WD P Γ f n Q k segs T (cup s σ)) : DRun P Γ f n Q (t :: segs) k T σ :=
  ⟨emp, σ, disj_emp_left _, (emp_cup _).symm, DS.mono (fun T s hR => (hk T s hR).sound) (DS.of hr h)⟩
end
attribute [local irreducible] SRun DS DRun
theorem WrF.store {P : Program} {T : Ts} {d : Option Nat} {n : Nat} {ad y : Opd} {b off : Nat} {cs : List V} (ha : ev Γ T ad = .ptr b off) (hb : σ b = some cs) (hn : (ev Γ T y).cells.length = n) (h1 : ∀ c ∈ (ev Γ T y).cells, c.one = true) (h4 : off + n ≤ cs.length) :
    WrF P Γ σ T ⟨d, none, .store n ad y⟩ fun r s => r = .undef ∧ s = upd σ b (sets cs off (ev Γ T y).cells) :=
  WrF.of fun T' hT => by
    have e1 := hT ad (by simp [I.opds])
    have e2 := hT y (by simp [I.opds])
    exact InsOK.store (by rw [e1]; exact ha) hb (by rw [e2]; exact hn) (by rw [e2]; exact h1) h4 ⟨rfl, by rw [e2]⟩
end
end Go.Proofs.Ytabelcohkpmpnaa.Lg
