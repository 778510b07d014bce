/- The program's literals in order. -/
import Derived.Test.YtlojopaebdnacaaMg
import Derived.Test.YtlojopaebdnacaaOe
set_option linter.unusedSimpArgs false
set_option linter.unusedVariables false
namespace Go.Proofs.Ytlojopaebdnacaa.Lg
open Go
attribute [local irreducible] SRun DS DRun
variable {Γ : St} {σ σ0 : St}
theorem compact0_ok {ex : Bool} {es : Nat} : Ret Try.prog Γ 110 [.isl ex es []] σ (.isl ex es []) σ := by
  refine ret_of c110_ok rfl ?_
  simp (disch := omega) only [c110, go_sem]
  refine W_retR c110_ok rfl ⟨?_, rfl⟩
  rfl
theorem cmpTo_one (xs : List Int) (h : xs.length ≤ 1) : cmpTo xs xs.length = xs := by
  match xs, h with
  | [], _ => rfl
  | [a], _ => rfl
set_option maxHeartbeats 1000000 in
theorem compactM_ok {xs : List Int} {b cap : Nat} (hb : σ0 b = none) (hcap : xs.length ≤ cap) (hl : xs.length ≤ 1000000) :
    Ret Try.prog Γ 110 [.msl b 1 0 xs.length cap] (upd σ0 b (ints xs)) (intsV (cmpTo xs xs.length)) σ0 := by
  have hil : (ints xs).length = xs.length := ints_len _
  have hfr : ∀ (m : Nat) (cs : List V) (ys : List Int), m ≤ cs.length → cs.take m = ints ys → m = ys.length → ∀ r, r = .msl b 1 0 m cap → Conv (upd σ0 b cs) r σ0 (intsV ys) := by
    rintro m cs ys h1 h2 h3 r rfl
    exact ⟨le_upd hb, Frz.row (upd_same _ _ _) hb h2 (by rw [ints_len]; exact h3.symm) (ints_one _)⟩
  refine ret_of c110_ok rfl ?_
  simp (disch := omega) only [c110, go_sem]
  by_cases c1 : xs.length ≤ 1
  case' pos =>
    have d1 : decide ((xs.length : Int) < 2) = true := decide_eq_true (by omega)
    simp (disch := omega) only [d1, go_sem]
    rw [cmpTo_one xs c1]
    exact W_retC c110_ok rfl (hfr xs.length _ xs (by omega) (List.take_of_length_le (by omega)) rfl _ rfl) ⟨rfl, rfl⟩
  have d1 : decide ((xs.length : Int) < 2) = false := decide_eq_false (by omega)
  simp (disch := omega) only [d1, go_sem]
  refine W_loopC (α := Nat) (fun k => 1 ≤ k ∧ k ≤ xs.length ∧ cmpTo xs k = xs.take k) (fun k => [(0, .msl b 1 0 xs.length cap), (3, .int .i64 (k : Nat))]) (fun _ => upd σ0 b (ints xs)) (fun k => xs.length - k) 1 ⟨Nat.le_refl _, by omega, by
    rw [take_succ 0 (by omega)]; rfl⟩ (by simp (disch := omega) only [subT, Int.natCast_add, Int.cast_ofNat_Int, go_sem] <;> (repeat' apply And.intro) <;> first | rfl | (congr 1; omega) | assumption) rfl ?_
  rintro k ⟨hk1, hk, hck⟩ ih
  have gx := upd_same σ0 b (ints xs)
  simp (disch := omega) only [go_sem]
  first | refine iteW_dec (fun h1 => ?_) (fun h1 => ?_) | refine iteW_of (fun h1 => ?_) (fun h1 => ?_)
  · have hj1 : ((k : Int) - 1).toNat = k - 1 := by omega
    have e1 : (ints xs)[k]? = some (.int .i64 (xs.getD k 0)) := ints_get (getD_some 0 (by omega))
    have e2 : (ints xs)[k - 1]? = some (.int .i64 (xs.getD (k - 1) 0)) := ints_get (getD_some 0 (by omega))
    have hcs : cmpTo xs (k + 1) = if 0 < k ∧ xs.getD k 0 = xs.getD (k - 1) 0 then cmpTo xs k else cmpTo xs k ++ [xs.getD k 0] := rfl
    simp (disch := omega) only [go_sem]
    refine W_drawW ?_
    simp (disch := omega) only [gx, e1, e2, hj1, go_sem]
    first | refine iteW_dec (fun h2 => ?_) (fun h2 => ?_) | refine iteW_of (fun h2 => ?_) (fun h2 => ?_)
    · have hne : ¬ ((cap : Int) = k) := by omega
      have hto : ((xs.length : Int) - k).toNat = xs.length - k := by omega
      rw [if_pos ⟨by omega, h2⟩] at hcs
      simp (disch := omega) only [hne, hto, go_sem]
      have hL1 : (cmpTo xs (k + 1)).length = k := by rw [hcs, hck, List.length_take]; omega
      refine W_loopC (α := Nat × List V) (fun q => 1 ≤ q.1 ∧ k + q.1 ≤ xs.length ∧ q.2.length = xs.length ∧ q.2.take (cmpTo xs (k + q.1)).length = ints (cmpTo xs (k + q.1)) ∧ (cmpTo xs (k + q.1)).length + 1 ≤ k + q.1 ∧ ∀ p, k + q.1 ≤ p + 1 → p < xs.length → q.2[p]? = some (.int .i64 (xs.getD p 0))) (fun q => [(0, .msl b 1 0 xs.length cap), (3, .int .i64 ((cmpTo xs (k + q.1)).length : Nat)), (4, .msl b 1 k (xs.length - k) (((cap : Int) - k).toNat)), (5, .int .i64 (q.1 : Nat))]) (fun q => upd σ0 b q.2) (fun q => xs.length - k - q.1) (1, ints xs) ⟨Nat.le_refl _, by simp only; omega, hil, ?_, by simp only [hL1]; omega, fun p _ hp => ints_get (getD_some 0 hp)⟩ ?_ rfl ?_
      · simp only [hL1]
        rw [hcs, hck]; simp [ints, List.map_take]
      · exact (by simp (disch := omega) only [subT, Int.natCast_add, Int.cast_ofNat_Int, hL1, go_sem] <;> (repeat' apply And.intro) <;> first | rfl | (congr 1; omega) | assumption)
      rintro ⟨m, cs⟩ ⟨hm1, hm, hcl, hct, hw, hrd⟩ ih2
      dsimp only at hm1 hm hcl hct hw hrd
      have gc := upd_same σ0 b cs
      simp (disch := omega) only [go_sem]
      first | refine iteW_dec (fun h3 => ?_) (fun h3 => ?_) | refine iteW_of (fun h3 => ?_) (fun h3 => ?_)
      · have hj2 : ((m : Int) - 1).toNat = m - 1 := by omega
        have f1 : cs[k + m]? = some (.int .i64 (xs.getD (k + m) 0)) := hrd _ (by omega) (by omega)
        have f2 : cs[k + (m - 1)]? = some (.int .i64 (xs.getD (k + m - 1) 0)) := by
          have := hrd (k + m - 1) (by omega) (by omega)
          rwa [show k + m - 1 = k + (m - 1) by omega] at this ⊢
        have hcs2 : cmpTo xs (k + (m + 1)) = if 0 < k + m ∧ xs.getD (k + m) 0 = xs.getD (k + m - 1) 0 then cmpTo xs (k + m) else cmpTo xs (k + m) ++ [xs.getD (k + m) 0] := rfl
        simp (disch := omega) only [go_sem]
        refine W_drawW ?_
        simp (disch := omega) only [gc, f1, f2, hj2, go_sem]
        first | refine iteW_dec (fun h4 => ?_) (fun h4 => ?_) | refine iteW_of (fun h4 => ?_) (fun h4 => ?_)
        · rw [if_neg (fun e => h4 e.2)] at hcs2
          simp (disch := omega) only [gc, f1, go_sem]
          have hlt2 : (cmpTo xs (k + m)).length < cs.length := by omega
          refine ih2 (m + 1, cs.set (cmpTo xs (k + m)).length (.int .i64 (xs.getD (k + m) 0))) _ _ ⟨by simp only; omega, by simp only; omega, by simpa using hcl, ?_, ?_, fun p h5 h6 => ?_⟩ (by simp only; omega) (by simp (disch := omega) only [subT, Int.natCast_add, Int.cast_ofNat_Int, hcs2, List.length_append, List.length_singleton, go_sem] <;> (repeat' apply And.intro) <;> first | rfl | (congr 1; omega) | assumption) rfl
          · simp only [hcs2]
            rw [List.length_append, List.length_singleton, List.take_add_one, List.take_set_of_le (Nat.le_refl _), hct]
            simp [hlt2, ints]
          · simp only [hcs2, List.length_append, List.length_singleton]; omega
          · simp only at h5 ⊢
            rw [List.getElem?_set_ne (by omega)]
            exact hrd p (by omega) h6
        · have h4 : xs.getD (k + m) 0 = xs.getD (k + m - 1) 0 := by omega
          rw [if_pos ⟨by omega, h4⟩] at hcs2
          simp (disch := omega) only [go_sem]
          refine ih2 (m + 1, cs) _ _ ⟨by simp only; omega, by simp only; omega, hcl, ?_, ?_, fun p h5 h6 => hrd p (by simp only at h5; omega) h6⟩ (by simp only; omega) (by simp (disch := omega) only [subT, Int.natCast_add, Int.cast_ofNat_Int, hcs2, go_sem] <;> (repeat' apply And.intro) <;> first | rfl | (congr 1; omega) | assumption) rfl
          · simp only [hcs2]; exact hct
          · simp only [hcs2]; omega
      · have hkm : k + m = xs.length := by omega
        rw [hkm] at hct hw
        rw [hkm]
        generalize cmpTo xs xs.length = ys at *
        have hne2 : ¬ ((cap : Int) = ys.length) := by omega
        have hto3 : ((xs.length : Int) - ys.length).toNat = xs.length - ys.length := by omega
        have hto2 : ((ys.length : Int) - 0).toNat = ys.length := by omega
        have hne0 : ¬ ((cap : Int) = 0) := by omega
        simp (disch := omega) only [hne2, hto3, go_sem]
        refine SRun.clearR (cs := cs) (by rfl) (upd_same _ _ _) (by omega) rfl ?_
        simp (disch := omega) only [hto2, go_sem]
        simp (disch := omega) only [hne0, hto2, go_sem]
        refine W_retC c110_ok rfl (hfr ys.length _ ys ?_ ?_ rfl _ rfl) ⟨rfl, rfl⟩
        · simp only [List.length_append, List.length_take]; omega
        · rw [List.append_assoc, List.take_append_of_le_length (by simp; omega), List.take_take, Nat.min_self, hct]
    · rw [if_neg (fun e => h2 e.2), hck] at hcs
      simp (disch := omega) only [go_sem]
      exact ih (k + 1) _ _ ⟨by omega, by omega, by rw [hcs, take_succ 0 (by omega)]⟩ (by omega) (by simp (disch := omega) only [subT, Int.natCast_add, Int.cast_ofNat_Int, go_sem] <;> (repeat' apply And.intro) <;> first | rfl | (congr 1; omega) | assumption) rfl
  · have hkl : k = xs.length := by omega
    subst hkl
    simp (disch := omega) only [go_sem]
    rw [hck, List.take_length]
    exact W_retC c110_ok rfl (hfr xs.length _ xs (by omega) (List.take_of_length_le (by omega)) rfl _ rfl) ⟨rfl, rfl⟩
/-! No literal at all -/
set_option maxRecDepth 100000 in
theorem Len64z_ok : Ret Try.prog Γ 138 [.int .u64 0] σ (.int .i64 0) σ := by
  have w : IntKind.u8.wrap 0 = 0 := rfl
  have w2 : Int.toNat 0 = 0 := rfl
  refine ret_of c138_ok rfl ?_
  simp (disch := omega) only [c138, go_sem]
  rw [w, stepW_idxs_at (Int.le_refl 0) (by decide)]
  simp (disch := omega) only [w2, go_sem]
  exact W_retR c138_ok rfl ⟨rfl, rfl⟩
theorem Lenz_ok : Ret Try.prog Γ 117 [.int .u64 0] σ (.int .i64 0) σ := by
  refine ret_of c117_ok rfl ?_
  simp (disch := omega) only [c117, go_sem]
  refine SRun.callR Len64z_ok ⟨[], rfl, rfl⟩ rfl ?_
  simp (disch := omega) only [go_sem]
  exact W_retR c117_ok rfl ⟨rfl, rfl⟩
theorem insSort0_ok {ex : Bool} {es : Nat} {F : FuncId} {caps : List V} : Ret Try.prog Γ 140 [.isl ex es [], .int .i64 0, .int .i64 0, .fn F caps] σ (.tup []) σ := by
  refine ret_of c140_ok rfl ?_
  simp (disch := omega) only [c140, go_sem]
  refine W_loopC (α := Unit) (fun _ => True) (fun _ => [(2, .int .i64 0), (8, .int .i64 1)]) (fun _ => σ) (fun _ => 0) () trivial (by simp (disch := omega) only [subT, Int.natCast_add, Int.cast_ofNat_Int, go_sem] <;> (repeat' apply And.intro) <;> first | rfl | (congr 1; omega) | assumption) rfl ?_
  intro _ _ _
  simp (disch := omega) only [go_sem]
  exact W_fallR c140_ok rfl ⟨rfl, rfl⟩
theorem pdq0_ok {ex : Bool} {es : Nat} {F : FuncId} {caps : List V} : Ret Try.prog Γ 127 [.isl ex es [], .int .i64 0, .int .i64 0, .int .i64 0, .fn F caps] σ (.tup []) σ := by
  refine ret_of c127_ok rfl ?_
  simp (disch := omega) only [c127, go_sem]
  refine W_loopC (α := Unit) (fun _ => True) (fun _ => [(0, .isl ex es []), (1, .int .i64 0), (2, .int .i64 0), (4, .fn F caps)]) (fun _ => σ) (fun _ => 0) () trivial (by simp (disch := omega) only [subT, Int.natCast_add, Int.cast_ofNat_Int, go_sem] <;> (repeat' apply And.intro) <;> first | rfl | (congr 1; omega) | assumption) rfl ?_
  intro _ _ _
  simp (disch := omega) only [go_sem]
  refine SRun.callR insSort0_ok ⟨[], rfl, rfl⟩ rfl ?_
  simp (disch := omega) only [go_sem]
  exact W_retR c127_ok rfl ⟨rfl, rfl⟩
theorem sort0_ok {ex : Bool} {es : Nat} {F : FuncId} {caps : List V} : Ret Try.prog Γ 108 [.isl ex es [], .fn F caps] σ (.tup []) σ := by
  refine ret_of c108_ok rfl ?_
  simp (disch := omega) only [c108, go_sem]
  refine SRun.callR Lenz_ok ⟨[], rfl, rfl⟩ rfl ?_
  simp (disch := omega) only [go_sem]
  refine SRun.callR pdq0_ok ⟨[], rfl, rfl⟩ rfl ?_
  simp (disch := omega) only [go_sem]
  exact W_fallR c108_ok rfl ⟨rfl, rfl⟩
theorem ordOf_nil : OrdOf [] [] := ⟨List.Pairwise.nil, fun x => Iff.rfl⟩
theorem inOrder_ok {ex : Bool} {c : List Int} (hl : c.length ≤ 1000000) (hx : smallL c) : ACalls Try.prog Γ 71 [.isl ex 1 (ints c)] σ fun r s => ∃ ys, OrdOf c ys ∧ r = intsV ys ∧ s = σ := by
  refine acalls_W c71_ok rfl ?_
  simp (disch := omega) only [c71, go_sem]
  refine SRun.callQ (cloneI_ok (cells := ints c) (.inl ⟨_, _, _, rfl⟩) (src_row (ints_one c)) (by rw [ints_len]; omega)) ⟨[], rfl, rfl⟩ rfl ?_
  intro r s ho
  simp (disch := omega) only [go_sem]
  rcases ho with ⟨hc, hl0, rfl, es', rfl⟩ | ⟨b, cap, hb, rfl, rfl, h4⟩
  · obtain rfl : c = [] := by
      have := congrArg List.length hc; simp [ints] at this; exact this
    refine SRun.callR sort0_ok ⟨[], rfl, rfl⟩ rfl ?_
    simp (disch := omega) only [go_sem]
    refine SRun.callR compact0_ok ⟨[], rfl, rfl⟩ rfl ?_
    simp (disch := omega) only [go_sem]
    exact W_retC c71_ok (r := .isl true es' []) (r' := intsV []) (σ' := _) rfl ⟨fun _ _ h => h, .isl0 _ _ _ _ (fun h => by cases h)⟩ ⟨[], ordOf_nil, rfl, rfl⟩
  · rw [ints_len] at *
    refine SRun.callQ (sortInts_ok (cap := cap) hl hx) ⟨[], rfl, rfl⟩ rfl ?_
    rintro r s ⟨ys, hyl, hym, hyu, rfl⟩
    simp (disch := omega) only [go_sem]
    rw [← hyl]
    refine SRun.callR (compactM_ok (xs := ys) hb (by have := h4.2; omega) (by omega)) ⟨[], rfl, rfl⟩ rfl ?_
    simp (disch := omega) only [go_sem]
    exact W_retR c71_ok rfl ⟨_, ordOf_compact hyu hym, rfl, rfl⟩
end Go.Proofs.Ytlojopaebdnacaa.Lg
/- The program's Resolve. -/
set_option linter.unusedSimpArgs false
set_option linter.unusedVariables false
namespace Go.Proofs.Ytlojopaebdnacaa.Lg
open Go
attribute [local irreducible] SRun DS DRun
variable {Γ : St} {σ σ0 : St}
theorem isTautology1_ok {ys : List Int} {x : Int} {b : Nat} (hb : σ b = some [intsV ys]) (hl : ys.length ≤ 1000000) (hx : -1000000 ≤ x ∧ x ≤ 1000000) : Ret Try.prog Γ 114 [.int .i64 x, .ptr b 0] σ (.bool (ys.contains (-x))) σ := by
  have hneg : (0 : Int) - x = -x := by omega
  refine ret_of c114_ok rfl ?_
  simp (disch := omega) only [c114, hb, intsV, go_sem]
  simp (disch := omega) only [hneg, go_sem]
  refine SRun.callR (containsI_ok (ex := false) (xs := ys) (y := -x) (by omega)) ⟨[], rfl, rfl⟩ rfl ?_
  simp (disch := omega) only [go_sem]
  exact W_retR c114_ok rfl ⟨rfl, rfl⟩
theorem isTautology_ok {ys : List Int} (hl : ys.length ≤ 1000000) (hx : smallL ys) : Ret Try.prog Γ 74 [intsV ys] σ (.bool (tautP ys)) σ := by
  refine ret_of c74_ok rfl ?_
  simp (disch := omega) only [c74, intsV, go_sem]
  refine SRun.boxR (by simp [ev, look, V.cells, V.one]) ?_
  intro b1 hb1
  have g1 := upd_same σ b1 [intsV ys]
  simp (disch := omega) only [go_sem]
  refine SRun.callR (containsFuncI_ok (p := fun v => match v with | .int _ x => ys.contains (-x) | _ => false) (cell_ints ys) (by rw [ints_len]; omega) ?_) ⟨[], rfl, rfl⟩ rfl ?_
  · intro v hv
    simp only [ints, List.mem_map] at hv
    obtain ⟨x, hxm, rfl⟩ := hv
    exact isTautology1_ok g1 hl (hx x hxm)
  simp (disch := omega) only [go_sem]
  refine W_retC c74_ok rfl (Conv.drop _ (le_upd hb1)) ⟨?_, rfl⟩
  simp only [look, ev, V.bool.injEq, V.int.injEq, V.str.injEq, V.tup.injEq, V.agg.injEq, V.isl.injEq, List.cons.injEq, true_and, and_true, any_ints, tautP, Nat.reduceEqDiff, Nat.reduceAdd, Nat.reduceSub, Nat.reduceMul, Nat.reducePow, Nat.reduceDiv, Nat.reduceMod, Int.reduceToNat, Nat.reduceLeDiff, Nat.reduceLT, Int.reduceEq, Int.reduceLT, Int.reduceLE, Int.reduceGT, Int.reduceGE, Int.reduceNeg, Int.reduceSub, Int.reduceAdd, Int.reduceMul, Int.reducePow, ne_eq, reduceCtorEq, ↓reduceIte]
end Go.Proofs.Ytlojopaebdnacaa.Lg
