/- The law FnSettles over its code. -/
import Derived.Test.YtabelcohkpmpnaaYa
set_option linter.unusedSimpArgs false
set_option linter.unusedVariables false
namespace Go.Proofs.Ytabelcohkpmpnaa.Lg
open Go
attribute [local irreducible] SRun DS DRun
variable {Γ : St} {σ σ0 : St}
theorem statesP_len {n : Net} {env : List Int} {down : List Bool} (hn : NetR n) : (statesP n env down).length ≤ 1296 := by
  have h1 := List.length_filterMap_le (stateO n env down) (choiceP n env down)
  have h2 := choS_bound (env := env) (down := down) hn (m := n.routers.length) hn.r4
  have h3 : choS n env down n.routers.length = choiceP n env down := rfl
  rw [h3] at h2
  unfold statesP; omega
theorem settleP_len {n : Net} {env : List Int} {down : List Bool} : ∀ (m : Nat) (rs : List Rt), rs.length = n.routers.length → (settleP n env down m rs).length = n.routers.length := by
  intro m
  induction m with
  | zero => intro rs h; exact h
  | succ k ih =>
    intro rs h
    rw [settleP]
    split
    · exact h
    · exact ih _ (by simp [bestsP])
set_option maxHeartbeats 1000000 in
theorem fnSettles_ok {ex ex2 : Bool} {code more : List UInt8} (hl1 : code.length ≤ 140737488355328) (hl2 : more.length ≤ 140737488355328) : Ret Try.prog Γ 4 [codeV ex code, codeV ex2 more] σ (.bool true) σ := by
  refine ret_of c4_ok rfl ?_
  simp (disch := omega) only [c4, codeV, go_sem, ↓if_pos, ne_eq, ↓reduceIte]
  first | refine guardW_dec (fun h => ?_) (fun h => ?_) | refine guardW_by (fun h => ?_) (fun h => ?_)
  · simp (disch := omega) only [go_sem, ↓if_pos, ne_eq, ↓reduceIte]
    refine W_retR c4_ok rfl ⟨?_, rfl⟩
    simp only [look, ev, V.bool.injEq, V.int.injEq, V.str.injEq, V.tup.injEq, V.agg.injEq, V.isl.injEq, List.cons.injEq, true_and, and_true, Nat.reduceEqDiff, Nat.reduceAdd, Nat.reduceSub, Nat.reduceMul, Nat.reducePow, Nat.reduceDiv, Nat.reduceMod, Int.reduceToNat, Nat.reduceLeDiff, Nat.reduceLT, Int.reduceEq, Int.reduceLT, Int.reduceLE, Int.reduceGT, Int.reduceGE, Int.reduceNeg, Int.reduceSub, Int.reduceAdd, Int.reduceMul, Int.reducePow, ne_eq, reduceCtorEq, ↓reduceIte]
  simp (disch := omega) only [go_sem, ↓if_pos, ne_eq, ↓reduceIte]
  first | refine iteW_dec (fun h2 => ?_) (fun h2 => ?_) | refine iteW_of (fun h2 => ?_) (fun h2 => ?_)
  · simp (disch := omega) only [go_sem, ↓if_pos, ne_eq, ↓reduceIte]
    refine W_retR c4_ok rfl ⟨?_, rfl⟩
    simp only [look, ev, V.bool.injEq, V.int.injEq, V.str.injEq, V.tup.injEq, V.agg.injEq, V.isl.injEq, List.cons.injEq, true_and, and_true, Nat.reduceEqDiff, Nat.reduceAdd, Nat.reduceSub, Nat.reduceMul, Nat.reducePow, Nat.reduceDiv, Nat.reduceMod, Int.reduceToNat, Nat.reduceLeDiff, Nat.reduceLT, Int.reduceEq, Int.reduceLT, Int.reduceLE, Int.reduceGT, Int.reduceGE, Int.reduceNeg, Int.reduceSub, Int.reduceAdd, Int.reduceMul, Int.reducePow, ne_eq, reduceCtorEq, ↓reduceIte]
  simp (disch := omega) only [go_sem, ↓if_pos, ne_eq, ↓reduceIte]
  refine SRun.callQ (NetOf_ok (ex := ex) (code := code) hl1) ⟨[], rfl, rfl⟩ rfl ?_
  rintro r s ⟨n, hB, hN, hos, rfl, hs⟩
  obtain rfl := hs.symm
  have hR := netR_of hB
  have r1 := hR.r1
  have r4 := hR.r4
  have l6 := hR.l6
  have hlen : (netC n).take 6 = netC n := rfl
  have hlen2 : (netC n).length = 6 := rfl
  have hone : (∀ c, c ∈ netC n → c.one = true) = True := eq_true (net_one n)
  have hsets : sets [V.isl true 0 [], V.isl true 0 [], V.isl true 0 [], V.isl true 0 [], V.isl true 0 [], V.isl true 0 []] 0 (netC n) = netC n := rfl
  have hnc : netV n = .agg (netC n) := rfl
  rw [hnc]
  simp (disch := omega) only [go_sem, ↓if_pos, ne_eq, ↓reduceIte]
  refine SRun.allocR ?_
  intro b5 hb5
  simp (disch := omega) only [hlen2, hone, hsets, go_sem, ↓if_pos, ne_eq, ↓reduceIte]
  have g5 := upd_same σ b5 (netC n)
  have hσ : ∀ d x, σ d = some x → upd σ b5 (netC n) d = some x := le_upd hb5
  generalize upd σ b5 (netC n) = s1 at *
  simp (disch := omega) only [g5, hlen, hlen2, go_sem, ↓if_pos, ne_eq, ↓reduceIte]
  refine SRun.callQ (EnvOf_ok (ex := ex2) (code := more) hl2 hR) ⟨[], rfl, rfl⟩ rfl ?_
  rintro r s ⟨env, he1, he2, rfl, hs⟩
  obtain rfl := hs.symm
  simp (disch := omega) only [g5, hlen, hlen2, go_sem, ↓if_pos, ne_eq, ↓reduceIte]
  refine SRun.callQ (DownOf_ok (ex := ex2) (code := more) hl2 hR) ⟨[], rfl, rfl⟩ rfl ?_
  rintro r s ⟨down, hd1, rfl, hs⟩
  obtain rfl := hs.symm
  have hE : envB n env down = true := by unfold envB; rw [decide_eq_true he1, decide_eq_true hd1, he2]; rfl
  have S1 := fun Γ σ => Settle_ok (Γ := Γ) (σ := σ) (n := n) (ex := false) (ex2 := false) (m := 30) hN hB hE (by omega)
  have S2 := fun Γ σ => Settles_ok (Γ := Γ) (σ := σ) (n := n) (ex := false) (ex2 := false) (m := 30) hN hB hE (by omega)
  have hA : settleA n env down 30 = if stableB n env down (settleP n env down 30 (List.replicate n.routers.length noRt)) then .tup [.isl false 4 (rtsV (settleP n env down 30 (List.replicate n.routers.length noRt))), .int .i64 0] else .tup [.isl false 4 [], .int .i64 8] := rfl
  have hPl := settleP_len (n := n) (env := env) (down := down) 30 (List.replicate n.routers.length noRt) (by simp)
  generalize settleP n env down 30 (List.replicate n.routers.length noRt) = rs at *
  have hne : ∀ k : Int, (decide ¬ k = k) = false := fun k => by simp
  simp (disch := omega) only [g5, hlen, hlen2, go_sem, ↓if_pos, ne_eq, ↓reduceIte]
  refine SRun.callR (S1 _ _) ⟨[], rfl, rfl⟩ rfl ?_
  cases h3 : stableB n env down rs with
  | false =>
    rw [h3, if_neg (by simp)] at hA
    rw [hA] at S2 ⊢
    simp (disch := omega) only [g5, hlen, hlen2, go_sem, ↓if_pos, ne_eq, ↓reduceIte]
    refine SRun.callR (S2 _ _) ⟨[], rfl, rfl⟩ rfl ?_
    have hE0 : V.isl false 4 [] = .isl false 4 (rtsV []) := rfl
    rw [hE0]
    simp (disch := omega) only [go_sem, ↓if_pos, ne_eq, ↓reduceIte]
    refine SRun.callR (sameRoutes_ok (ex := false) (ex2 := false) (xs := []) (ys := []) (by simp)) ⟨[], rfl, rfl⟩ rfl ?_
    simp (disch := omega) only [go_sem, ↓if_pos, ne_eq, ↓reduceIte]
    exact W_retC c4_ok rfl (Conv.drop _ hσ) ⟨rfl, rfl⟩
  | true =>
    rw [h3, if_pos rfl] at hA
    rw [hA] at S2 ⊢
    simp (disch := omega) only [g5, hlen, hlen2, go_sem, ↓if_pos, ne_eq, ↓reduceIte]
    refine SRun.callR (S2 _ _) ⟨[], rfl, rfl⟩ rfl ?_
    simp (disch := omega) only [go_sem, ↓if_pos, ne_eq, ↓reduceIte]
    refine SRun.callR (sameRoutes_ok (ex := false) (ex2 := false) (xs := rs) (ys := rs) (by omega)) ⟨[], rfl, rfl⟩ rfl ?_
    rw [decide_eq_true (rfl : rs = rs)]
    simp (disch := omega) only [g5, hlen, hlen2, go_sem, ↓if_pos, ne_eq, ↓reduceIte]
    refine SRun.callR (StableStatess_ok (ex := false) (ex2 := false) hN hB hE) ⟨[], rfl, rfl⟩ rfl ?_
    have hsl := statesP_len (env := env) (down := down) hR
    have hsf := fun rs (h : rs ∈ statesP n env down) => statesP_fine hR h
    have hm := (still_of hPl h3).mem h3
    generalize statesP n env down = ss at *
    simp (disch := omega) only [go_sem, ↓if_pos, ne_eq, ↓reduceIte]
    refine W_loopC (α := Nat) (fun i => i ≤ ss.length ∧ ∀ j, j < i → ss.getD j [] ≠ rs) (fun i => [(8, .isl false 4 (rtsV rs)), (12, .isl false 1 (staV ss)), (14, .int .i64 (i : Nat))]) (fun _ => s1) (fun i => ss.length - i) 0 ⟨by simp, fun j hj => by omega⟩ (by simp (disch := omega) only [subT, Int.natCast_add, Int.cast_ofNat_Int, go_sem, ↓if_pos, ne_eq, ↓reduceIte] <;> (repeat' apply And.intro) <;> first | rfl | (congr 1; omega) | assumption) rfl ?_
    rintro i ⟨hi, hall⟩ ih
    simp (disch := omega) only [go_sem, ↓if_pos, ne_eq, ↓reduceIte]
    first | refine iteW_dec (fun h4 => ?_) (fun h4 => ?_) | refine iteW_of (fun h4 => ?_) (fun h4 => ?_)
    · have hst := hsf _ (getD_mem [] (by omega : i < ss.length))
      have hln := hst.len
      simp (disch := omega) only [go_sem, ↓if_pos, ne_eq, ↓reduceIte]
      refine SRun.callR (sameRoutes_ok (ex := false) (ex2 := false) (xs := ss.getD i []) (ys := rs) (by omega)) ⟨[], rfl, rfl⟩ rfl ?_
      by_cases h5 : ss.getD i [] = rs
      · rw [decide_eq_true h5]
        simp (disch := omega) only [go_sem, ↓if_pos, ne_eq, ↓reduceIte]
        exact W_retC c4_ok rfl (Conv.drop _ hσ) ⟨rfl, rfl⟩
      · rw [decide_eq_false h5]
        simp (disch := omega) only [go_sem, ↓if_pos, ne_eq, ↓reduceIte]
        refine ih (i + 1) _ _ ⟨by omega, fun j hj => ?_⟩ (by omega) (by simp (disch := omega) only [subT, Int.natCast_add, Int.cast_ofNat_Int, go_sem, ↓if_pos, ne_eq, ↓reduceIte] <;> (repeat' apply And.intro) <;> first | rfl | (congr 1; omega) | assumption) rfl
        by_cases e : j = i
        · subst e; exact h5
        · exact hall j (by omega)
    · obtain ⟨j, hj, hje⟩ := List.getElem_of_mem hm
      exact absurd (by simp [List.getD, hj, hje]) (hall j (by omega))
end Go.Proofs.Ytabelcohkpmpnaa.Lg
