/- Routes that settle, and the law FnSettles over its code. -/
import Derived.Test.YtabelcohkpmpnaaWy
set_option linter.unusedSimpArgs false
set_option linter.unusedVariables false
namespace Go.Proofs.Ytabelcohkpmpnaa.Lg
open Go
attribute [local irreducible] SRun DS DRun
variable {Γ : St} {σ σ0 : St}
theorem repeatRt_ok {n : Nat} (hn : 1 ≤ n ∧ n ≤ 4) {ex : Bool} {x : Rt} : Ret Try.prog Γ 66 [.isl ex 4 [.agg (rtC x)], .int .i64 n] σ (.isl false 4 (rtsV (List.replicate n x))) σ :=
  ACalls.conv (repeatRt_own hn) fun q s ho => ⟨_, σ, ho.conv, rfl, rfl⟩
theorem settle_step {n : Net} {env : List Int} {down : List Bool} {m i : Nat} {rs : List Rt} (h : i < m) : settleP n env down (m - i) rs = if bestsP n env down rs = rs then rs else settleP n env down (m - (i + 1)) (bestsP n env down rs) := by
  rw [show m - i = (m - (i + 1)) + 1 by omega]; rfl
set_option maxHeartbeats 1000000 in
theorem Settle_ok {n : Net} {ex ex2 : Bool} {env : List Int} {down : List Bool} {m : Nat} (hN : NetLen n) (hB : netB n = true) (hE : envB n env down = true) (hm : m ≤ 100) :
    Ret Try.prog Γ 17 [netV n, .isl ex 1 (ints env), .isl ex2 1 (bools down), .int .i64 m] σ (settleA n env down m) σ := by
  have hR := netR_of hB
  have hdo := net_do hB
  have r1 := hR.r1
  have r4 := hR.r4
  have l6 := hR.l6
  have x2 := hR.x2
  have hlen : (netC n).take 6 = netC n := rfl
  have hlen2 : (netC n).length = 6 := rfl
  have e0 : (netC n)[0]? = some (.isl false 1 (strsV n.routers)) := rfl
  have hE2 := hE
  simp only [envB, Bool.and_eq_true, decide_eq_true_eq] at hE2
  obtain ⟨⟨q1, q2⟩, q3⟩ := hE2
  have hc : envCode n env down = 0 := by
    unfold envCode
    rw [if_neg (by omega), if_neg (by rw [hB]; simp), if_pos hE]
  have hEv := fun Γ σ => routesCode_ok (Γ := Γ) (σ := σ) (ex := ex) (ex2 := ex2) (env := env) (down := down) hN (by omega) (by omega)
  rw [hc] at hEv
  have hA : settleA n env down m = if stableB n env down (settleP n env down m (List.replicate n.routers.length noRt)) then .tup [.isl false 4 (rtsV (settleP n env down m (List.replicate n.routers.length noRt))), .int .i64 0] else .tup [.isl false 4 [], .int .i64 8] := rfl
  have hnr : [V.int .i64 (-3), .int .i64 0, .int .i64 0, .bool false] = rtC noRt := rfl
  refine ret_of c17_ok rfl ?_
  simp (disch := omega) only [c17, netV, go_sem, ↓if_pos, ne_eq, ↓reduceIte]
  refine SRun.boxR (net_one n) ?_
  intro b4 hb4
  have g4 := upd_same σ b4 (netC n)
  have hσ : ∀ d x, σ d = some x → upd σ b4 (netC n) d = some x := le_upd hb4
  simp (disch := omega) only [go_sem, ↓if_pos, ne_eq, ↓reduceIte]
  generalize upd σ b4 (netC n) = s1 at *
  simp (disch := omega) only [g4, hlen, hlen2, go_sem, ↓if_pos, ne_eq, ↓reduceIte]
  refine SRun.callR (hEv _ _) ⟨[], rfl, rfl⟩ rfl ?_
  simp (disch := omega) only [go_sem, ↓if_pos, ne_eq, ↓reduceIte]
  refine SRun.callR (within_ok (m : Nat) 0 100) ⟨[], rfl, rfl⟩ rfl ?_
  rw [decide_eq_true (by omega : (0 : Int) ≤ (m : Nat)), decide_eq_true (by omega : ((m : Nat) : Int) ≤ 100)]
  simp (disch := omega) only [Bool.and_self, g4, e0, go_sem, ↓if_pos, ne_eq, ↓reduceIte]
  rw [hnr]
  refine SRun.callR (repeatRt_ok (n := n.routers.length) ⟨r1, r4⟩ (ex := true) (x := noRt)) ⟨[], rfl, rfl⟩ rfl ?_
  simp (disch := omega) only [go_sem, ↓if_pos, ne_eq, ↓reduceIte]
  refine W_loopC (α := Nat × List Rt) (fun p => p.1 ≤ m ∧ SetW n down (2 + 100 * (p.1 : Nat)) p.2 ∧ settleP n env down m (List.replicate n.routers.length noRt) = settleP n env down (m - p.1) p.2) (fun p => [(1, .isl ex 1 (ints env)), (2, .isl ex2 1 (bools down)), (4, .ptr b4 0), (11, .isl false 4 (rtsV p.2)), (29, .int .i64 m), (30, .int .i64 (p.1 : Nat))]) (fun _ => s1) (fun p => m - p.1) (0, List.replicate n.routers.length noRt) ⟨by simp, by simpa using start_w down, rfl⟩ (by simp (disch := omega) only [subT, Int.natCast_add, Int.cast_ofNat_Int, go_sem, ↓if_pos, ne_eq, ↓reduceIte] <;> (repeat' apply And.intro) <;> first | rfl | (congr 1; omega) | assumption) rfl ?_
  rintro ⟨i, rs⟩ ⟨hi, hw, he⟩ ih
  dsimp only at hi hw he
  have hrw := hw.w hR (by omega)
  have hrl := hw.len
  have hbl : (bestsP n env down rs).length ≤ 1000000000 := by unfold bestsP; simp; omega
  by_cases h1 : i < m
  case' pos =>
    have d1 : decide ((i : Int) < m) = true := decide_eq_true (by omega)
    rw [settle_step h1] at he
    simp (disch := omega) only [d1, g4, hlen, hlen2, go_sem, ↓if_pos, ne_eq, ↓reduceIte]
    refine SRun.callR (bestRoutes_ok hR hdo hN.origins q1 q3 q2 hrl hrw) ⟨[], rfl, rfl⟩ rfl ?_
    simp (disch := omega) only [go_sem, ↓if_pos, ne_eq, ↓reduceIte]
    refine SRun.callR (equalRt_ok (ex := false) (ex2 := false) (xs := bestsP n env down rs) (ys := rs) hbl) ⟨[], rfl, rfl⟩ rfl ?_
    by_cases h2 : bestsP n env down rs = rs
    case' neg =>
      have d2 : decide (bestsP n env down rs = rs) = false := decide_eq_false h2
      rw [if_neg h2] at he
      simp (disch := omega) only [d2, go_sem, ↓if_pos, ne_eq, ↓reduceIte]
      have hw2 := bests_w (env := env) hR hw (by omega)
      exact ih (i + 1, bestsP n env down rs) _ _ ⟨by simp only; omega, by simp only; rw [show (2 : Int) + 100 * ((i + 1 : Nat) : Int) = 2 + 100 * (i : Nat) + 100 by omega]; exact hw2, he⟩ (by simp only; omega) (by simp (disch := omega) only [subT, Int.natCast_add, Int.cast_ofNat_Int, go_sem, ↓if_pos, ne_eq, ↓reduceIte] <;> (repeat' apply And.intro) <;> first | rfl | (congr 1; omega) | assumption) rfl
    have d2 : decide (bestsP n env down rs = rs) = true := decide_eq_true h2
    rw [if_pos h2] at he
    simp (disch := omega) only [d2, g4, hlen, hlen2, go_sem, ↓if_pos, ne_eq, ↓reduceIte]
  case' neg =>
    have d1 : decide ((i : Int) < m) = false := decide_eq_false (by omega)
    rw [show m - i = 0 by omega, settleP] at he
    simp (disch := omega) only [d1, g4, hlen, hlen2, go_sem, ↓if_pos, ne_eq, ↓reduceIte]
  all_goals
    refine SRun.callR (isStable_ok hR hdo hN.origins q1 q3 q2 hrl hrw) ⟨[], rfl, rfl⟩ rfl ?_
    rw [he] at hA
    cases h3 : stableB n env down rs with
    | true =>
      rw [h3, if_pos rfl] at hA
      rw [hA]
      simp (disch := omega) only [go_sem, ↓if_pos, ne_eq, ↓reduceIte]
      exact W_retC c17_ok rfl (Conv.drop _ hσ) ⟨rfl, rfl⟩
    | false =>
      rw [h3, if_neg (by simp)] at hA
      rw [hA]
      simp (disch := omega) only [go_sem, ↓if_pos, ne_eq, ↓reduceIte]
      exact W_retC c17_ok (r := .tup [.isl true 0 [], .int .i64 8]) (r' := .tup [.isl false 4 [], .int .i64 8]) (σ' := σ) rfl ⟨hσ, frz_tup (by exact ⟨.isl0 _ _ _ _ (fun h => by cases h), .refl _, trivial⟩)⟩ ⟨rfl, rfl⟩
theorem sameRoutes_ok {ex ex2 : Bool} {xs ys : List Rt} (hl : xs.length ≤ 1000000000) : Ret Try.prog Γ 19 [.isl ex 4 (rtsV xs), .isl ex2 4 (rtsV ys)] σ (.bool (decide (xs = ys))) σ := by
  refine ret_of c19_ok rfl ?_
  simp (disch := omega) only [c19, go_sem, ↓if_pos, ne_eq, ↓reduceIte]
  by_cases c1 : xs.length = ys.length
  case' neg =>
    have d1 : (decide ¬ (xs.length : Int) = ys.length) = true := decide_eq_true (by omega)
    rw [decide_eq_false (fun e => c1 (by rw [e]))]
    simp (disch := omega) only [d1, go_sem, ↓if_pos, ne_eq, ↓reduceIte]
    exact W_retR c19_ok rfl ⟨rfl, rfl⟩
  have d1 : (decide ¬ (xs.length : Int) = ys.length) = false := decide_eq_false (by omega)
  simp (disch := omega) only [d1, go_sem, ↓if_pos, ne_eq, ↓reduceIte]
  refine W_loopC (α := Nat) (fun i => i ≤ xs.length ∧ ∀ j, j < i → xs.getD j default = ys.getD j default) (fun i => [(0, .isl ex 4 (rtsV xs)), (1, .isl ex2 4 (rtsV ys)), (5, .int .i64 (i : Nat))]) (fun _ => σ) (fun i => xs.length - i) 0 ⟨by omega, fun j hj => by omega⟩ (by simp (disch := omega) only [subT, Int.natCast_add, Int.cast_ofNat_Int, go_sem, ↓if_pos, ne_eq, ↓reduceIte] <;> (repeat' apply And.intro) <;> first | rfl | (congr 1; omega) | assumption) rfl ?_
  rintro i ⟨hi, hall⟩ ih
  have hrt4 : ∀ r : Rt, (rtC r).take 4 = rtC r := fun _ => rfl
  have hrt5 : ∀ r : Rt, (rtC r).length = 4 := fun _ => rfl
  simp (disch := omega) only [go_sem, ↓if_pos, ne_eq, ↓reduceIte]
  first | refine iteW_dec (fun h1 => ?_) (fun h1 => ?_) | refine iteW_of (fun h1 => ?_) (fun h1 => ?_)
  · simp (disch := omega) only [go_sem, ↓if_pos, ne_eq, ↓reduceIte]
    refine W_drawW ?_
    simp (disch := omega) only [hrt4, hrt5, stepK_eqaR, bne_t, go_sem, ↓if_pos, ne_eq, ↓reduceIte]
    first | refine iteW_dec (fun c2 => ?_) (fun c2 => ?_) | refine iteW_of (fun c2 => ?_) (fun c2 => ?_)
    · rw [decide_eq_false (fun e => c2 (by rw [e]))]
      simp (disch := omega) only [go_sem, ↓if_pos, ne_eq, ↓reduceIte]
      exact W_retR c19_ok rfl ⟨rfl, rfl⟩
    · simp (disch := omega) only [go_sem, ↓if_pos, ne_eq, ↓reduceIte]
      refine ih (i + 1) _ _ ⟨by omega, fun j hj => ?_⟩ (by omega) (by simp (disch := omega) only [subT, Int.natCast_add, Int.cast_ofNat_Int, go_sem, ↓if_pos, ne_eq, ↓reduceIte] <;> (repeat' apply And.intro) <;> first | rfl | (congr 1; omega) | assumption) rfl
      by_cases e : j = i
      · subst e; exact Decidable.not_not.1 c2
      · exact hall j (by omega)
  · have hil : i = xs.length := by omega
    subst hil
    have he : xs = ys := List.ext_getElem c1 fun j h1 h2 => by
      have := hall j h1
      simpa [List.getD, h1, h2] using this
    rw [decide_eq_true he]
    simp (disch := omega) only [go_sem, ↓if_pos, ne_eq, ↓reduceIte]
    exact W_retR c19_ok rfl ⟨rfl, rfl⟩
end Go.Proofs.Ytabelcohkpmpnaa.Lg
