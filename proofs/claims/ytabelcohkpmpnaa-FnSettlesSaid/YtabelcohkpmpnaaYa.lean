/- Routes that settle, the reference's, and the law FnSettles over its code. -/
import Derived.Test.YtabelcohkpmpnaaWz
set_option linter.unusedSimpArgs false
set_option linter.unusedVariables false
namespace Go.Proofs.Ytabelcohkpmpnaa.Lg
open Go
attribute [local irreducible] SRun DS DRun
variable {Γ : St} {σ σ0 : St}
theorem flat_rts_at (l : List Rt) (i : Nat) (h : i < l.length) : ((flat (rtsV l)).drop (i * 4)).take 4 = rtC (l.getD i default) := by
  rw [flat_rts_drop, drop_cons default h]; rfl
theorem append_eq_take {α : Type} [DecidableEq α] {l r : List α} {i : Nat} (d : α) (h : l.length = i) (hr : i < r.length) (x : α) : decide (l ++ [x] = r.take (i + 1)) = true ↔ decide (l = r.take i) = true ∧ x = r.getD i d := by
  rw [decide_eq_true_eq, decide_eq_true_eq, take_succ d hr]
  constructor
  · intro e
    have := List.append_inj e (by rw [List.length_take]; omega)
    exact ⟨this.1, by simpa using this.2⟩
  · rintro ⟨e1, e2⟩; rw [e1, e2]
set_option maxHeartbeats 1000000 in
theorem Settles_ok {n : Net} {ex ex2 : Bool} {env : List Int} {down : List Bool} {m : Nat} (hN : NetLen n) (hB : netB n = true) (hE : envB n env down = true) (hm : m ≤ 100) :
    Ret Try.prog Γ 18 [netV n, .isl ex 1 (ints env), .isl ex2 1 (bools down), .int .i64 m] σ (settleA n env down m) σ := by
  have hR := netR_of hB
  have r1 := hR.r1
  have r4 := hR.r4
  have l6 := hR.l6
  have x2 := hR.x2
  have hlen : (netC n).take 6 = netC n := rfl
  have hlen2 : (netC n).length = 6 := rfl
  have e0 : (netC n)[0]? = some (.isl false 1 (strsV n.routers)) := rfl
  have hE2 := hE
  simp only [envB, Bool.and_eq_true, decide_eq_true_eq] at hE2
  obtain ⟨⟨q1, q2⟩, q3⟩ := hE2
  have hc : envCode n env down = 0 := by
    unfold envCode
    rw [if_neg (by omega), if_neg (by rw [hB]; simp), if_pos hE]
  have hEv := fun Γ σ => l07Env_ok (Γ := Γ) (σ := σ) (ex := ex) (ex2 := ex2) (env := env) (down := down) hN (by omega) (by omega)
  rw [hc] at hEv
  have hA : settleA n env down m = if stableB n env down (settleP n env down m (List.replicate n.routers.length noRt)) then .tup [.isl false 4 (rtsV (settleP n env down m (List.replicate n.routers.length noRt))), .int .i64 0] else .tup [.isl false 4 [], .int .i64 8] := rfl
  refine ret_of c18_ok rfl ?_
  simp (disch := omega) only [c18, netV, go_sem, ↓if_pos, ne_eq, ↓reduceIte]
  refine SRun.boxR (net_one n) ?_
  intro b4 hb4
  have g4 := upd_same σ b4 (netC n)
  have hσ : ∀ d x, σ d = some x → upd σ b4 (netC n) d = some x := le_upd hb4
  simp (disch := omega) only [go_sem, ↓if_pos, ne_eq, ↓reduceIte]
  generalize upd σ b4 (netC n) = s1 at *
  simp (disch := omega) only [g4, hlen, hlen2, go_sem, ↓if_pos, ne_eq, ↓reduceIte]
  refine SRun.callR (hEv _ _) ⟨[], rfl, rfl⟩ rfl ?_
  simp (disch := omega) only [go_sem, ↓if_pos, ne_eq, ↓reduceIte]
  refine SRun.callR (l01In_ok (m : Nat) 0 100) ⟨[], rfl, rfl⟩ rfl ?_
  rw [decide_eq_true (by omega : (0 : Int) ≤ (m : Nat)), decide_eq_true (by omega : ((m : Nat) : Int) ≤ 100)]
  simp (disch := omega) only [Bool.and_self, go_sem, ↓if_pos, ne_eq, ↓reduceIte]
  refine W_loopC (α := Nat × V × St) (fun p => p.1 ≤ n.routers.length ∧ OwnL s1 4 (rtsV (List.replicate p.1 noRt)) p.2.1 p.2.2) (fun p => [(1, .isl ex 1 (ints env)), (2, .isl ex2 1 (bools down)), (3, .int .i64 m), (4, .ptr b4 0), (11, p.2.1), (12, .int .i64 (p.1 : Nat))]) (fun p => p.2.2) (fun p => n.routers.length - p.1) (0, _, _) ⟨by simp, OwnL.nil _ 4⟩ (by simp (disch := omega) only [subT, Int.natCast_add, Int.cast_ofNat_Int, go_sem, ↓if_pos, ne_eq, ↓reduceIte] <;> (repeat' apply And.intro) <;> first | rfl | (congr 1; omega) | assumption) rfl ?_
  rintro ⟨i, q, s⟩ ⟨hi, ho1⟩ ih
  dsimp only at hi ho1
  simp (disch := omega) only [ho1.get g4, e0, go_sem, ↓if_pos, ne_eq, ↓reduceIte]
  first | refine iteW_dec (fun h1 => ?_) (fun h1 => ?_) | refine iteW_of (fun h1 => ?_) (fun h1 => ?_)
  · simp (disch := omega) only [go_sem, ↓if_pos, ne_eq, ↓reduceIte]
    refine SRun.callR l07None_ok ⟨[], rfl, rfl⟩ rfl ?_
    have hnr : rtC noRt = [.int .i64 (-3), .int .i64 0, .int .i64 0, .bool false] := rfl
    simp (disch := omega) only [hnr, go_sem, ↓if_pos, ne_eq, ↓reduceIte]
    refine SRun.appL ho1 rfl (rt1_ok noRt) (by rw [rtsV_len, List.length_replicate]; simp only [List.length_singleton]; omega) ?_
    intro q2 s2 ho2
    have ha := rts_app (List.replicate i noRt) noRt
    rw [hnr] at ha
    rw [ha, ← List.replicate_succ'] at ho2
    simp (disch := omega) only [go_sem, ↓if_pos, ne_eq, ↓reduceIte]
    exact ih (i + 1, q2, s2) _ _ ⟨by simp only; omega, ho2⟩ (by simp only; omega) (by simp (disch := omega) only [subT, Int.natCast_add, Int.cast_ofNat_Int, go_sem, ↓if_pos, ne_eq, ↓reduceIte] <;> (repeat' apply And.intro) <;> first | rfl | (congr 1; omega) | assumption) rfl
  clear ih
  have hir : i = n.routers.length := by omega
  subst hir
  simp (disch := omega) only [go_sem, ↓if_pos, ne_eq, ↓reduceIte]
  refine W_freezeLoop (σ' := s1) (T' := [(1, .isl ex 1 (ints env)), (2, .isl ex2 1 (bools down)), (3, .int .i64 m), (4, .ptr b4 0), (11, .isl false 4 (rtsV (List.replicate n.routers.length noRt))), (13, .int .i64 0)]) ho1.le (by exact ⟨.refl _, .refl _, .refl _, .refl _, ho1.conv.2, .refl _, trivial⟩) ?_
  clear ho1 h1 hi q s
  refine W_loopC (α := Nat × List Rt) (fun p => p.1 ≤ m ∧ SetW n down (2 + 100 * (p.1 : Nat)) p.2 ∧ settleP n env down m (List.replicate n.routers.length noRt) = settleP n env down (m - p.1) p.2) (fun p => [(1, .isl ex 1 (ints env)), (2, .isl ex2 1 (bools down)), (3, .int .i64 m), (4, .ptr b4 0), (11, .isl false 4 (rtsV p.2)), (13, .int .i64 (p.1 : Nat))]) (fun _ => s1) (fun p => m - p.1) (0, List.replicate n.routers.length noRt) ⟨by simp, by simpa using start_w down, rfl⟩ (by simp (disch := omega) only [subT, Int.natCast_add, Int.cast_ofNat_Int, go_sem, ↓if_pos, ne_eq, ↓reduceIte] <;> (repeat' apply And.intro) <;> first | rfl | (congr 1; omega) | assumption) rfl ?_
  rintro ⟨i, rs⟩ ⟨hi, hw, he⟩ ih
  dsimp only at hi hw he
  have hrw := hw.w hR (by omega)
  have hrl := hw.len
  have hdef : bestsP n env down rs = (List.range n.routers.length).map fun (i : Nat) => bestP (candP n i env down rs) := rfl
  simp (disch := omega) only [go_sem, ↓if_pos, ne_eq, ↓reduceIte]
  first | refine iteW_dec (fun h1 => ?_) (fun h1 => ?_) | refine iteW_of (fun h1 => ?_) (fun h1 => ?_)
  · rw [settle_step (by omega)] at he
    simp (disch := omega) only [go_sem, ↓if_pos, ne_eq, ↓reduceIte]
    refine W_loopC (α := Nat × V × St) (fun p => p.1 ≤ rs.length ∧ OwnL s1 4 (rtsV ((List.range p.1).map fun (i : Nat) => bestP (candP n i env down rs))) p.2.1 p.2.2) (fun p => [(1, .isl ex 1 (ints env)), (2, .isl ex2 1 (bools down)), (3, .int .i64 m), (4, .ptr b4 0), (11, .isl false 4 (rtsV rs)), (13, .int .i64 (i : Nat)), (14, p.2.1), (15, .bool (decide (((List.range p.1).map fun (i : Nat) => bestP (candP n i env down rs)) = rs.take p.1))), (16, .int .i64 (p.1 : Nat))]) (fun p => p.2.2) (fun p => rs.length - p.1) (0, _, _) ⟨by simp, OwnL.nil _ 4⟩ (by simp (disch := omega) only [subT, Int.natCast_add, Int.cast_ofNat_Int, List.range_zero, List.map_nil, List.take_zero, go_sem, ↓if_pos, ne_eq, ↓reduceIte] <;> (repeat' apply And.intro) <;> first | rfl | (congr 1; omega) | assumption) rfl ?_
    rintro ⟨k, q, s⟩ ⟨hk, ho1⟩ ih2
    dsimp only at hk ho1
    have g4' := ho1.get g4
    simp (disch := omega) only [go_sem, ↓if_pos, ne_eq, ↓reduceIte]
    first | refine iteW_dec (fun h2 => ?_) (fun h2 => ?_) | refine iteW_of (fun h2 => ?_) (fun h2 => ?_)
    · have hrt4 : ∀ r : Rt, (rtC r).take 4 = rtC r := fun _ => rfl
      have hrt5 : ∀ r : Rt, (rtC r).length = 4 := fun _ => rfl
      have hone : ∀ r : Rt, (∀ c, c ∈ rtC r → c.one = true) = True := fun r => eq_true (rt_one r)
      have hcl := cand_len r4 k env down rs
      have hsn : (List.range (k + 1)).map (fun (i : Nat) => bestP (candP n i env down rs)) = (List.range k).map (fun (i : Nat) => bestP (candP n i env down rs)) ++ [bestP (candP n k env down rs)] := by rw [List.range_succ, List.map_append]; rfl
      have hpl : ((List.range k).map (fun (i : Nat) => bestP (candP n i env down rs))).length = k := by simp
      simp (disch := omega) only [g4', hlen, hlen2, go_sem, ↓if_pos, ne_eq, ↓reduceIte]
      refine SRun.callR (l07Candidates_ok (ex := ex) (ex2 := ex2) (ex3 := false) (router := (k : Nat)) hR hN.origins q1 q2 hrl hrw) ⟨[], rfl, rfl⟩ rfl ?_
      simp (disch := omega) only [go_sem, ↓if_pos, ne_eq, ↓reduceIte]
      refine SRun.callR (l07Best_ok (ex := false) (l := candP n k env down rs) (by omega)) ⟨[], rfl, rfl⟩ rfl ?_
      generalize bestP (candP n k env down rs) = x at *
      generalize (List.range k).map (fun (i : Nat) => bestP (candP n i env down rs)) = pre at *
      simp (disch := omega) only [hrt5, hone, true_and, go_sem, ↓if_pos, ne_eq, ↓reduceIte]
      refine SRun.appL ho1 rfl (rt1_ok x) (by rw [rtsV_len, hpl]; simp only [List.length_singleton]; omega) ?_
      intro q2 s2 ho2
      rw [rts_app] at ho2
      have hae := append_eq_take (l := pre) (r := rs) (i := k) default hpl (by omega) x
      obtain ⟨bq, cq, rfl, gq, _, _, _⟩ := ho2.at (by simp [rtsV])
      have hat := flat_rts_at (pre ++ [x]) k (by simp; omega)
      have hxk : (pre ++ [x]).getD k default = x := by rw [← hpl]; exact getD_snoc_eq
      rw [hxk] at hat
      have hfl := flat_rts_len (pre ++ [x])
      rw [List.length_append, List.length_singleton] at hfl
      have hlx : (pre ++ [x]).length = k + 1 := by simp; omega
      rw [← hsn] at ho2
      simp (disch := omega) only [go_sem, ↓if_pos, ne_eq, ↓reduceIte]
      refine W_drawW ?_
      by_cases c3 : pre = rs.take k
      · have d3 : decide (pre = rs.take k) = true := decide_eq_true c3
        simp (disch := omega) only [d3, rtsV_len, hlx, gq, hat, hrt4, hrt5, stepK_eqaR, bne_f, go_sem, ↓if_pos, ne_eq, ↓reduceIte]
        refine ih2 (k + 1, _, s2) _ _ ⟨by simp only; omega, ho2⟩ (by simp only; omega) ?_ rfl
        have hd : decide (x = rs.getD k default) = decide ((List.range (k + 1)).map (fun (i : Nat) => bestP (candP n i env down rs)) = rs.take (k + 1)) := by
          rw [hsn, Bool.eq_iff_iff, hae, d3]; simp
        simp only [← hd, rtsV_len, List.length_map, List.length_range, hpl]
        exact (by simp (disch := omega) only [subT, Int.natCast_add, Int.cast_ofNat_Int, go_sem, ↓if_pos, ne_eq, ↓reduceIte] <;> (repeat' apply And.intro) <;> first | rfl | (congr 1; omega) | assumption)
      · have d3 : decide (pre = rs.take k) = false := decide_eq_false c3
        simp (disch := omega) only [d3, go_sem, ↓if_pos, ne_eq, ↓reduceIte]
        refine ih2 (k + 1, _, s2) _ _ ⟨by simp only; omega, ho2⟩ (by simp only; omega) ?_ rfl
        have hd : false = decide ((List.range (k + 1)).map (fun (i : Nat) => bestP (candP n i env down rs)) = rs.take (k + 1)) := by
          rw [hsn, Bool.eq_iff_iff, hae, d3]; simp
        simp only [← hd, rtsV_len, List.length_map, List.length_range, hpl]
        exact (by simp (disch := omega) only [subT, Int.natCast_add, Int.cast_ofNat_Int, go_sem, ↓if_pos, ne_eq, ↓reduceIte] <;> (repeat' apply And.intro) <;> first | rfl | (congr 1; omega) | assumption)
    · have hkl : k = rs.length := by omega
      subst hkl
      rw [List.take_length, hrl, ← hdef]
      rw [hrl, ← hdef] at ho1
      by_cases c4 : bestsP n env down rs = rs
      · have d4 : decide (bestsP n env down rs = rs) = true := decide_eq_true c4
        rw [if_pos c4] at he
        have hst : stableB n env down rs = true := by rw [← bests_stable hrl]; exact d4
        rw [he, hst, if_pos rfl] at hA
        rw [hA]
        simp (disch := omega) only [d4, go_sem, ↓if_pos, ne_eq, ↓reduceIte]
        exact W_retC c18_ok rfl (Conv.drop _ fun d x h => ho1.le _ _ (hσ _ _ h)) ⟨rfl, rfl⟩
      · have d4 : decide (bestsP n env down rs = rs) = false := decide_eq_false c4
        rw [if_neg c4] at he
        simp (disch := omega) only [d4, go_sem, ↓if_pos, ne_eq, ↓reduceIte]
        have hw2 := bests_w (env := env) hR hw (by omega)
        refine W_freezeL (σ' := s1) (T' := [(1, .isl ex 1 (ints env)), (2, .isl ex2 1 (bools down)), (3, .int .i64 m), (4, .ptr b4 0), (11, .isl false 4 (rtsV (bestsP n env down rs))), (13, .int .i64 ((i : Int) + 1))]) ho1.le (by exact ⟨.refl _, .refl _, .refl _, .refl _, ho1.conv.2, .refl _, trivial⟩) ?_
        exact ih (i + 1, bestsP n env down rs) _ _ ⟨by simp only; omega, by simp only; rw [show (2 : Int) + 100 * ((i + 1 : Nat) : Int) = 2 + 100 * (i : Nat) + 100 by omega]; exact hw2, he⟩ (by simp only; omega) (by simp (disch := omega) only [subT, Int.natCast_add, Int.cast_ofNat_Int, go_sem, ↓if_pos, ne_eq, ↓reduceIte] <;> (repeat' apply And.intro) <;> first | rfl | (congr 1; omega) | assumption) rfl
  · have him : m - i = 0 := by omega
    rw [him, settleP] at he
    simp (disch := omega) only [g4, hlen, hlen2, go_sem, ↓if_pos, ne_eq, ↓reduceIte]
    refine SRun.callR (l07Stable_ok (ex := ex) (ex2 := ex2) (ex3 := false) hR hN.origins q1 q2 hrl hrw) ⟨[], rfl, rfl⟩ rfl ?_
    rw [he] at hA
    cases h3 : stableB n env down rs with
    | true =>
      rw [h3, if_pos rfl] at hA
      rw [hA]
      simp (disch := omega) only [go_sem, ↓if_pos, ne_eq, ↓reduceIte]
      exact W_retC c18_ok rfl (Conv.drop _ hσ) ⟨rfl, rfl⟩
    | false =>
      rw [h3, if_neg (by simp)] at hA
      rw [hA]
      simp (disch := omega) only [go_sem, ↓if_pos, ne_eq, ↓reduceIte]
      exact W_retC c18_ok (r := .tup [.isl true 4 [], .int .i64 8]) (r' := .tup [.isl false 4 [], .int .i64 8]) (σ' := σ) rfl ⟨hσ, frz_tup (by exact ⟨.isl0 _ _ _ _ (fun h => by cases h), .refl _, trivial⟩)⟩ ⟨rfl, rfl⟩
end Go.Proofs.Ytabelcohkpmpnaa.Lg
