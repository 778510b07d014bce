/- The law FnWords over its code. -/
import Derived.Test.YtlidjjjpjndneaaVj
import Derived.Test.YtlidjjjpjndneaaEk
set_option linter.unusedSimpArgs false
set_option linter.unusedVariables false
namespace Go.Proofs.Ytlidjjjpjndneaa.Lg
open Go
attribute [local irreducible] SRun DS DRun
variable {Γ : St} {σ σ0 : St}
def bits3 (n : Int) : List Bool := [decide (n.tmod 2 = 1), decide ((n.tdiv 2).tmod 2 = 1), decide (n.tdiv 4 = 1)]
def envBits (env : List Int) : List Bool := env.flatMap bits3
theorem envBits_len (env : List Int) : (envBits env).length = 3 * env.length := by
  induction env with
  | nil => rfl
  | cons a r ih => simp only [envBits, List.flatMap_cons, List.length_append, List.length_cons] at ih ⊢; rw [ih]; simp [bits3]; omega
theorem envBits_app (env : List Int) (n : Int) : envBits (env ++ [n]) = envBits env ++ bits3 n := by simp [envBits]
theorem sizeW_le : ∀ (w : W3) (d : Nat), okW w d → sizeW w + 1 ≤ 2 ^ d := by
  intro w
  induction w with
  | const n => intro d h; have : 2 ^ 1 ≤ 2 ^ d := Nat.pow_le_pow_right (by omega) h.1; simp only [sizeW]; omega
  | var n => intro d h; have : 2 ^ 1 ≤ 2 ^ d := Nat.pow_le_pow_right (by omega) h.1; simp only [sizeW]; omega
  | op k a b iha ihb =>
    intro d h
    obtain ⟨h1, h2, h3, h4, h5⟩ := h
    have := iha _ h4
    have := ihb _ h5
    obtain ⟨e, rfl⟩ : ∃ e, d = e + 1 := ⟨d - 1, by omega⟩
    simp only [Nat.add_sub_cancel] at *
    rw [Nat.pow_succ]
    simp only [sizeW]; omega
theorem env_bits {env : List Int} (he : envOK env) : ∀ n, n < 4 → ∀ i, i < 3 → (envBits env).getD (n * 3 + i) false = B3 (env.getD n 0) i := by
  obtain ⟨hl, hv⟩ := he
  match env, hl with
  | [a, b, c, d], _ =>
    have ha := num_in (hv 0 (by omega)).1 (hv 0 (by omega)).2
    have hb := num_in (hv 1 (by omega)).1 (hv 1 (by omega)).2
    have hc := num_in (hv 2 (by omega)).1 (hv 2 (by omega)).2
    have hd := num_in (hv 3 (by omega)).1 (hv 3 (by omega)).2
    intro n hn i hi
    match n, hn, i, hi with
    | 0, _, 0, _ => exact ha.2.1.symm
    | 0, _, 1, _ => exact ha.2.2.1.symm
    | 0, _, 2, _ => exact ha.2.2.2.symm
    | 1, _, 0, _ => exact hb.2.1.symm
    | 1, _, 1, _ => exact hb.2.2.1.symm
    | 1, _, 2, _ => exact hb.2.2.2.symm
    | 2, _, 0, _ => exact hc.2.1.symm
    | 2, _, 1, _ => exact hc.2.2.1.symm
    | 2, _, 2, _ => exact hc.2.2.2.symm
    | 3, _, 0, _ => exact hd.2.1.symm
    | 3, _, 1, _ => exact hd.2.2.1.symm
    | 3, _, 2, _ => exact hd.2.2.2.symm
/-- What is put together of bits, from the highest. -/
def gotW (x : Int) : Nat → Int
  | 0 => 0
  | j + 1 => gotW x j * 2 + (if B3 x (2 - j) then 1 else 0)
theorem gotW_bound (x : Int) : ∀ j, j ≤ 3 → 0 ≤ gotW x j ∧ gotW x j ≤ 7 := by
  intro j hj
  have h0 : gotW x 0 = 0 := rfl
  have h1 : gotW x 1 = gotW x 0 * 2 + (if B3 x 2 then 1 else 0) := rfl
  have h2 : gotW x 2 = gotW x 1 * 2 + (if B3 x 1 then 1 else 0) := rfl
  have h3 : gotW x 3 = gotW x 2 * 2 + (if B3 x 0 then 1 else 0) := rfl
  match j, hj with
  | 0, _ => omega
  | 1, _ => split at h1 <;> omega
  | 2, _ => split at h1 <;> split at h2 <;> omega
  | 3, _ => split at h1 <;> split at h2 <;> split at h3 <;> omega
theorem gotW_3 {x : Int} (h0 : 0 ≤ x) (h1 : x ≤ 7) : gotW x 3 = x := (num_in h0 h1).1
set_option maxHeartbeats 1000000 in
theorem fnWords_ok {ex ex2 : Bool} {code more : List UInt8} (hl1 : code.length ≤ 140737488355328) (hl2 : more.length ≤ 140737488355328) : Ret Try.prog Γ 3 [codeV ex code, codeV ex2 more] σ (.bool true) σ := by
  refine ret_of c3_ok rfl ?_
  simp (disch := omega) only [c3, codeV, go_sem, ↓if_pos, ne_eq, ↓reduceIte]
  first | refine guardW_dec (fun h => ?_) (fun h => ?_) | refine guardW_by (fun h => ?_) (fun h => ?_)
  · simp (disch := omega) only [go_sem, ↓if_pos, ne_eq, ↓reduceIte]
    refine W_retR c3_ok rfl ⟨?_, rfl⟩
    simp only [look, ev, V.bool.injEq, V.int.injEq, V.str.injEq, V.tup.injEq, V.agg.injEq, V.isl.injEq, List.cons.injEq, true_and, and_true, Nat.reduceEqDiff, Nat.reduceAdd, Nat.reduceSub, Nat.reduceMul, Nat.reducePow, Nat.reduceDiv, Nat.reduceMod, Int.reduceToNat, Nat.reduceLeDiff, Nat.reduceLT, Int.reduceEq, Int.reduceLT, Int.reduceLE, Int.reduceGT, Int.reduceGE, Int.reduceNeg, Int.reduceSub, Int.reduceAdd, Int.reduceMul, Int.reducePow, ne_eq, reduceCtorEq, ↓reduceIte]
  simp (disch := omega) only [go_sem, ↓if_pos, ne_eq, ↓reduceIte]
  first | refine iteW_dec (fun h2 => ?_) (fun h2 => ?_) | refine iteW_of (fun h2 => ?_) (fun h2 => ?_)
  · simp (disch := omega) only [go_sem, ↓if_pos, ne_eq, ↓reduceIte]
    refine W_retR c3_ok rfl ⟨?_, rfl⟩
    simp only [look, ev, V.bool.injEq, V.int.injEq, V.str.injEq, V.tup.injEq, V.agg.injEq, V.isl.injEq, List.cons.injEq, true_and, and_true, Nat.reduceEqDiff, Nat.reduceAdd, Nat.reduceSub, Nat.reduceMul, Nat.reducePow, Nat.reduceDiv, Nat.reduceMod, Int.reduceToNat, Nat.reduceLeDiff, Nat.reduceLT, Int.reduceEq, Int.reduceLT, Int.reduceLE, Int.reduceGT, Int.reduceGE, Int.reduceNeg, Int.reduceSub, Int.reduceAdd, Int.reduceMul, Int.reducePow, ne_eq, reduceCtorEq, ↓reduceIte]
  simp (disch := omega) only [go_sem, ↓if_pos, ne_eq, ↓reduceIte]
  refine SRun.callQ (WordOf_ok (ex := ex) (code := code) hl1) ⟨[], rfl, rfl⟩ rfl ?_
  rintro r s ⟨w, hw, rfl, hs⟩
  obtain rfl := hs.symm
  have hsz : sizeW w ≤ 9 := by have := sizeW_le w 3 hw; omega
  simp (disch := omega) only [wdV, go_sem, ↓if_pos, ne_eq, ↓reduceIte]
  refine SRun.allocR ?_
  intro b5 hb5
  simp (disch := omega) only [go_sem, ↓if_pos, ne_eq, ↓reduceIte]
  have g5 := upd_same σ b5 (wdC w)
  have hσ : ∀ d x, σ d = some x → upd σ b5 (wdC w) d = some x := le_upd hb5
  generalize upd σ b5 (wdC w) = s1 at *
  refine W_loopC (α := List Int × V × V × St) (fun p => p.1.length ≤ 4 ∧ (∀ x ∈ p.1, 0 ≤ x ∧ x ≤ 7) ∧ ∃ B, OwnL s1 1 (ints p.1) p.2.1 B ∧ OwnL B 1 (bools (envBits p.1)) p.2.2.1 p.2.2.2) (fun p => [(1, codeV ex2 more), (5, .ptr b5 0), (6, p.2.1), (7, p.2.2.1), (8, .int .i64 (p.1.length : Nat))]) (fun p => p.2.2.2) (fun p => 4 - p.1.length) ([], .isl true 1 [], .isl true 1 [], s1) ⟨by simp, by simp, s1, OwnL.nil _ _, OwnL.nil _ _⟩ (by simp (disch := omega) only [subT, Int.natCast_add, Int.cast_ofNat_Int, codeV, go_sem, ↓if_pos, ne_eq, ↓reduceIte] <;> (repeat' apply And.intro) <;> first | rfl | (congr 1; omega) | assumption) rfl ?_
  rintro ⟨env, t6, t7, s⟩ ⟨hle, hev, B, ho1, ho2⟩ ih
  dsimp only at hle hev ho1 ho2
  simp (disch := omega) only [go_sem, ↓if_pos, ne_eq, ↓reduceIte]
  first | refine iteW_dec (fun hq => ?_) (fun hq => ?_) | refine iteW_of (fun hq => ?_) (fun hq => ?_)
  · simp (disch := omega) only [go_sem, ↓if_pos, ne_eq, ↓reduceIte]
    refine SRun.callQ (at_ok (ex := ex2) (code := more) (i := (env.length : Nat)) (n := 8) hl2 (by omega) (by omega)) ⟨[], rfl, rfl⟩ rfl ?_
    rintro r s' ⟨n, hn0, hn8, rfl, hs⟩
    obtain rfl := hs.symm
    have q2 : 0 ≤ n.tdiv 2 ∧ n.tdiv 2 ≤ 7 := by rw [Int.tdiv_eq_ediv_of_nonneg hn0]; omega
    have q4 : 0 ≤ n.tdiv 4 ∧ n.tdiv 4 ≤ 7 := by rw [Int.tdiv_eq_ediv_of_nonneg hn0]; omega
    obtain ⟨B1, k1, k2⟩ := own_swap ho1 ho2
    simp (disch := omega) only [go_sem, ↓if_pos, ne_eq, ↓reduceIte]
    refine SRun.appL k2 rfl (ints_ok [n]) (by rw [ints_len]; simp only [List.length_singleton]; omega) ?_
    intro t6' s2 k3
    rw [ints_app] at k3
    obtain ⟨B2, k4, k5⟩ := own_swap k1 k3
    simp (disch := omega) only [go_sem, ↓if_pos, ne_eq, ↓reduceIte]
    refine SRun.appL (ys := bools (bits3 n)) k5 rfl (bools_ok _) (by rw [bools_len, bools_len, envBits_len]; simp only [bits3, List.length_cons, List.length_nil]; omega) ?_
    intro t7' s3 k6
    have hap : bools (envBits env) ++ bools (bits3 n) = bools (envBits (env ++ [n])) := by rw [envBits_app]; simp [bools]
    rw [hap] at k6
    simp (disch := omega) only [go_sem, ↓if_pos, ne_eq, ↓reduceIte]
    refine ih (env ++ [n], t6', t7', s3) _ _ ⟨by simp only [List.length_append, List.length_singleton]; omega, fun x hx => ?_, B2, k4, k6⟩ (by simp only [List.length_append, List.length_singleton]; omega) (by simp (disch := omega) only [subT, Int.natCast_add, Int.cast_ofNat_Int, List.length_append, List.length_singleton, go_sem, ↓if_pos, ne_eq, ↓reduceIte] <;> (repeat' apply And.intro) <;> first | rfl | (congr 1; omega) | assumption) rfl
    rcases List.mem_append.1 hx with hx | hx
    · exact hev x hx
    · rw [List.mem_singleton.1 hx]; omega
  · have hel : env.length = 4 := by omega
    have he : envOK env := ⟨hel, fun n hn => hev _ (getD_mem 0 (by omega))⟩
    have hb := env_bits he
    have hbl := envBits_len env
    have hval := bits_ev he.2 hb w 3 hw
    have hff := bits_fine3 hw (by omega)
    have hbw := bitsW_len w
    obtain ⟨B1, k1, k2⟩ := own_swap ho1 ho2
    have hle1 : ∀ d x, s1 d = some x → s d = some x := fun d x h => ho2.le _ _ (ho1.le _ _ h)
    have hn1 : ∀ d, B d = none → s1 d = none := fun d hd => by
      cases hc : s1 d with
      | none => rfl
      | some x => rw [ho1.le _ _ hc] at hd; cases hd
    have hn2 : ∀ d, B1 d = none → s1 d = none := fun d hd => by
      cases hc : s1 d with
      | none => rfl
      | some x => rw [k1.le _ _ hc] at hd; cases hd
    have f7 : Frz s s1 t7 (.isl false 1 (bools (envBits env))) := ho2.frz (fun _ _ => rfl) hn1
    have f6 : Frz s s1 t6 (.isl false 1 (ints env)) := k2.frz (fun _ _ => rfl) hn2
    simp (disch := omega) only [hle1 _ _ g5, go_sem, ↓if_pos, ne_eq, ↓reduceIte]
    refine SRun.freeze (T' := [(5, .ptr b5 0), (6, .isl false 1 (ints env)), (7, .isl false 1 (bools (envBits env))), (59, wdV w), (60, .isl false 1 (ints env))]) (σ' := s1) hle1 ⟨.refl _, f6, f7, .refl _, f6, trivial⟩ ?_
    refine SRun.callR (WordValue_ok (ex := false) hw hsz he) ⟨[], rfl, rfl⟩ rfl ?_
    simp (disch := omega) only [g5, go_sem, ↓if_pos, ne_eq, ↓reduceIte]
    refine SRun.callR (WordValues_ok (ex := false) hw hsz he) ⟨[], rfl, rfl⟩ rfl ?_
    simp (disch := omega) only [g5, go_sem, ↓if_pos, ne_eq, ↓reduceIte]
    refine SRun.callR (WordBits_ok hw (by omega) hsz) ⟨[], rfl, rfl⟩ rfl ?_
    have hA : bitsA (bitsW w) = bif (bitsW w).all okE then .tup [.isl false 3 (exsV (bitsW w)), .int .i64 0] else .tup [.isl false 3 [], .int .i64 11] := rfl
    have hB := fun Γ σ => WordBitss_ok (Γ := Γ) (σ := σ) hw (by omega) hsz
    generalize hqq : (bitsW w).all okE = q at *
    rw [hA] at hB
    rw [hA]
    have hvv : (decide ¬ valW env w = valW env w) = false := by simp
    cases q with
    | false =>
      dsimp only [cond_false] at hB ⊢
      simp (disch := omega) only [g5, go_sem, ↓if_pos, ne_eq, ↓reduceIte]
      refine SRun.callR (hB _ _) ⟨[], rfl, rfl⟩ rfl ?_
      simp (disch := omega) only [hvv, g5, go_sem, ↓if_pos, ne_eq, ↓reduceIte]
      refine SRun.callR (WordOK_ok hw hsz) ⟨[], rfl, rfl⟩ rfl ?_
      simp (disch := omega) only [go_sem, ↓if_pos, ne_eq, ↓reduceIte]
      exact W_retC c3_ok rfl (Conv.drop _ hσ) ⟨rfl, rfl⟩
    | true =>
      rw [List.all_eq_true] at hqq
      dsimp only [cond_true] at hB ⊢
      simp (disch := omega) only [g5, go_sem, ↓if_pos, ne_eq, ↓reduceIte]
      refine SRun.callR (hB _ _) ⟨[], rfl, rfl⟩ rfl ?_
      have h33 : (decide ¬ ((List.length (bitsW w) : Nat) : Int) = (List.length (bitsW w) : Nat)) = false := by simp
      simp (disch := omega) only [hvv, h33, g5, go_sem, ↓if_pos, ne_eq, ↓reduceIte]
      refine SRun.callR (WordOK_ok hw hsz) ⟨[], rfl, rfl⟩ rfl ?_
      simp (disch := omega) only [go_sem, ↓if_pos, ne_eq, ↓reduceIte]
      refine W_loopC (α := Nat) (fun j => j ≤ 3) (fun j => [(7, .isl false 1 (bools (envBits env))), (10, .int .i64 (valW env w)), (14, .isl false 3 (exsV (bitsW w))), (18, .int .i64 (gotW (valW env w) j)), (19, .int .i64 ((2 : Int) - j))]) (fun _ => s1) (fun j => 3 - j) 0 (by omega) (by simp (disch := omega) only [subT, Int.natCast_add, Int.cast_ofNat_Int, gotW, go_sem, ↓if_pos, ne_eq, ↓reduceIte] <;> (repeat' apply And.intro) <;> first | rfl | (congr 1; omega) | assumption) rfl ?_
      intro j hj ih2
      simp (disch := omega) only [go_sem, ↓if_pos, ne_eq, ↓reduceIte]
      have hgb := gotW_bound (valW env w) j hj
      first | refine iteW_dec (fun hq2 => ?_) (fun hq2 => ?_) | refine iteW_of (fun hq2 => ?_) (fun hq2 => ?_)
      · have e2 : ((2 : Int) - j).toNat = 2 - j := by omega
        have hm := getD_mem default (by omega : 2 - j < (bitsW w).length)
        have hfe := hff _ hm
        have hoe := hqq _ hm
        have hve := hval.2 (2 - j) (by omega)
        simp (disch := omega) only [e2, go_sem, ↓if_pos, ne_eq, ↓reduceIte]
        refine SRun.callR (EvalEx_ok (e := (bitsW w).getD (2 - j) default) (ex := false) (bs := envBits env) hoe (by have := hfe.most; omega) (by omega)) ⟨[], rfl, rfl⟩ rfl ?_
        rw [hve]
        have hgs : gotW (valW env w) (j + 1) = gotW (valW env w) j * 2 + (if B3 (valW env w) (2 - j) then 1 else 0) := rfl
        generalize hbb : B3 (valW env w) (2 - j) = bb at *
        cases bb with
        | true =>
          simp only [↓reduceIte] at hgs
          simp (disch := omega) only [go_sem, ↓if_pos, ne_eq, ↓reduceIte]
          exact ih2 (j + 1) _ _ (by omega) (by omega) (by simp (disch := omega) only [subT, Int.natCast_add, Int.cast_ofNat_Int, hgs, go_sem, ↓if_pos, ne_eq, ↓reduceIte] <;> (repeat' apply And.intro) <;> first | rfl | (congr 1; omega) | assumption) rfl
        | false =>
          simp only [Bool.false_eq_true, ↓reduceIte, Int.add_zero] at hgs
          simp (disch := omega) only [go_sem, ↓if_pos, ne_eq, ↓reduceIte]
          exact ih2 (j + 1) _ _ (by omega) (by omega) (by simp (disch := omega) only [subT, Int.natCast_add, Int.cast_ofNat_Int, hgs, go_sem, ↓if_pos, ne_eq, ↓reduceIte] <;> (repeat' apply And.intro) <;> first | rfl | (congr 1; omega) | assumption) rfl
      · obtain rfl : j = 3 := by omega
        rw [gotW_3 hval.1.1 hval.1.2]
        simp (disch := omega) only [go_sem, ↓if_pos, ne_eq, ↓reduceIte]
        exact W_retC c3_ok rfl (Conv.drop _ hσ) ⟨by simp [look], rfl⟩
end Go.Proofs.Ytlidjjjpjndneaa.Lg
