/- Words that are drawn, and choices of the laws. -/
import Derived.Test.YtlidjjjpjndneaaVi
set_option linter.unusedSimpArgs false
set_option linter.unusedVariables false
namespace Go.Proofs.Ytlidjjjpjndneaa.Lg
open Go
attribute [local irreducible] SRun DS DRun
variable {Γ : St} {σ σ0 : St}
def nbW : Nat → Nat
  | 0 => 10
  | d + 1 => 10 + 2 * nbW d
theorem wd_conv {σ σ' : St} {k n : Int} : Frz σ σ' (.agg [.int .i64 k, .int .i64 n, .isl true 0 []]) (.agg [.int .i64 k, .int .i64 n, .isl false 3 []]) := frz_agg (by exact ⟨.refl _, .refl _, frz_nil _ _, trivial⟩) (by simp [V.one])
theorem wd_conv2 {σ σ' : St} {k : Int} {a b : W3} : Frz σ σ' (.agg [.int .i64 k, .int .i64 0, .isl true 3 [.agg (wdC a), .agg (wdC b)]]) (.agg (wdC (.op k a b))) := frz_agg (by exact ⟨.refl _, .refl _, .isl _ _ _, trivial⟩) (wdC_one _)
set_option maxHeartbeats 1000000 in
theorem word_ok : ∀ (d : Nat) {Γ σ : St} {b : Nat} {ex : Bool} {code : List UInt8} {a s : Int} (hd : d ≤ 6) (hb : σ b = some (srcC ex code a s)) (ha : 0 ≤ a ∧ a + nbW d ≤ 1000000000) (hs : 0 ≤ s ∧ s < 2147483648),
    ACalls Try.prog Γ 56 [.ptr b 0, .int .i64 3, .int .i64 d] σ fun r σ' => ∃ w a' s', okW w (d + 1) ∧ a ≤ a' ∧ a' ≤ a + nbW d ∧ 0 ≤ s' ∧ s' < 2147483648 ∧ r = wdV w ∧ σ' = upd σ b (srcC ex code a' s') := by
  intro d
  induction d with
  | zero =>
    intro Γ σ b ex code a s hd hb ha hs
    have hn : nbW 0 = 10 := rfl
    have h8 : IntKind.i64.wrap (1 * 2 ^ min 3 64) = 8 := by decide
    have ht : (12 : Int).tdiv 3 = 4 := rfl
    refine acalls_W c56_ok rfl ?_
    simp (disch := omega) only [c56, go_sem, ↓if_pos, ne_eq, ↓reduceIte]
    refine SRun.allocR ?_
    intro b6 hb6
    have e6 : b6 ≠ b := fun e => by subst e; rw [hb] at hb6; cases hb6
    have hz6 : ∀ c, upd (upd σ b6 [.int .i64 0, .int .i64 0, .isl true 0 []]) b c b6 = some [.int .i64 0, .int .i64 0, .isl true 0 []] := fun c => by rw [upd_ne _ _ e6, upd_same]
    simp (disch := omega) only [go_sem, ↓if_pos, ne_eq, ↓reduceIte]
    refine SRun.callQ (chance_ok (le_upd hb6 _ _ hb) (by omega) hs (by omega)) ⟨[], rfl, rfl⟩ rfl ?_
    rintro r σ8 ⟨u8, a8, s8, k1, k2, k3, k4, rfl, rfl⟩
    skip
    simp (disch := omega) only [go_sem, ↓if_pos, ne_eq, ↓reduceIte]
    first | refine iteW_dec (fun h8' => ?_) (fun h8' => ?_) | refine iteW_of (fun h8' => ?_) (fun h8' => ?_)
    · simp (disch := omega) only [h8, go_sem, ↓if_pos, ne_eq, ↓reduceIte]
      refine SRun.callQ (next_ok (upd_same _ _ _) (by omega) ⟨k3, k4⟩) ⟨[], rfl, rfl⟩ rfl ?_
      rintro r σ9 ⟨v, a9, s9, l1, l2, l3, l4, l5, l6, l7, rfl, rfl⟩
      rw [upd_upd]
      simp (disch := omega) only [hz6, go_sem, ↓if_pos, ne_eq, ↓reduceIte]
      refine W_retC c56_ok (r := .agg [.int .i64 1, .int .i64 v, .isl true 0 []]) (σ' := upd σ b (srcC ex code a9 s9)) (r' := wdV (.const v)) (resV_cellA rfl (upd_same _ _ _) rfl) ⟨?_, wd_conv⟩ ⟨.const v, a9, s9, ⟨by omega, l1, by have := l3 (by omega); omega⟩, by omega, by omega, l6, l7, rfl, rfl⟩
      rw [upd_comm _ e6, upd_upd]
      exact le_upd (upd_none.2 ⟨e6, hb6⟩)
    · simp (disch := omega) only [ht, go_sem, ↓if_pos, ne_eq, ↓reduceIte]
      refine SRun.callQ (next_ok (upd_same _ _ _) (by omega) ⟨k3, k4⟩) ⟨[], rfl, rfl⟩ rfl ?_
      rintro r σ9 ⟨v, a9, s9, l1, l2, l3, l4, l5, l6, l7, rfl, rfl⟩
      rw [upd_upd]
      simp (disch := omega) only [hz6, go_sem, ↓if_pos, ne_eq, ↓reduceIte]
      refine W_retC c56_ok (r := .agg [.int .i64 2, .int .i64 v, .isl true 0 []]) (σ' := upd σ b (srcC ex code a9 s9)) (r' := wdV (.var v)) (resV_cellA rfl (upd_same _ _ _) rfl) ⟨?_, wd_conv⟩ ⟨.var v, a9, s9, ⟨by omega, l1, by have := l3 (by omega); omega⟩, by omega, by omega, l6, l7, rfl, rfl⟩
      rw [upd_comm _ e6, upd_upd]
      exact le_upd (upd_none.2 ⟨e6, hb6⟩)
  | succ d ih =>
    intro Γ σ b ex code a s hd hb ha hs
    have hn : nbW (d + 1) = 10 + 2 * nbW d := rfl
    have h8 : IntKind.i64.wrap (1 * 2 ^ min 3 64) = 8 := by decide
    have ht : (12 : Int).tdiv 3 = 4 := rfl
    refine acalls_W c56_ok rfl ?_
    simp (disch := omega) only [c56, go_sem, ↓if_pos, ne_eq, ↓reduceIte]
    refine SRun.allocR ?_
    intro b6 hb6
    have e6 : b6 ≠ b := fun e => by subst e; rw [hb] at hb6; cases hb6
    have hz6 : ∀ c, upd (upd σ b6 [.int .i64 0, .int .i64 0, .isl true 0 []]) b c b6 = some [.int .i64 0, .int .i64 0, .isl true 0 []] := fun c => by rw [upd_ne _ _ e6, upd_same]
    have hd0 : ¬ (((d + 1 : Nat) : Int) ≤ 0) := by omega
    have hd1 : ((d + 1 : Nat) : Int) - 1 = (d : Int) := by omega
    simp (disch := omega) only [hd0, go_sem, ↓if_pos, ne_eq, ↓reduceIte]
    refine SRun.callQ (chance_ok (le_upd hb6 _ _ hb) (by omega) hs (by omega)) ⟨[], rfl, rfl⟩ rfl ?_
    rintro r σ1 ⟨u, a1, s1, j1, j2, j3, j4, rfl, rfl⟩
    simp (disch := omega) only [go_sem, ↓if_pos, ne_eq, ↓reduceIte]
    first | refine iteW_dec (fun h1 => ?_) (fun h1 => ?_) | refine iteW_of (fun h1 => ?_) (fun h1 => ?_)
    · simp (disch := omega) only [go_sem, ↓if_pos, ne_eq, ↓reduceIte]
      refine SRun.callQ (chance_ok (upd_same _ _ _) (by omega) ⟨j3, j4⟩ (by omega)) ⟨[], rfl, rfl⟩ rfl ?_
      rintro r σ8 ⟨u8, a8, s8, k1, k2, k3, k4, rfl, rfl⟩
      rw [upd_upd]
      simp (disch := omega) only [go_sem, ↓if_pos, ne_eq, ↓reduceIte]
      first | refine iteW_dec (fun h8' => ?_) (fun h8' => ?_) | refine iteW_of (fun h8' => ?_) (fun h8' => ?_)
      · simp (disch := omega) only [h8, go_sem, ↓if_pos, ne_eq, ↓reduceIte]
        refine SRun.callQ (next_ok (upd_same _ _ _) (by omega) ⟨k3, k4⟩) ⟨[], rfl, rfl⟩ rfl ?_
        rintro r σ9 ⟨v, a9, s9, l1, l2, l3, l4, l5, l6, l7, rfl, rfl⟩
        rw [upd_upd]
        simp (disch := omega) only [hz6, go_sem, ↓if_pos, ne_eq, ↓reduceIte]
        refine W_retC c56_ok (r := .agg [.int .i64 1, .int .i64 v, .isl true 0 []]) (σ' := upd σ b (srcC ex code a9 s9)) (r' := wdV (.const v)) (resV_cellA rfl (upd_same _ _ _) rfl) ⟨?_, wd_conv⟩ ⟨.const v, a9, s9, ⟨by omega, l1, by have := l3 (by omega); omega⟩, by omega, by omega, l6, l7, rfl, rfl⟩
        rw [upd_comm _ e6, upd_upd]
        exact le_upd (upd_none.2 ⟨e6, hb6⟩)
      · simp (disch := omega) only [ht, go_sem, ↓if_pos, ne_eq, ↓reduceIte]
        refine SRun.callQ (next_ok (upd_same _ _ _) (by omega) ⟨k3, k4⟩) ⟨[], rfl, rfl⟩ rfl ?_
        rintro r σ9 ⟨v, a9, s9, l1, l2, l3, l4, l5, l6, l7, rfl, rfl⟩
        rw [upd_upd]
        simp (disch := omega) only [hz6, go_sem, ↓if_pos, ne_eq, ↓reduceIte]
        refine W_retC c56_ok (r := .agg [.int .i64 2, .int .i64 v, .isl true 0 []]) (σ' := upd σ b (srcC ex code a9 s9)) (r' := wdV (.var v)) (resV_cellA rfl (upd_same _ _ _) rfl) ⟨?_, wd_conv⟩ ⟨.var v, a9, s9, ⟨by omega, l1, by have := l3 (by omega); omega⟩, by omega, by omega, l6, l7, rfl, rfl⟩
        rw [upd_comm _ e6, upd_upd]
        exact le_upd (upd_none.2 ⟨e6, hb6⟩)
    · simp (disch := omega) only [go_sem, ↓if_pos, ne_eq, ↓reduceIte]
      refine SRun.callQ (next_ok (upd_same _ _ _) (by omega) ⟨j3, j4⟩) ⟨[], rfl, rfl⟩ rfl ?_
      rintro r σ2 ⟨v, a2, s2, k1, k2, k3, k4, k5, k6, k7, rfl, rfl⟩
      have hv := k3 (by omega)
      rw [upd_upd]
      simp (disch := omega) only [hd1, go_sem, ↓if_pos, ne_eq, ↓reduceIte]
      refine SRun.callQ (ih (by omega) (upd_same _ b (srcC ex code a2 s2)) (by omega) ⟨k6, k7⟩) ⟨[], rfl, rfl⟩ rfl ?_
      rintro r σ3 ⟨w1, a3, s3, q1, q2, q3, q4, q5, rfl, rfl⟩
      rw [upd_upd]
      simp (disch := omega) only [hd1, go_sem, ↓if_pos, ne_eq, ↓reduceIte]
      refine SRun.callQ (ih (by omega) (upd_same _ b (srcC ex code a3 s3)) (by omega) ⟨q4, q5⟩) ⟨[], rfl, rfl⟩ rfl ?_
      rintro r σ4 ⟨w2, a4, s4, p1, p2, p3, p4, p5, rfl, rfl⟩
      rw [upd_upd]
      have o1 := wdC_one w1
      have o2 := wdC_one w2
      simp (disch := omega) only [hz6, wdV, go_sem, ↓if_pos, ne_eq, ↓reduceIte]
      refine W_retC c56_ok (r := .agg [.int .i64 (3 + v), .int .i64 0, .isl true 3 [.agg (wdC w1), .agg (wdC w2)]]) (σ' := upd σ b (srcC ex code a4 s4)) (r' := .agg (wdC (.op (3 + v) w1 w2))) (resV_cellA rfl (upd_same _ _ _) rfl) ⟨?_, wd_conv2⟩ ⟨.op (3 + v) w1 w2, a4, s4, ⟨by omega, by omega, by omega, q1, p1⟩, by omega, by omega, p4, p5, rfl, rfl⟩
      rw [upd_comm _ e6, upd_upd]
      exact le_upd (upd_none.2 ⟨e6, hb6⟩)
theorem WordOf_ok {ex : Bool} {code : List UInt8} (hl : code.length ≤ 140737488355328) : ACalls Try.prog Γ 11 [codeV ex code] σ fun r σ' => ∃ w, okW w 3 ∧ r = wdV w ∧ σ' = σ := by
  refine acalls_W c11_ok rfl ?_
  simp (disch := omega) only [c11, go_sem, ↓if_pos, ne_eq, ↓reduceIte]
  refine SRun.allocR ?_
  intro b2 hb2
  simp (disch := omega) only [go_sem, ↓if_pos, ne_eq, ↓reduceIte]
  refine SRun.callQ (source_ok hl) ⟨[], rfl, rfl⟩ rfl ?_
  rintro r σ1 ⟨b, s, hb, hs1, hs2, rfl, rfl⟩
  have nb := upd_none.1 hb
  simp (disch := omega) only [go_sem, ↓if_pos, ne_eq, ↓reduceIte]
  refine SRun.callQ (word_ok 2 (by omega) (upd_same _ b (srcC ex code 0 s)) (by decide) ⟨hs1, hs2⟩) ⟨[], rfl, rfl⟩ rfl ?_
  rintro r σ3 ⟨w, a3, s3, q1, q2, q3, q4, q5, rfl, rfl⟩
  rw [upd_upd]
  have g2 : ∀ c, upd (upd σ b2 [.int .i64 0, .int .i64 0, .isl true 0 []]) b c b2 = some [.int .i64 0, .int .i64 0, .isl true 0 []] := fun c => by rw [upd_ne _ _ nb.1.symm, upd_same]
  simp (disch := omega) only [g2, wdV, go_sem, ↓if_pos, ne_eq, ↓reduceIte]
  refine W_retC c11_ok (r := .agg (wdC w)) (σ' := σ) (r' := .agg (wdC w)) (resV_cellA rfl (upd_same _ _ _) (wdC_len w).symm) (Conv.drop _ fun c x hc => ?_) ⟨w, q1, rfl, rfl⟩
  have hc2 : c ≠ b2 := fun e => by subst e; rw [hb2] at hc; cases hc
  have hcb : c ≠ b := fun e => by subst e; rw [nb.2] at hc; cases hc
  rw [upd_ne _ _ hc2, upd_ne _ _ hcb, upd_ne _ _ hc2]; exact hc
theorem byte_in (c : UInt8) : 0 ≤ (c.toNat : Int) ∧ (c.toNat : Int) ≤ 255 := by have := c.toNat_lt; omega
theorem at_ok {ex : Bool} {code : List UInt8} {i n : Int} (hl : code.length ≤ 140737488355328) (hi : 0 ≤ i ∧ i ≤ 1000000) (hn : 2 ≤ n ∧ n ≤ 1000000) : ACalls Try.prog Γ 12 [codeV ex code, .int .i64 i, .int .i64 n] σ fun r σ' => ∃ v : Int, 0 ≤ v ∧ v < n ∧ r = .int .i64 v ∧ σ' = σ := by
  have hlen : (code.map fun c => V.int .u8 (c.toNat : Int)).length = code.length := by simp
  refine acalls_W c12_ok rfl ?_
  simp (disch := omega) only [c12, codeV, go_sem, ↓if_pos, ne_eq, ↓reduceIte]
  first | refine iteW_dec (fun h0 => ?_) (fun h0 => ?_) | refine iteW_of (fun h0 => ?_) (fun h0 => ?_)
  · have hz : 0 ≤ i * 7 := by omega
    simp (disch := omega) only [go_sem, ↓if_pos, ne_eq, ↓reduceIte]
    exact W_retR c12_ok rfl ⟨(i * 7).tmod n, Int.tmod_nonneg _ hz, Int.tmod_lt_of_pos _ (by omega), rfl, rfl⟩
  · have hp : 0 < (code.length : Int) := by omega
    have m1 := tmod_in (a := i) (n := code.length) hi.1 hp
    have m2 := tmod_in (a := i + 1) (n := code.length) (by omega) hp
    have d1 : 0 ≤ i.tdiv code.length ∧ i.tdiv code.length ≤ 1000000 := by
      rw [Int.tdiv_eq_ediv_of_nonneg hi.1]
      exact ⟨Int.ediv_nonneg hi.1 (by omega), Int.le_trans (Int.ediv_le_self _ hi.1) hi.2⟩
    simp (disch := omega) only [go_sem, ↓if_pos, ne_eq, ↓reduceIte]
    refine W_drawW ?_
    have b1 := byte_in (code.getD (i.tmod code.length).toNat default)
    have b2 := byte_in (code.getD ((i + 1).tmod code.length).toNat default)
    simp (disch := omega) only [go_sem, ↓if_pos, ne_eq, ↓reduceIte]
    exact W_retR c12_ok rfl ⟨_, Int.tmod_nonneg _ (by omega), Int.tmod_lt_of_pos _ (by omega), rfl, rfl⟩
end Go.Proofs.Ytlidjjjpjndneaa.Lg
