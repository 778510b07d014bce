/- What is told of the functions that are reached, as far as it is asked here. -/
import Derived.Test.YtlojopaebdnacaaDoorCd
import Derived.Test.YtlojopaebdnacaaDoorLgR
import Derived.KernelRfl
set_option linter.unusedSimpArgs false
set_option linter.unusedVariables false
namespace Go.Proofs.YtlojopaebdnacaaDoor.Lg
open Go
section
attribute [local irreducible] SRun DS DRun
variable {Γ : St} {σ : St}
theorem tmod_in {a n : Int} (h : 0 ≤ a) (hn : 0 < n) : 0 ≤ a.tmod n ∧ a.tmod n < n := ⟨Int.tmod_nonneg _ h, Int.tmod_lt_of_pos _ hn⟩
/-- The bytes of a slice that came in. -/
def codeV (ex : Bool) (code : List UInt8) : V := .isl ex 1 (code.map fun c => .int .u8 (c.toNat : Int))
/-- A source of choices. -/
def srcC (ex : Bool) (code : List UInt8) (a s : Int) : List V := [codeV ex code, .int .i64 a, .int .i64 s]
theorem byte_ok {b : Nat} {ex : Bool} {code : List UInt8} {a s : Int} (hb : σ b = some (srcC ex code a s)) (ha : 0 ≤ a ∧ a ≤ 2305843009213693952) (hs : 0 ≤ s ∧ s < 2147483648) :
    ACalls Tryd.prog Γ 79 [.ptr b 0] σ fun r σ' => ∃ v s', 0 ≤ v ∧ v ≤ 255 ∧ 0 ≤ s' ∧ s' < 2147483648 ∧ r = .int .i64 v ∧ σ' = upd σ b (srcC ex code (a + 1) s') := by
  refine acalls_W c79_ok rfl ?_
  have w1 := wrap64 (a := a + 1) (by omega) (by omega)
  have w2 := wrap64 (a := a + 1 - 1) (by omega) (by omega)
  have w3 := wrap64 (a := s * 31) (by omega) (by omega)
  simp only [c79, srcC, codeV, hb, w1, go_sem, stepW_iaddr_isl, stepW_iaddr_msl, stepW_idxs, stepK_iaddr_isl, stepK_iaddr_msl, stepK_idxs, ne_eq, ↓reduceIte]
  refine W_drawW ?_
  simp only [go_sem, stepW_iaddr_isl, stepW_iaddr_msl, stepW_idxs, stepK_iaddr_isl, stepK_iaddr_msl, stepK_idxs, ne_eq, ↓reduceIte]
  refine iteW_of (fun h => ?_) (fun h => ?_)
  · simp only [decide_eq_true_eq] at h
    have hlt : a.toNat < code.length := by omega
    have ha2 : (a + 1 - 1).toNat = a.toNat := by omega
    have ha3 : 0 ≤ a + 1 - 1 := by omega
    have hget : (code.map fun c => V.int .u8 (c.toNat : Int))[a.toNat]? = some (.int .u8 (code[a.toNat].toNat : Int)) := by simp [hlt]
    have hc : 0 ≤ (code[a.toNat].toNat : Int) ∧ (code[a.toNat].toNat : Int) ≤ 255 := by have := code[a.toNat].toNat_lt; omega
    generalize (code[a.toNat].toNat : Int) = c at hget hc
    have w4 := wrap64 (a := c) (by omega) (by omega)
    have w5 := wrap64 (a := s * 31 + c) (by omega) (by omega)
    have w6 := wrap64 (a := s * 31 + c + 7) (by omega) (by omega)
    simp only [go_sem, stepW_iaddr_isl, stepW_iaddr_msl, stepW_idxs, stepK_iaddr_isl, stepK_iaddr_msl, stepK_idxs, ne_eq, ↓reduceIte]
    refine W_drawW ?_
    simp only [w2, w3, w4, w5, w6, ha2, ha3, hget, go_sem, stepW_iaddr_isl, stepW_iaddr_msl, stepW_idxs, stepK_iaddr_isl, stepK_iaddr_msl, stepK_idxs, ne_eq, ↓reduceIte]
    refine W_drawW ?_
    simp only [w2, w4, ha2, ha3, hget, go_sem, stepW_iaddr_isl, stepW_iaddr_msl, stepW_idxs, stepK_iaddr_isl, stepK_iaddr_msl, stepK_idxs, ne_eq, ↓reduceIte]
    refine W_retR c79_ok rfl ⟨c, (s * 31 + c + 7).tmod 2147483648, hc.1, hc.2, (tmod_in (by omega) (by omega)).1, (tmod_in (by omega) (by omega)).2, rfl, rfl⟩
  · simp only [go_sem, stepW_iaddr_isl, stepW_iaddr_msl, stepW_idxs, stepK_iaddr_isl, stepK_iaddr_msl, stepK_idxs, ne_eq, ↓reduceIte]
    refine iteW_of (fun h => ?_) (fun h => ?_)
    · simp only [go_sem, stepW_iaddr_isl, stepW_iaddr_msl, stepW_idxs, stepK_iaddr_isl, stepK_iaddr_msl, stepK_idxs, ne_eq, ↓reduceIte]
      exact W_retR c79_ok rfl ⟨0, s, by omega, by omega, hs.1, hs.2, rfl, rfl⟩
    · have w4 := wrap64 (a := s * 1103515245) (by omega) (by omega)
      have w5 := wrap64 (a := s * 1103515245 + 12345) (by omega) (by omega)
      simp only [w4, w5, go_sem, stepW_iaddr_isl, stepW_iaddr_msl, stepW_idxs, stepK_iaddr_isl, stepK_iaddr_msl, stepK_idxs, ne_eq, ↓reduceIte]
      have hq : 0 ≤ (s * 1103515245 + 12345).tmod 2147483648 ∧ (s * 1103515245 + 12345).tmod 2147483648 < 2147483648 := tmod_in (by omega) (by omega)
      have hd : ((s * 1103515245 + 12345).tmod 2147483648).tdiv 65536 = ((s * 1103515245 + 12345).tmod 2147483648) / 65536 := Int.tdiv_eq_ediv_of_nonneg hq.1
      have w6 := wrap64 (a := ((s * 1103515245 + 12345).tmod 2147483648).tdiv 65536) (by omega) (by omega)
      simp only [w6]
      refine W_retR c79_ok rfl ⟨_, _, (tmod_in (by omega) (by omega)).1, by have := (tmod_in (a := ((s * 1103515245 + 12345).tmod 2147483648).tdiv 65536) (n := 256) (by omega) (by omega)).2; omega, hq.1, hq.2, rfl, rfl⟩

/-- One of 0 to n - 1. -/
theorem next_ok {b : Nat} {ex : Bool} {code : List UInt8} {a s n : Int} (hb : σ b = some (srcC ex code a s)) (ha : 0 ≤ a ∧ a ≤ 1152921504606846976) (hs : 0 ≤ s ∧ s < 2147483648) :
    ACalls Tryd.prog Γ 55 [.ptr b 0, .int .i64 n] σ fun r σ' => ∃ v a' s', 0 ≤ v ∧ (n ≤ 1 → v = 0) ∧ (1 ≤ n → v < n) ∧ a ≤ a' ∧ a' ≤ a + 3 ∧ 0 ≤ s' ∧ s' < 2147483648 ∧ r = .int .i64 v ∧ σ' = upd σ b (srcC ex code a' s') := by
  refine acalls_W c55_ok rfl ?_
  simp only [c55, go_sem, stepW_iaddr_isl, stepW_iaddr_msl, stepW_idxs, stepK_iaddr_isl, stepK_iaddr_msl, stepK_idxs, ne_eq, ↓reduceIte]
  refine iteW_of (fun h => ?_) (fun h => ?_)
  · simp only [go_sem, stepW_iaddr_isl, stepW_iaddr_msl, stepW_idxs, stepK_iaddr_isl, stepK_iaddr_msl, stepK_idxs, ne_eq, ↓reduceIte]
    simp only [decide_eq_true_eq] at h
    refine W_retR c55_ok rfl ⟨0, a, s, by omega, fun _ => rfl, by omega, by omega, by omega, hs.1, hs.2, rfl, (upd_self σ hb).symm⟩
  · simp only [go_sem, stepW_iaddr_isl, stepW_iaddr_msl, stepW_idxs, stepK_iaddr_isl, stepK_iaddr_msl, stepK_idxs, ne_eq, ↓reduceIte]
    simp only [decide_eq_false_iff_not] at h
    refine iteW_of (fun h2 => ?_) (fun h2 => ?_)
    · simp only [go_sem, stepW_iaddr_isl, stepW_iaddr_msl, stepW_idxs, stepK_iaddr_isl, stepK_iaddr_msl, stepK_idxs, ne_eq, ↓reduceIte]
      refine SRun.callQ (byte_ok hb (by omega) hs) ⟨[], rfl, rfl⟩ rfl ?_
      rintro r σ' ⟨v, s', h1, h2, h3, h4, rfl, rfl⟩
      simp only [go_sem, stepW_iaddr_isl, stepW_iaddr_msl, stepW_idxs, stepK_iaddr_isl, stepK_iaddr_msl, stepK_idxs, ne_eq, ↓reduceIte]
      rw [if_pos (by omega)]
      exact W_retR c55_ok rfl ⟨v.tmod n, a + 1, s', Int.tmod_nonneg _ h1, by omega, fun _ => Int.tmod_lt_of_pos _ (by omega), by omega, by omega, h3, h4, rfl, rfl⟩
    · simp only [go_sem, stepW_iaddr_isl, stepW_iaddr_msl, stepW_idxs, stepK_iaddr_isl, stepK_iaddr_msl, stepK_idxs, ne_eq, ↓reduceIte]
      refine SRun.callQ (byte_ok hb (by omega) hs) ⟨[], rfl, rfl⟩ rfl ?_
      rintro r σ' ⟨v, s', h1, h2, h3, h4, rfl, rfl⟩
      simp only [go_sem, stepW_iaddr_isl, stepW_iaddr_msl, stepW_idxs, stepK_iaddr_isl, stepK_iaddr_msl, stepK_idxs, ne_eq, ↓reduceIte]
      refine SRun.callQ (byte_ok (upd_same _ _ _) (by omega) ⟨h3, h4⟩) ⟨[], rfl, rfl⟩ rfl ?_
      rintro r σ' ⟨v2, s2, k1, k2, k3, k4, rfl, rfl⟩
      simp only [go_sem, stepW_iaddr_isl, stepW_iaddr_msl, stepW_idxs, stepK_iaddr_isl, stepK_iaddr_msl, stepK_idxs, ne_eq, ↓reduceIte]
      refine SRun.callQ (byte_ok (upd_same _ _ _) (by omega) ⟨k3, k4⟩) ⟨[], rfl, rfl⟩ rfl ?_
      rintro r σ' ⟨v3, s3, l1, l2, l3, l4, rfl, rfl⟩
      have w1 := wrap64 (a := v * 65536) (by omega) (by omega)
      have w2 := wrap64 (a := v2 * 256) (by omega) (by omega)
      have w3 := wrap64 (a := v * 65536 + v2 * 256) (by omega) (by omega)
      have w4 := wrap64 (a := v * 65536 + v2 * 256 + v3) (by omega) (by omega)
      simp only [w1, w2, w3, w4, go_sem, stepW_iaddr_isl, stepW_iaddr_msl, stepW_idxs, stepK_iaddr_isl, stepK_iaddr_msl, stepK_idxs, ne_eq, ↓reduceIte]
      rw [if_pos (by omega)]
      exact W_retR c55_ok rfl ⟨_, a + 1 + 1 + 1, s3, Int.tmod_nonneg _ (by omega), by omega, fun _ => Int.tmod_lt_of_pos _ (by omega), by omega, by omega, l3, l4, rfl, rfl⟩

theorem chance_ok {b : Nat} {ex : Bool} {code : List UInt8} {a s n : Int} (hb : σ b = some (srcC ex code a s)) (ha : 0 ≤ a ∧ a ≤ 1152921504606846976) (hs : 0 ≤ s ∧ s < 2147483648) (hn : -1000000 ≤ n ∧ n ≤ 1000000) :
    ACalls Tryd.prog Γ 72 [.ptr b 0, .int .i64 n] σ fun r σ' => ∃ v a' s', a ≤ a' ∧ a' ≤ a + 3 ∧ 0 ≤ s' ∧ s' < 2147483648 ∧ r = .bool v ∧ σ' = upd σ b (srcC ex code a' s') := by
  refine acalls_W c72_ok rfl ?_
  have w1 := wrap64 (a := n - 1) (by omega) (by omega)
  simp only [c72, go_sem, stepW_iaddr_isl, stepW_iaddr_msl, stepW_idxs, stepK_iaddr_isl, stepK_iaddr_msl, stepK_idxs, ne_eq, ↓reduceIte]
  refine SRun.callQ (next_ok hb ha hs) ⟨[], rfl, rfl⟩ rfl ?_
  rintro r σ' ⟨v, a', s', h1, _, _, h2, h3, h4, h5, rfl, rfl⟩
  simp only [w1, go_sem, stepW_iaddr_isl, stepW_iaddr_msl, stepW_idxs, stepK_iaddr_isl, stepK_iaddr_msl, stepK_idxs, ne_eq, ↓reduceIte]
  exact W_retR c72_ok rfl ⟨_, a', s', h2, h3, h4, h5, rfl, rfl⟩

theorem size_ok {b : Nat} {ex : Bool} {code : List UInt8} {a s n : Int} (hb : σ b = some (srcC ex code a s)) (hl : code.length ≤ 140737488355328) :
    Ret Tryd.prog Γ 56 [.ptr b 0, .int .i64 n] σ (.int .i64 (min (1 + (code.length : Int) / 12) n)) σ := by
  refine ret_of c56_ok rfl ?_
  have hd : (code.length : Int).tdiv 12 = (code.length : Int) / 12 := Int.tdiv_eq_ediv_of_nonneg (by omega)
  have w0 := wrap64 (a := (code.length : Int).tdiv 12) (by omega) (by omega)
  have w1 := wrap64 (a := 1 + (code.length : Int).tdiv 12) (by omega) (by omega)
  simp only [c56, hb, srcC, codeV, w0, w1, go_sem, stepW_iaddr_isl, stepW_iaddr_msl, stepW_idxs, stepK_iaddr_isl, stepK_iaddr_msl, stepK_idxs, ne_eq, ↓reduceIte]
  refine W_retR c56_ok rfl ⟨?_, rfl⟩
  simp only [look, ↓reduceIte]
  congr 1
  rw [Int.tdiv_eq_ediv_of_nonneg (by omega)]
  split <;> omega

/-- Literals of some variables. -/
def litsIn (vars : Int) (xs : List Int) : Prop := ∀ x ∈ xs, x ≠ 0 ∧ -vars ≤ x ∧ x ≤ vars
theorem clause_ok {b : Nat} {ex : Bool} {code : List UInt8} {a s vars n : Int} (hb : σ b = some (srcC ex code a s)) (ha : 0 ≤ a ∧ a ≤ 1000000000000) (hs : 0 ≤ s ∧ s < 2147483648) (hv : 0 ≤ vars ∧ vars ≤ 1000) (hn : 0 ≤ n ∧ n ≤ 1000) :
    ACalls Tryd.prog Γ 57 [.ptr b 0, .int .i64 vars, .int .i64 n] σ fun r σ' => ∃ xs a' s', (xs.length : Int) ≤ n ∧ (1 ≤ vars → (xs.length : Int) = n) ∧ litsIn vars xs ∧ a ≤ a' ∧ a' ≤ a + 6 * n ∧ 0 ≤ s' ∧ s' < 2147483648 ∧ OwnS (upd σ b (srcC ex code a' s')) 1 (ints xs) xs.length r σ' := by
  refine acalls_W c57_ok rfl ?_
  simp only [c57, List.replicate_zero, go_sem, stepW_iaddr_isl, stepW_iaddr_msl, stepW_idxs, stepK_iaddr_isl, stepK_iaddr_msl, stepK_idxs, ne_eq, ↓reduceIte]
  refine W_loopR (fun m T σ' => ∃ (i : Nat) (xs : List Int) (a' s' : Int), (i : Int) + m = n ∧ look T 0 = .ptr b 0 ∧ look T 1 = .int .i64 vars ∧ look T 2 = .int .i64 n ∧ look T 8 = .int .i64 i ∧ xs.length = i ∧ (1 ≤ i → 1 ≤ vars) ∧ litsIn vars xs ∧ a ≤ a' ∧ a' ≤ a + 6 * i ∧ 0 ≤ s' ∧ s' < 2147483648 ∧ OwnS (upd σ b (srcC ex code a' s')) 1 (ints xs) xs.length (look T 7) σ') n.toNat ?_ ?_
  · refine ⟨0, [], a, s, (by omega), rfl, rfl, rfl, rfl, rfl, (by omega), (fun x hx => by cases hx), (by omega), (by omega), hs.1, hs.2, ?_⟩
    rw [upd_self σ hb]; exact OwnS.nil _ _
  · rintro m T σ' ih ⟨i, xs, a', s', hm, h0, h1, h2, h8, hx, hi, hl, ha1, ha2, hs1, hs2, ho⟩
    simp only [h0, h1, h2, h8, go_sem, stepW_iaddr_isl, stepW_iaddr_msl, stepW_idxs, stepK_iaddr_isl, stepK_iaddr_msl, stepK_idxs, ne_eq, ↓reduceIte]
    refine guardW_of (fun h => ?_) (fun h => ?_)
    · simp only [h, h1, go_sem, stepW_iaddr_isl, stepW_iaddr_msl, stepW_idxs, stepK_iaddr_isl, stepK_iaddr_msl, stepK_idxs, ne_eq, ↓reduceIte]
      have h' := of_decide_eq_true h
      refine iteW_of (fun h3 => ?_) (fun h3 => ?_)
      · simp only [h0, h1, h2, go_sem, stepW_iaddr_isl, stepW_iaddr_msl, stepW_idxs, stepK_iaddr_isl, stepK_iaddr_msl, stepK_idxs, ne_eq, ↓reduceIte]
        have h3' := of_decide_eq_true h3
        refine SRun.callQ (next_ok (ho.get (upd_same _ _ _)) (by omega) ⟨hs1, hs2⟩) ⟨[], rfl, rfl⟩ rfl ?_
        rintro r σ2 ⟨v, a2, s2, k1, k2, k3, k4, k5, k6, k7, rfl, rfl⟩
        have w1 := wrap64 (a := 1 + v) (by omega) (by omega)
        simp only [h0, h1, h2, w1, go_sem, stepW_iaddr_isl, stepW_iaddr_msl, stepW_idxs, stepK_iaddr_isl, stepK_iaddr_msl, stepK_idxs, ne_eq, ↓reduceIte]
        have ho2 := ho.upd (c' := srcC ex code a2 s2) (upd_same _ _ _)
        rw [upd_upd] at ho2
        refine SRun.callQ (chance_ok (ho2.get (upd_same _ _ _)) (by omega) ⟨k6, k7⟩ (by omega)) ⟨[], rfl, rfl⟩ rfl ?_
        rintro r σ3 ⟨u, a3, s3, l1, l2, l3, l4, rfl, rfl⟩
        simp only [go_sem, stepW_iaddr_isl, stepW_iaddr_msl, stepW_idxs, stepK_iaddr_isl, stepK_iaddr_msl, stepK_idxs, ne_eq, ↓reduceIte]
        have ho3 := ho2.upd (c' := srcC ex code a3 s3) (upd_same _ _ _)
        rw [upd_upd, upd_upd] at ho3
        have w2 := wrap64 (a := 0 - (1 + v)) (by omega) (by omega)
        have w3 := wrap64 (a := (i : Int) + 1) (by omega) (by omega)
        refine iteW_of (fun hu => ?_) (fun hu => ?_)
        all_goals
          simp only [w2, go_sem, stepW_iaddr_isl, stepW_iaddr_msl, stepW_idxs, stepK_iaddr_isl, stepK_iaddr_msl, stepK_idxs, ne_eq, ↓reduceIte]
          refine SRun.appO ho3 src_i rfl (by omega) ?_
          intro r σ4 ho4
          rw [ints_app] at ho4
          simp only [h8, w3, go_sem, stepW_iaddr_isl, stepW_iaddr_msl, stepW_idxs, stepK_iaddr_isl, stepK_iaddr_msl, stepK_idxs, ne_eq, ↓reduceIte]
          refine ih (m - 1) _ _ (by omega) ⟨i + 1, xs ++ [_], a3, s3, (by omega), ?_, ?_, ?_, ?_, (by simp [hx]), (by omega), ?_, (by omega), (by omega), l3, l4, by rw [List.length_append]; exact ho4⟩
          · simp only [go_sem, stepW_iaddr_isl, stepW_iaddr_msl, stepW_idxs, stepK_iaddr_isl, stepK_iaddr_msl, stepK_idxs, ne_eq, ↓reduceIte]; exact h0
          · simp only [go_sem, stepW_iaddr_isl, stepW_iaddr_msl, stepW_idxs, stepK_iaddr_isl, stepK_iaddr_msl, stepK_idxs, ne_eq, ↓reduceIte]; exact h1
          · simp only [go_sem, stepW_iaddr_isl, stepW_iaddr_msl, stepW_idxs, stepK_iaddr_isl, stepK_iaddr_msl, stepK_idxs, ne_eq, ↓reduceIte]; exact h2
          · simp only [go_sem, stepW_iaddr_isl, stepW_iaddr_msl, stepW_idxs, stepK_iaddr_isl, stepK_iaddr_msl, stepK_idxs, ne_eq, ↓reduceIte]; rfl
          · intro x hx
            rcases List.mem_append.1 hx with hx | hx
            · exact hl x hx
            · simp only [List.mem_singleton] at hx
              omega
      · simp only [go_sem, stepW_iaddr_isl, stepW_iaddr_msl, stepW_idxs, stepK_iaddr_isl, stepK_iaddr_msl, stepK_idxs, ne_eq, ↓reduceIte]
        have h3' := of_decide_eq_false h3
        exact W_retR c57_ok rfl ⟨xs, a', s', by omega, by omega, hl, ha1, by omega, hs1, hs2, ho⟩
    · simp only [h, go_sem, stepW_iaddr_isl, stepW_iaddr_msl, stepW_idxs, stepK_iaddr_isl, stepK_iaddr_msl, stepK_idxs, ne_eq, ↓reduceIte]
      have h' := of_decide_eq_false h
      exact W_retR c57_ok rfl ⟨xs, a', s', by omega, by omega, hl, ha1, by omega, hs1, hs2, ho⟩
/-- A clause that is given up. -/
theorem clause_frz {b : Nat} {ex : Bool} {code : List UInt8} {a s vars n : Int} (hb : σ b = some (srcC ex code a s)) (ha : 0 ≤ a ∧ a ≤ 1000000000000) (hs : 0 ≤ s ∧ s < 2147483648) (hv : 0 ≤ vars ∧ vars ≤ 1000) (hn : 0 ≤ n ∧ n ≤ 1000) :
    ACalls Tryd.prog Γ 57 [.ptr b 0, .int .i64 vars, .int .i64 n] σ fun r σ' => ∃ xs a' s', (xs.length : Int) ≤ n ∧ (1 ≤ vars → (xs.length : Int) = n) ∧ litsIn vars xs ∧ a ≤ a' ∧ a' ≤ a + 6 * n ∧ 0 ≤ s' ∧ s' < 2147483648 ∧ r = intsV xs ∧ σ' = upd σ b (srcC ex code a' s') :=
  (clause_ok hb ha hs hv hn).conv fun r σ' ⟨xs, a', s', h1, h2, h3, h4, h5, h6, h7, ho⟩ => ⟨_, _, ho.conv (ints_one xs), xs, a', s', h1, h2, h3, h4, h5, h6, h7, rfl, rfl⟩
/-- A formula that is given up. -/
def clsV (cls : List (List Int)) : List V := cls.map intsV
def cnfV (vars : Int) (cls : List (List Int)) : V := .agg [.int .i64 vars, .isl false 1 (clsV cls)]
theorem clsV_one (cls : List (List Int)) : ∀ c ∈ clsV cls, c.one = true := by
  intro c hc; simp only [clsV, List.mem_map] at hc; obtain ⟨x, _, rfl⟩ := hc; rfl
/-- The formulas that are drawn. -/
def Drawn (vars : Int) (cls : List (List Int)) : Prop := 1 ≤ vars ∧ vars ≤ 6 ∧ cls.length ≤ 16 ∧ ∀ c ∈ cls, c.length ≤ 3 ∧ litsIn vars c
theorem cnf_ok {b : Nat} {ex : Bool} {code : List UInt8} {a s : Int} (hb : σ b = some (srcC ex code a s)) (ha : 0 ≤ a ∧ a ≤ 100000000000) (hs : 0 ≤ s ∧ s < 2147483648) (hl : code.length ≤ 140737488355328) :
    ACalls Tryd.prog Γ 27 [.ptr b 0] σ fun r σ' => ∃ vars cls a' s', Drawn vars cls ∧ a ≤ a' ∧ a' ≤ a + 1000 ∧ 0 ≤ s' ∧ s' < 2147483648 ∧ r = cnfV vars cls ∧ σ' = upd σ b (srcC ex code a' s') := by
  refine acalls_W c27_ok rfl ?_
  simp only [c27, go_sem, stepW_iaddr_isl, stepW_iaddr_msl, stepW_idxs, stepK_iaddr_isl, stepK_iaddr_msl, stepK_idxs, ne_eq, ↓reduceIte]
  refine SRun.allocR ?_
  intro b2 hb2
  have e2 : b2 ≠ b := fun e => by subst e; rw [hb] at hb2; cases hb2
  have g2 : upd σ b2 [.int .i64 0, .isl true 0 []] b = some (srcC ex code a s) := le_upd hb2 _ _ hb
  simp only [go_sem, stepW_iaddr_isl, stepW_iaddr_msl, stepW_idxs, stepK_iaddr_isl, stepK_iaddr_msl, stepK_idxs, ne_eq, ↓reduceIte]
  refine SRun.callQ (next_ok g2 (by omega) hs) ⟨[], rfl, rfl⟩ rfl ?_
  rintro r σ2 ⟨v, a2, s2, k1, k2, k3, k4, k5, k6, k7, rfl, rfl⟩
  have w1 := wrap64 (a := 1 + v) (by omega) (by omega)
  simp only [w1, go_sem, stepW_iaddr_isl, stepW_iaddr_msl, stepW_idxs, stepK_iaddr_isl, stepK_iaddr_msl, stepK_idxs, ne_eq, ↓reduceIte]
  refine SRun.allocR ?_
  intro b3 hb3
  have e3 : b3 ≠ b := fun e => by subst e; rw [upd_same] at hb3; cases hb3
  have e32 : b3 ≠ b2 := fun e => by subst e; rw [upd_ne _ _ e2, upd_same] at hb3; cases hb3
  simp only [go_sem, stepW_iaddr_isl, stepW_iaddr_msl, stepW_idxs, stepK_iaddr_isl, stepK_iaddr_msl, stepK_idxs, ne_eq, ↓reduceIte]
  have g3 : ∀ c, upd (upd (upd σ b2 [.int .i64 0, .isl true 0 []]) b (srcC ex code a2 s2)) b3 c b = some (srcC ex code a2 s2) := fun c => by rw [upd_ne _ _ e3.symm, upd_same]
  refine SRun.callR (size_ok (g3 _) hl) ⟨[], rfl, rfl⟩ rfl ?_
  have w2 := wrap64 (a := min (1 + (code.length : Int) / 12) 14 + 3) (by omega) (by omega)
  simp only [w2, go_sem, stepW_iaddr_isl, stepW_iaddr_msl, stepW_idxs, stepK_iaddr_isl, stepK_iaddr_msl, stepK_idxs, ne_eq, ↓reduceIte]
  refine SRun.callQ (next_ok (g3 _) (by omega) ⟨k6, k7⟩) ⟨[], rfl, rfl⟩ rfl ?_
  rintro r σ2 ⟨v3, a3, s3, l1, l2, l3, l4, l5, l6, l7, rfl, rfl⟩
  simp only [go_sem, stepW_iaddr_isl, stepW_iaddr_msl, stepW_idxs, stepK_iaddr_isl, stepK_iaddr_msl, stepK_idxs, ne_eq, ↓reduceIte]
  have hv17 : v3 < 17 := by
    have := l3 (by omega)
    omega
  clear l2 l3
  generalize hz2 : upd σ b2 [.int .i64 0, .isl true 0 []] = σa
  have ga : σa b = some (srcC ex code a s) := by rw [← hz2]; exact g2
  refine W_loopR (fun m T σ' => ∃ (cls : List (List Int)) (a' s' : Int) (q : V), (m : Int) + cls.length = v3 ∧ look T 0 = .ptr b 0 ∧ look T 3 = .ptr b3 0 ∧ look T 2 = .ptr b2 0 ∧ look T 4 = .int .i64 m ∧ (∀ c ∈ cls, c.length ≤ 3 ∧ litsIn (1 + v) c) ∧ a ≤ a' ∧ a' ≤ a + 6 + 21 * cls.length ∧ 0 ≤ s' ∧ s' < 2147483648 ∧ OwnS (upd (upd σa b (srcC ex code a' s')) b3 [.int .i64 (1 + v), q]) 1 (clsV cls) cls.length q σ') v3.toNat ?_ ?_
  · refine ⟨[], a3, s3, .isl true 0 [], (by simp; omega), rfl, rfl, rfl, ?_, (fun c hc => by cases hc), (by omega), (by simp; omega), l6, l7, ?_⟩
    · simp only [go_sem, stepW_iaddr_isl, stepW_iaddr_msl, stepW_idxs, stepK_iaddr_isl, stepK_iaddr_msl, stepK_idxs, ne_eq, ↓reduceIte]; congr 1; omega
    · rw [upd_comm (upd σa b (srcC ex code a2 s2)) e3, upd_upd]; exact OwnS.nil _ _
  · rintro m T σ' ih ⟨cls, a', s', q, hm, h0, h3, h2, h4, hcl, ha1, ha2, hs1, hs2, ho⟩
    simp only [h0, h3, h4, go_sem, stepW_iaddr_isl, stepW_iaddr_msl, stepW_idxs, stepK_iaddr_isl, stepK_iaddr_msl, stepK_idxs, ne_eq, ↓reduceIte]
    refine iteW_of (fun h => ?_) (fun h => ?_)
    · simp only [go_sem, stepW_iaddr_isl, stepW_iaddr_msl, stepW_idxs, stepK_iaddr_isl, stepK_iaddr_msl, stepK_idxs, ne_eq, ↓reduceIte]
      have h' := of_decide_eq_true h
      have gb3 := ho.get (upd_same _ b3 _)
      have gb := ho.get (b := b) (c := srcC ex code a' s') (by rw [upd_ne _ _ e3.symm, upd_same])
      rw [W_draw]
      refine DRun.start (DRun.mix1 gb rfl ?_)
      have h16 : cls.length ≤ 16 := by omega
      have gd3 : del σ' b b3 = some [.int .i64 (1 + v), q] := by rw [del_ne _ e3]; exact gb3
      simp only [h0, h3, h4, gd3, go_sem, stepW_iaddr_isl, stepW_iaddr_msl, stepW_idxs, stepK_iaddr_isl, stepK_iaddr_msl, stepK_idxs, ne_eq, ↓reduceIte]
      refine DS.callQ (next_ok (upd_same emp b (srcC ex code a' s')) (by omega) ⟨hs1, hs2⟩) ⟨[], rfl, rfl⟩ rfl ?_
      rintro r sx ⟨v4, a4, s4, p1, p2, p3, p4, p5, p6, p7, rfl, rfl⟩ _
      have hget : ∃ w, 0 ≤ w ∧ w ≤ 3 ∧ [V.int IntKind.i64 2, .int .i64 3, .int .i64 1, .int .i64 2, .int .i64 3, .int .i64 0, .int .i64 3][v4.toNat]? = some (.int .i64 w) := by
        obtain ⟨u, rfl⟩ : ∃ u : Nat, v4 = u := ⟨v4.toNat, by omega⟩
        rw [Int.toNat_natCast]
        have : u < 7 := by omega
        match u, this with
        | 0, _ => exact ⟨2, by omega, by omega, rfl⟩
        | 1, _ => exact ⟨3, by omega, by omega, rfl⟩
        | 2, _ => exact ⟨1, by omega, by omega, rfl⟩
        | 3, _ => exact ⟨2, by omega, by omega, rfl⟩
        | 4, _ => exact ⟨3, by omega, by omega, rfl⟩
        | 5, _ => exact ⟨0, by omega, by omega, rfl⟩
        | 6, _ => exact ⟨3, by omega, by omega, rfl⟩
      obtain ⟨w, hw0, hw3, hget⟩ := hget
      simp only [h0, h3, h4, gd3, p1, hget, go_sem, stepW_iaddr_isl, stepW_iaddr_msl, stepW_idxs, stepK_iaddr_isl, stepK_iaddr_msl, stepK_idxs, ne_eq, ↓reduceIte]
      refine DS.callQ (clause_frz (upd_same emp b (srcC ex code a4 s4)) (by omega) ⟨p6, p7⟩ (by omega) (by omega)) ⟨[], rfl, rfl⟩ rfl ?_
      rintro r sx ⟨xs, a5, s5, q1, q2, q3, q4, q5, q6, q7, rfl, rfl⟩ _
      simp only [intsV, go_sem, stepW_iaddr_isl, stepW_iaddr_msl, stepW_idxs, stepK_iaddr_isl, stepK_iaddr_msl, stepK_idxs, ne_eq, ↓reduceIte]
      refine ⟨_, rfl, ?_⟩
      have ho2 := ho.upd (b := b) (c := srcC ex code a' s') (c' := srcC ex code a5 s5) (by rw [upd_ne _ _ e3.symm, upd_same])
      rw [upd_comm (upd σa b _) e3, upd_upd] at ho2
      refine DRun.appO ho2 src_s rfl (by omega) ?_
      intro r σ4 ho4
      have hap : clsV cls ++ [.isl false 1 (ints xs)] = clsV (cls ++ [xs]) := by simp [clsV, intsV]
      rw [hap] at ho4
      have gb4 := ho4.get (upd_same _ b3 _)
      have w5 := wrap64 (a := (m : Int) - 1) (by omega) (by omega)
      have hr1 := ho4.one
      simp only [h0, h3, h4, gb4, w5, hr1.1, hr1.2, go_sem, stepW_iaddr_isl, stepW_iaddr_msl, stepW_idxs, stepK_iaddr_isl, stepK_iaddr_msl, stepK_idxs, ne_eq, ↓reduceIte]
      have ho5 := ho4.upd (c' := [.int .i64 (1 + v), r]) (upd_same _ b3 _)
      rw [upd_upd] at ho5
      refine ih (m - 1) _ _ (by omega) ⟨cls ++ [xs], a5, s5, r, (by simp; omega), ?_, ?_, ?_, ?_, ?_, (by omega), (by simp; omega), q6, q7, by rw [List.length_append]; exact ho5⟩
      · simp only [go_sem, stepW_iaddr_isl, stepW_iaddr_msl, stepW_idxs, stepK_iaddr_isl, stepK_iaddr_msl, stepK_idxs, ne_eq, ↓reduceIte]; exact h0
      · simp only [go_sem, stepW_iaddr_isl, stepW_iaddr_msl, stepW_idxs, stepK_iaddr_isl, stepK_iaddr_msl, stepK_idxs, ne_eq, ↓reduceIte]; exact h3
      · simp only [go_sem, stepW_iaddr_isl, stepW_iaddr_msl, stepW_idxs, stepK_iaddr_isl, stepK_iaddr_msl, stepK_idxs, ne_eq, ↓reduceIte]; exact h2
      · simp only [go_sem, stepW_iaddr_isl, stepW_iaddr_msl, stepW_idxs, stepK_iaddr_isl, stepK_iaddr_msl, stepK_idxs, ne_eq, ↓reduceIte]; congr 1; omega
      · intro c hc
        rcases List.mem_append.1 hc with hc | hc
        · exact hcl c hc
        · simp only [List.mem_singleton] at hc
          subst hc
          exact ⟨by omega, q3⟩
    · simp only [go_sem, stepW_iaddr_isl, stepW_iaddr_msl, stepW_idxs, stepK_iaddr_isl, stepK_iaddr_msl, stepK_idxs, ne_eq, ↓reduceIte]
      have h' := of_decide_eq_false h
      have gb3 := ho.get (upd_same _ b3 _)
      have gb2 := ho.get (b := b2) (c := [.int .i64 0, .isl true 0 []]) (by rw [upd_ne _ _ e32.symm, upd_ne _ _ e2, ← hz2, upd_same])
      have hr1 := ho.one.2
      simp only [h3, h2, gb3, gb2, hr1, go_sem, stepW_iaddr_isl, stepW_iaddr_msl, stepW_idxs, stepK_iaddr_isl, stepK_iaddr_msl, stepK_idxs, ne_eq, ↓reduceIte]
      refine W_retC c27_ok (r := .agg [.int .i64 (1 + v), q]) (σ' := upd σ b (srcC ex code a' s')) (r' := cnfV (1 + v) cls) ?_ ?_ ⟨1 + v, cls, a', s', ⟨by omega, by omega, by omega, hcl⟩, by omega, by omega, hs1, hs2, rfl, rfl⟩
      · exact resV_cellA (by simp only [go_sem, stepW_iaddr_isl, stepW_iaddr_msl, stepW_idxs, stepK_iaddr_isl, stepK_iaddr_msl, stepK_idxs, ne_eq, ↓reduceIte]; exact h2) (upd_same _ _ _) rfl
      · have hnone : ∀ c, upd (upd σa b (srcC ex code a' s')) b3 [.int .i64 (1 + v), q] c = none → c ≠ b ∧ c ≠ b2 ∧ σ c = none := by
          intro c hc
          rw [upd_none, upd_none, ← hz2, upd_none] at hc
          exact ⟨hc.2.1, hc.2.2.1, hc.2.2.2⟩
        have hσ3 : σ b3 = none := by
          rw [upd_none, hz2, ← hz2, upd_none] at hb3
          exact hb3.2.2
        refine ⟨fun c x hc => ?_, .agg _ _ rfl ?_ ?_⟩
        · have hcb2 : c ≠ b2 := fun e => by subst e; rw [upd_ne _ _ e2, hb2] at hc; cases hc
          rw [upd_ne _ _ hcb2]
          refine ho.get ?_
          have hcb3 : c ≠ b3 := fun e => by subst e; rw [upd_ne _ _ e3, hσ3] at hc; cases hc
          rw [upd_ne _ _ hcb3]
          by_cases hcb : c = b
          · subst hcb; rw [upd_same] at hc ⊢; exact hc
          · rw [upd_ne _ _ hcb] at hc ⊢; rw [← hz2, upd_ne _ _ hcb2]; exact hc
        · intro i x hx
          match i with
          | 0 => simp at hx; subst hx; rfl
          | 1 => simp at hx; subst hx; rfl
          | i + 2 => simp at hx
        · intro i x y hy hx
          match i with
          | 0 => simp at hx hy; subst hx hy; exact .refl _
          | 1 =>
            simp at hx hy; subst hx hy
            exact ho.frz (clsV_one cls) (fun c hc => upd_ne _ _ (hnone c hc).2.1) (fun c hc => upd_none.2 ⟨(hnone c hc).1, (hnone c hc).2.2⟩)
          | i + 2 => simp at hx
theorem source_ok {ex : Bool} {code : List UInt8} (hl : code.length ≤ 140737488355328) :
    ACalls Tryd.prog Γ 26 [codeV ex code] σ fun r σ' => ∃ b s, σ b = none ∧ 0 ≤ s ∧ s < 2147483648 ∧ r = .ptr b 0 ∧ σ' = upd σ b (srcC ex code 0 s) := by
  refine acalls_W c26_ok rfl ?_
  simp only [c26, codeV, go_sem, stepW_iaddr_isl, stepW_iaddr_msl, stepW_idxs, stepK_iaddr_isl, stepK_iaddr_msl, stepK_idxs, ne_eq, ↓reduceIte]
  refine SRun.boxR (by simp [ev, look, V.cells, V.one]) ?_
  intro b hb
  simp only [go_sem, stepW_iaddr_isl, stepW_iaddr_msl, stepW_idxs, stepK_iaddr_isl, stepK_iaddr_msl, stepK_idxs, ne_eq, ↓reduceIte]
  have h1 := tmod_in (a := (code.length : Int)) (n := 1000) (by omega) (by omega)
  exact W_retR c26_ok rfl ⟨b, _, hb, h1.1, by omega, rfl, rfl⟩
theorem cnfOf_ok {ex : Bool} {code : List UInt8} (hl : code.length ≤ 140737488355328) :
    ACalls Tryd.prog Γ 7 [codeV ex code] σ fun r σ' => ∃ vars cls, Drawn vars cls ∧ r = cnfV vars cls ∧ σ' = σ := by
  refine acalls_W c7_ok rfl ?_
  simp only [c7, go_sem, stepW_iaddr_isl, stepW_iaddr_msl, stepW_idxs, stepK_iaddr_isl, stepK_iaddr_msl, stepK_idxs, ne_eq, ↓reduceIte]
  refine SRun.allocR ?_
  intro b2 hb2
  simp only [go_sem, stepW_iaddr_isl, stepW_iaddr_msl, stepW_idxs, stepK_iaddr_isl, stepK_iaddr_msl, stepK_idxs, ne_eq, ↓reduceIte]
  refine SRun.callQ (source_ok hl) ⟨[], rfl, rfl⟩ rfl ?_
  rintro r σ2 ⟨b, s, hb, h1, h2, rfl, rfl⟩
  have hn := upd_none.1 hb
  simp only [go_sem, stepW_iaddr_isl, stepW_iaddr_msl, stepW_idxs, stepK_iaddr_isl, stepK_iaddr_msl, stepK_idxs, ne_eq, ↓reduceIte]
  refine SRun.callQ (cnf_ok (upd_same _ _ _) (by omega) ⟨h1, h2⟩ hl) ⟨[], rfl, rfl⟩ rfl ?_
  rintro r σ2 ⟨vars, cls, a', s', hd, k1, k2, k3, k4, rfl, rfl⟩
  simp only [cnfV, upd_ne _ _ hn.1.symm, go_sem, stepW_iaddr_isl, stepW_iaddr_msl, stepW_idxs, stepK_iaddr_isl, stepK_iaddr_msl, stepK_idxs, ne_eq, ↓reduceIte]
  refine W_retC c7_ok (r := cnfV vars cls) (r' := cnfV vars cls) (σ' := σ) (resV_cellA rfl (upd_same _ _ _) rfl) (Conv.drop _ fun c x hc => ?_) ⟨vars, cls, hd, rfl, rfl⟩
  have hc2 : c ≠ b2 := fun e => by subst e; rw [hb2] at hc; cases hc
  have hcb : c ≠ b := fun e => by subst e; rw [hn.2] at hc; cases hc
  rw [upd_ne _ _ hc2, upd_ne _ _ hcb, upd_ne _ _ hc2]; exact hc
end
section
attribute [local irreducible] SRun DS DRun
variable {Γ : St} {σ : St}
theorem within_ok (a b c : Int) : Ret Tryd.prog Γ 58 [.int .i64 a, .int .i64 b, .int .i64 c] σ (.bool (decide (b ≤ a) && decide (a ≤ c))) σ := by
  refine ret_of c58_ok rfl ?_
  simp only [c58, go_sem, stepW_iaddr_isl, stepW_iaddr_msl, stepW_idxs, stepK_iaddr_isl, stepK_iaddr_msl, stepK_idxs, ne_eq, ↓reduceIte]
  refine guardW_of (fun h => ?_) (fun h => ?_)
  · have h' := of_decide_eq_true h
    simp only [h, go_sem, stepW_iaddr_isl, stepW_iaddr_msl, stepW_idxs, stepK_iaddr_isl, stepK_iaddr_msl, stepK_idxs, ne_eq, ↓reduceIte]
    exact W_retR c58_ok rfl ⟨rfl, rfl⟩
  · have h' := of_decide_eq_false h
    simp only [h, go_sem, stepW_iaddr_isl, stepW_iaddr_msl, stepW_idxs, stepK_iaddr_isl, stepK_iaddr_msl, stepK_idxs, ne_eq, ↓reduceIte]
    exact W_retR c58_ok rfl ⟨rfl, rfl⟩
def litB (vars x : Int) : Bool := x != 0 && (decide (-vars ≤ x) && decide (x ≤ vars))
theorem isLiteral_ok (x vars : Int) (hv : 0 ≤ vars ∧ vars ≤ 1000000) : Ret Tryd.prog Γ 78 [.int .i64 x, .int .i64 vars] σ (.bool (litB vars x)) σ := by
  refine ret_of c78_ok rfl ?_
  have w1 := wrap64 (a := 0 - vars) (by omega) (by omega)
  simp only [c78, w1, go_sem, stepW_iaddr_isl, stepW_iaddr_msl, stepW_idxs, stepK_iaddr_isl, stepK_iaddr_msl, stepK_idxs, ne_eq, ↓reduceIte]
  refine guardW_of (fun h => ?_) (fun h => ?_)
  · simp only [h, w1, go_sem, stepW_iaddr_isl, stepW_iaddr_msl, stepW_idxs, stepK_iaddr_isl, stepK_iaddr_msl, stepK_idxs, ne_eq, ↓reduceIte]
    refine SRun.callR (within_ok _ _ _) ⟨[], rfl, rfl⟩ rfl ?_
    simp only [h, go_sem, stepW_iaddr_isl, stepW_iaddr_msl, stepW_idxs, stepK_iaddr_isl, stepK_iaddr_msl, stepK_idxs, ne_eq, ↓reduceIte]
    refine W_retR c78_ok rfl ⟨?_, rfl⟩
    simp [litB, h, look]
  · simp only [h, go_sem, stepW_iaddr_isl, stepW_iaddr_msl, stepW_idxs, stepK_iaddr_isl, stepK_iaddr_msl, stepK_idxs, ne_eq, ↓reduceIte]
    refine W_retR c78_ok rfl ⟨?_, rfl⟩
    simp [litB, h, look]
/-- The first of which it is true. -/
theorem indexFuncI_ok {ex : Bool} {xs : List V} {F : FuncId} {caps : List V} {p : V → Bool} (h1 : ∀ x ∈ xs, x.cells = [x]) (hl : xs.length ≤ 140737488355328) (hp : ∀ x ∈ xs, Ret Tryd.prog Γ F (x :: caps) σ (.bool (p x)) σ) :
    Ret Tryd.prog Γ 91 [.isl ex 1 xs, .fn F caps] σ (.int .i64 (match xs.findIdx? p with | some i => (i : Int) | none => -1)) σ := by
  refine ret_of c91_ok rfl ?_
  simp only [c91, go_sem, stepW_iaddr_isl, stepW_iaddr_msl, stepW_idxs, stepK_iaddr_isl, stepK_iaddr_msl, stepK_idxs, ne_eq, ↓reduceIte]
  refine W_loopR (fun m T σ' => ∃ i : Nat, i + m = xs.length ∧ look T 0 = .isl ex 1 xs ∧ look T 1 = .fn F caps ∧ look T 7 = .int .i64 xs.length ∧ look T 8 = .int .i64 i ∧ σ' = σ ∧ (∀ j x, j < i → xs[j]? = some x → p x = false)) xs.length ?_ ?_
  · exact ⟨0, by omega, rfl, rfl, rfl, rfl, rfl, fun j x hj => by omega⟩
  · rintro m T σ' ih ⟨i, hm, h0, h1', h7, h8, rfl, hno⟩
    simp only [h0, h1', h7, h8, go_sem, stepW_iaddr_isl, stepW_iaddr_msl, stepW_idxs, stepK_iaddr_isl, stepK_iaddr_msl, stepK_idxs, ne_eq, ↓reduceIte]
    refine iteW_of (fun h => ?_) (fun h => ?_)
    · have h' := of_decide_eq_true h
      have hlt : i < xs.length := by omega
      have hget : xs[i]? = some xs[i] := by simp [hlt]
      have hmem : xs[i] ∈ xs := List.getElem_mem hlt
      have hcell := h1 _ hmem
      have w1 := wrap64 (a := (i : Int) + 1) (by omega) (by omega)
      have h00 : (0 : Int) ≤ (i : Int) := by omega
      simp only [h0, h1', h7, h8, Int.toNat_natCast, hget, h00, hcell, go_sem, stepW_iaddr_isl, stepW_iaddr_msl, stepW_idxs, stepK_iaddr_isl, stepK_iaddr_msl, stepK_idxs, ne_eq, ↓reduceIte]
      refine SRun.callR (hp _ hmem) ⟨caps, rfl, rfl⟩ rfl ?_
      simp only [go_sem, stepW_iaddr_isl, stepW_iaddr_msl, stepW_idxs, stepK_iaddr_isl, stepK_iaddr_msl, stepK_idxs, ne_eq, ↓reduceIte]
      refine iteW_of (fun hb => ?_) (fun hb => ?_)
      · simp only [go_sem, stepW_iaddr_isl, stepW_iaddr_msl, stepW_idxs, stepK_iaddr_isl, stepK_iaddr_msl, stepK_idxs, ne_eq, ↓reduceIte]
        refine W_retR c91_ok rfl ⟨?_, rfl⟩
        have : xs.findIdx? p = some i := by
          rw [List.findIdx?_eq_some_iff_getElem]
          exact ⟨hlt, hb, fun j hj => by simpa using hno j xs[j] hj (by simp)⟩
        rw [this]; rfl
      · simp only [h8, w1, go_sem, stepW_iaddr_isl, stepW_iaddr_msl, stepW_idxs, stepK_iaddr_isl, stepK_iaddr_msl, stepK_idxs, ne_eq, ↓reduceIte]
        refine ih (m - 1) _ _ (by omega) ⟨i + 1, by omega, ?_, ?_, ?_, rfl, rfl, fun j x hj hx => ?_⟩
        · simp only [go_sem, stepW_iaddr_isl, stepW_iaddr_msl, stepW_idxs, stepK_iaddr_isl, stepK_iaddr_msl, stepK_idxs, ne_eq, ↓reduceIte]; exact h0
        · simp only [go_sem, stepW_iaddr_isl, stepW_iaddr_msl, stepW_idxs, stepK_iaddr_isl, stepK_iaddr_msl, stepK_idxs, ne_eq, ↓reduceIte]; exact h1'
        · simp only [go_sem, stepW_iaddr_isl, stepW_iaddr_msl, stepW_idxs, stepK_iaddr_isl, stepK_iaddr_msl, stepK_idxs, ne_eq, ↓reduceIte]; exact h7
        · by_cases hji : j = i
          · subst hji; rw [hget] at hx; obtain rfl := Option.some.inj hx; exact hb
          · exact hno j x (by omega) hx
    · have h' := of_decide_eq_false h
      simp only [go_sem, stepW_iaddr_isl, stepW_iaddr_msl, stepW_idxs, stepK_iaddr_isl, stepK_iaddr_msl, stepK_idxs, ne_eq, ↓reduceIte]
      refine W_retR c91_ok rfl ⟨?_, rfl⟩
      have : xs.findIdx? p = none := by
        rw [List.findIdx?_eq_none_iff]
        intro x hx
        obtain ⟨j, hj, rfl⟩ := List.getElem_of_mem hx
        exact hno j _ (by omega) (by simp)
      rw [this]; rfl
/-- The first of which it is true. -/
theorem indexFuncL_ok {ex : Bool} {xs : List V} {F : FuncId} {caps : List V} {p : V → Bool} (h1 : ∀ x ∈ xs, x.cells = [x]) (hl : xs.length ≤ 140737488355328) (hp : ∀ x ∈ xs, Ret Tryd.prog Γ F (x :: caps) σ (.bool (p x)) σ) :
    Ret Tryd.prog Γ 80 [.isl ex 1 xs, .fn F caps] σ (.int .i64 (match xs.findIdx? p with | some i => (i : Int) | none => -1)) σ := by
  refine ret_of c80_ok rfl ?_
  simp only [c80, go_sem, stepW_iaddr_isl, stepW_iaddr_msl, stepW_idxs, stepK_iaddr_isl, stepK_iaddr_msl, stepK_idxs, ne_eq, ↓reduceIte]
  refine W_loopR (fun m T σ' => ∃ i : Nat, i + m = xs.length ∧ look T 0 = .isl ex 1 xs ∧ look T 1 = .fn F caps ∧ look T 7 = .int .i64 xs.length ∧ look T 8 = .int .i64 i ∧ σ' = σ ∧ (∀ j x, j < i → xs[j]? = some x → p x = false)) xs.length ?_ ?_
  · exact ⟨0, by omega, rfl, rfl, rfl, rfl, rfl, fun j x hj => by omega⟩
  · rintro m T σ' ih ⟨i, hm, h0, h1', h7, h8, rfl, hno⟩
    simp only [h0, h1', h7, h8, go_sem, stepW_iaddr_isl, stepW_iaddr_msl, stepW_idxs, stepK_iaddr_isl, stepK_iaddr_msl, stepK_idxs, ne_eq, ↓reduceIte]
    refine iteW_of (fun h => ?_) (fun h => ?_)
    · have h' := of_decide_eq_true h
      have hlt : i < xs.length := by omega
      have hget : xs[i]? = some xs[i] := by simp [hlt]
      have hmem : xs[i] ∈ xs := List.getElem_mem hlt
      have hcell := h1 _ hmem
      have w1 := wrap64 (a := (i : Int) + 1) (by omega) (by omega)
      have h00 : (0 : Int) ≤ (i : Int) := by omega
      simp only [h0, h1', h7, h8, Int.toNat_natCast, hget, h00, hcell, go_sem, stepW_iaddr_isl, stepW_iaddr_msl, stepW_idxs, stepK_iaddr_isl, stepK_iaddr_msl, stepK_idxs, ne_eq, ↓reduceIte]
      refine SRun.callR (hp _ hmem) ⟨caps, rfl, rfl⟩ rfl ?_
      simp only [go_sem, stepW_iaddr_isl, stepW_iaddr_msl, stepW_idxs, stepK_iaddr_isl, stepK_iaddr_msl, stepK_idxs, ne_eq, ↓reduceIte]
      refine iteW_of (fun hb => ?_) (fun hb => ?_)
      · simp only [go_sem, stepW_iaddr_isl, stepW_iaddr_msl, stepW_idxs, stepK_iaddr_isl, stepK_iaddr_msl, stepK_idxs, ne_eq, ↓reduceIte]
        refine W_retR c80_ok rfl ⟨?_, rfl⟩
        have : xs.findIdx? p = some i := by
          rw [List.findIdx?_eq_some_iff_getElem]
          exact ⟨hlt, hb, fun j hj => by simpa using hno j xs[j] hj (by simp)⟩
        rw [this]; rfl
      · simp only [h8, w1, go_sem, stepW_iaddr_isl, stepW_iaddr_msl, stepW_idxs, stepK_iaddr_isl, stepK_iaddr_msl, stepK_idxs, ne_eq, ↓reduceIte]
        refine ih (m - 1) _ _ (by omega) ⟨i + 1, by omega, ?_, ?_, ?_, rfl, rfl, fun j x hj hx => ?_⟩
        · simp only [go_sem, stepW_iaddr_isl, stepW_iaddr_msl, stepW_idxs, stepK_iaddr_isl, stepK_iaddr_msl, stepK_idxs, ne_eq, ↓reduceIte]; exact h0
        · simp only [go_sem, stepW_iaddr_isl, stepW_iaddr_msl, stepW_idxs, stepK_iaddr_isl, stepK_iaddr_msl, stepK_idxs, ne_eq, ↓reduceIte]; exact h1'
        · simp only [go_sem, stepW_iaddr_isl, stepW_iaddr_msl, stepW_idxs, stepK_iaddr_isl, stepK_iaddr_msl, stepK_idxs, ne_eq, ↓reduceIte]; exact h7
        · by_cases hji : j = i
          · subst hji; rw [hget] at hx; obtain rfl := Option.some.inj hx; exact hb
          · exact hno j x (by omega) hx
    · have h' := of_decide_eq_false h
      simp only [go_sem, stepW_iaddr_isl, stepW_iaddr_msl, stepW_idxs, stepK_iaddr_isl, stepK_iaddr_msl, stepK_idxs, ne_eq, ↓reduceIte]
      refine W_retR c80_ok rfl ⟨?_, rfl⟩
      have : xs.findIdx? p = none := by
        rw [List.findIdx?_eq_none_iff]
        intro x hx
        obtain ⟨j, hj, rfl⟩ := List.getElem_of_mem hx
        exact hno j _ (by omega) (by simp)
      rw [this]; rfl
theorem any_find {α : Type} (xs : List α) (p : α → Bool) : decide ((match xs.findIdx? p with | some i => (i : Int) | none => -1) ≥ 0) = xs.any p := by
  cases h : xs.findIdx? p with
  | some i =>
    rw [List.findIdx?_eq_some_iff_getElem] at h
    obtain ⟨hi, hp, _⟩ := h
    have : xs.any p = true := List.any_eq_true.2 ⟨_, List.getElem_mem hi, hp⟩
    rw [this]; exact decide_eq_true (by simp only; omega)
  | none =>
    rw [List.findIdx?_eq_none_iff] at h
    have : xs.any p = false := by rw [List.any_eq_false]; intro x hx; simp [h x hx]
    rw [this]; rfl
theorem containsFuncI_ok {ex : Bool} {xs : List V} {F : FuncId} {caps : List V} {p : V → Bool} (h1 : ∀ x ∈ xs, x.cells = [x]) (hl : xs.length ≤ 140737488355328) (hp : ∀ x ∈ xs, Ret Tryd.prog Γ F (x :: caps) σ (.bool (p x)) σ) :
    Ret Tryd.prog Γ 81 [.isl ex 1 xs, .fn F caps] σ (.bool (xs.any p)) σ := by
  refine ret_of c81_ok rfl ?_
  simp only [c81, go_sem, stepW_iaddr_isl, stepW_iaddr_msl, stepW_idxs, stepK_iaddr_isl, stepK_iaddr_msl, stepK_idxs, ne_eq, ↓reduceIte]
  refine SRun.callR (indexFuncI_ok h1 hl hp) ⟨[], rfl, rfl⟩ rfl ?_
  simp only [go_sem, stepW_iaddr_isl, stepW_iaddr_msl, stepW_idxs, stepK_iaddr_isl, stepK_iaddr_msl, stepK_idxs, ne_eq, ↓reduceIte]
  refine W_retR c81_ok rfl ⟨?_, rfl⟩
  simp only [look, ↓reduceIte, any_find]
theorem containsFuncL_ok {ex : Bool} {xs : List V} {F : FuncId} {caps : List V} {p : V → Bool} (h1 : ∀ x ∈ xs, x.cells = [x]) (hl : xs.length ≤ 140737488355328) (hp : ∀ x ∈ xs, Ret Tryd.prog Γ F (x :: caps) σ (.bool (p x)) σ) :
    Ret Tryd.prog Γ 59 [.isl ex 1 xs, .fn F caps] σ (.bool (xs.any p)) σ := by
  refine ret_of c59_ok rfl ?_
  simp only [c59, go_sem, stepW_iaddr_isl, stepW_iaddr_msl, stepW_idxs, stepK_iaddr_isl, stepK_iaddr_msl, stepK_idxs, ne_eq, ↓reduceIte]
  refine SRun.callR (indexFuncL_ok h1 hl hp) ⟨[], rfl, rfl⟩ rfl ?_
  simp only [go_sem, stepW_iaddr_isl, stepW_iaddr_msl, stepW_idxs, stepK_iaddr_isl, stepK_iaddr_msl, stepK_idxs, ne_eq, ↓reduceIte]
  refine W_retR c59_ok rfl ⟨?_, rfl⟩
  simp only [look, ↓reduceIte, any_find]
theorem isClause1_ok {x vars : Int} {b : Nat} (hb : σ b = some [.int .i64 vars]) (hv : 0 ≤ vars ∧ vars ≤ 1000000) : Ret Tryd.prog Γ 82 [.int .i64 x, .ptr b 0] σ (.bool (!litB vars x)) σ := by
  refine ret_of c82_ok rfl ?_
  simp only [c82, hb, go_sem, stepW_iaddr_isl, stepW_iaddr_msl, stepW_idxs, stepK_iaddr_isl, stepK_iaddr_msl, stepK_idxs, ne_eq, ↓reduceIte]
  refine SRun.callR (isLiteral_ok x vars hv) ⟨[], rfl, rfl⟩ rfl ?_
  simp only [go_sem, stepW_iaddr_isl, stepW_iaddr_msl, stepW_idxs, stepK_iaddr_isl, stepK_iaddr_msl, stepK_idxs, ne_eq, ↓reduceIte]
  exact W_retR c82_ok rfl ⟨rfl, rfl⟩
def clauseB (vars : Int) (xs : List Int) : Bool := decide (xs.length ≤ 12) && xs.all (litB vars)
theorem cell_ints (xs : List Int) : ∀ x ∈ ints xs, x.cells = [x] := by
  intro c hc; simp only [ints, List.mem_map] at hc; obtain ⟨x, _, rfl⟩ := hc; rfl
theorem any_ints (xs : List Int) (p : V → Bool) : (ints xs).any p = xs.any fun x => p (.int .i64 x) := by simp [ints, List.any_map, Function.comp_def]
theorem isClause_ok {ex : Bool} {xs : List Int} {vars : Int} (hl : xs.length ≤ 140737488355328) (hv : 0 ≤ vars ∧ vars ≤ 1000000) : Ret Tryd.prog Γ 61 [.isl ex 1 (ints xs), .int .i64 vars] σ (.bool (clauseB vars xs)) σ := by
  refine ret_of c61_ok rfl ?_
  simp only [c61, go_sem, stepW_iaddr_isl, stepW_iaddr_msl, stepW_idxs, stepK_iaddr_isl, stepK_iaddr_msl, stepK_idxs, ne_eq, ↓reduceIte]
  refine SRun.boxR (by simp [ev, look, V.cells, V.one]) ?_
  intro b hb
  simp only [go_sem, stepW_iaddr_isl, stepW_iaddr_msl, stepW_idxs, stepK_iaddr_isl, stepK_iaddr_msl, stepK_idxs, ne_eq, ↓reduceIte]
  refine guardW_of (fun h => ?_) (fun h => ?_)
  · simp only [h, go_sem, stepW_iaddr_isl, stepW_iaddr_msl, stepW_idxs, stepK_iaddr_isl, stepK_iaddr_msl, stepK_idxs, ne_eq, ↓reduceIte]
    refine SRun.callR (containsFuncI_ok (p := fun v => match v with | .int _ x => !litB vars x | _ => false) (cell_ints xs) (by rw [ints_len]; exact hl) ?_) ⟨[], rfl, rfl⟩ (by simp only [guardV, go_sem, stepW_iaddr_isl, stepW_iaddr_msl, stepW_idxs, stepK_iaddr_isl, stepK_iaddr_msl, stepK_idxs, ne_eq, ↓reduceIte, h]; rfl) ?_
    · intro x hx
      simp only [ints, List.mem_map] at hx
      obtain ⟨y, _, rfl⟩ := hx
      exact isClause1_ok (upd_same _ _ _) hv
    · simp only [h, go_sem, stepW_iaddr_isl, stepW_iaddr_msl, stepW_idxs, stepK_iaddr_isl, stepK_iaddr_msl, stepK_idxs, ne_eq, ↓reduceIte]
      refine W_retC c61_ok rfl (Conv.drop _ (le_upd hb)) ⟨?_, rfl⟩
      have h' := of_decide_eq_true h
      rw [ints_len] at h'
      have h2 : decide (xs.length ≤ 12) = true := decide_eq_true (by omega)
      simp only [look, ↓reduceIte, any_ints, clauseB, h2, Bool.true_and, V.bool.injEq]
      rw [List.all_eq_not_any_not]
  · simp only [h, go_sem, stepW_iaddr_isl, stepW_iaddr_msl, stepW_idxs, stepK_iaddr_isl, stepK_iaddr_msl, stepK_idxs, ne_eq, ↓reduceIte]
    refine W_retC c61_ok rfl (Conv.drop _ (le_upd hb)) ⟨?_, rfl⟩
    have h' := of_decide_eq_false h
    rw [ints_len] at h'
    have h2 : decide (xs.length ≤ 12) = false := decide_eq_false (by omega)
    simp only [look, ↓reduceIte, clauseB, h2, Bool.false_and]
def cnfB (vars : Int) (cls : List (List Int)) : Bool := decide (0 ≤ vars) && decide (vars ≤ 40) && decide (cls.length ≤ 300) && cls.all (clauseB vars)
theorem clsV_len (cls : List (List Int)) : (clsV cls).length = cls.length := by simp [clsV]
/-- Its slices are of a length that memory bears. -/
def Small (cls : List (List Int)) : Prop := cls.length ≤ 1000000 ∧ ∀ c ∈ cls, c.length ≤ 1000000
end
section
attribute [local irreducible] SRun DS DRun
variable {Γ : St} {σ σ0 : St}
/-- The first place of a number, or -1. -/
def findZ (xs : List Int) (y : Int) : Int := match xs.findIdx? (· == y) with | some i => (i : Int) | none => -1
theorem findZ_in (xs : List Int) (y : Int) : -1 ≤ findZ xs y ∧ findZ xs y < xs.length := by
  unfold findZ
  cases hf : xs.findIdx? (· == y) with
  | none => simp only; omega
  | some i =>
    have := (List.findIdx?_eq_some_iff_getElem.1 hf).1
    simp only; omega
def isT (vals : List Int) (x : Int) : Bool := if x < 0 then vals.getD (-x).toNat 0 == -1 else vals.getD x.toNat 0 == 1
def setT (vals : List Int) (x : Int) : List Int := if x < 0 then vals.set (-x).toNat (-1) else vals.set x.toNat 1
theorem setT_length (vals : List Int) (x : Int) : (setT vals x).length = vals.length := by unfold setT; split <;> simp
def litOK (vars x : Int) : Prop := x ≠ 0 ∧ -vars ≤ x ∧ x ≤ vars
def unitGo (vals : List Int) : List Int → Int → Int × Bool
  | [], one => (one, one == 0)
  | x :: r, one => bif isT vals x then (0, false) else bif isT vals (-x) || x == one then unitGo vals r one else bif one != 0 then (0, false) else unitGo vals r x
def scanGo (vals : List Int) : List (List Int) → Nat → Int → Option Nat × Int
  | [], _, next => (none, next)
  | c :: r, i, next => bif (unitGo vals c 0).2 then (some i, next) else scanGo vals r (i + 1) (bif next == 0 then (unitGo vals c 0).1 else next)
def propGo (cls : List (List Int)) : Nat → List Int → List Int → List Int × Int × List Int
  | 0, vals, list => (list, -1, vals)
  | f + 1, vals, list => match scanGo vals cls 0 0 with
    | (some i, _) => (list, i, vals)
    | (none, next) => bif next == 0 then (list, -1, vals) else propGo cls f (setT vals next) (list ++ [next])
def zeros (vals : List Int) : Nat := (vals.drop 1).count 0
def tri (vals : List Int) : Prop := ∀ v ∈ vals, v = -1 ∨ v = 0 ∨ v = 1
def free (vals : List Int) (x : Int) : Prop := isT vals x = false ∧ isT vals (-x) = false
theorem unitGo_free {vals : List Int} : ∀ {xs : List Int} {one : Int}, (one = 0 ∨ free vals one) → (unitGo vals xs one).1 = 0 ∨ (free vals (unitGo vals xs one).1 ∧ ((unitGo vals xs one).1 ∈ xs ∨ (unitGo vals xs one).1 = one)) := by
  intro xs
  induction xs with
  | nil => intro one h; exact h.imp id fun h => ⟨h, .inr rfl⟩
  | cons x r ih =>
    intro one h
    simp only [unitGo]
    cases h1 : isT vals x with
    | true => exact .inl rfl
    | false =>
      simp only [cond_false]
      cases h2 : isT vals (-x) || x == one with
      | true =>
        simp only [cond_true]
        exact (ih h).imp id fun ⟨a, b⟩ => ⟨a, b.imp (fun h => by simp [h]) id⟩
      | false =>
        simp only [cond_false]
        rw [Bool.or_eq_false_iff] at h2
        cases h3 : one != 0 with
        | true => exact .inl rfl
        | false =>
          simp only [cond_false]
          exact (ih (.inr ⟨h1, h2.1⟩)).imp id fun ⟨a, b⟩ => ⟨a, .inl (by rcases b with b | b <;> simp [b])⟩
theorem scanGo_free {vals : List Int} : ∀ {cls : List (List Int)} {i : Nat} {next : Int}, (next = 0 ∨ free vals next) → (scanGo vals cls i next).2 = 0 ∨ (free vals (scanGo vals cls i next).2 ∧ ((∃ c ∈ cls, (scanGo vals cls i next).2 ∈ c) ∨ (scanGo vals cls i next).2 = next)) := by
  intro cls
  induction cls with
  | nil => intro i next h; exact h.imp id fun h => ⟨h, .inr rfl⟩
  | cons c r ih =>
    intro i next h
    simp only [scanGo]
    cases h1 : (unitGo vals c 0).2 with
    | true => exact h.imp id fun h => ⟨h, .inr rfl⟩
    | false =>
      simp only [cond_false]
      cases h2 : next == 0 with
      | false =>
        simp only [cond_false]
        exact (ih h).imp id fun ⟨a, b⟩ => ⟨a, b.imp (fun ⟨c, hc, hm⟩ => ⟨c, by simp [hc], hm⟩) id⟩
      | true =>
        simp only [cond_true]
        have hu := unitGo_free (vals := vals) (xs := c) (one := 0) (.inl rfl)
        rcases ih (i := i + 1) (hu.imp id fun ⟨a, _⟩ => a) with hr | ⟨hr1, hr2⟩
        · exact .inl hr
        · rcases hr2 with ⟨c2, hc2, hm⟩ | hr2
          · exact .inr ⟨hr1, .inl ⟨c2, by simp [hc2], hm⟩⟩
          · rcases hu with hu | ⟨hu1, hu2⟩
            · exact .inl (hr2.trans hu)
            · rcases hu2 with hu2 | hu2
              · exact .inr ⟨hr1, .inl ⟨c, by simp, by rw [hr2]; exact hu2⟩⟩
              · exact .inl (hr2.trans hu2)
/-- A variable of which nothing is known is one less then. -/
theorem free_get {vars x : Int} {vals : List Int} (hl : (vals.length : Int) = vars + 1) (ht : tri vals) (hx : litOK vars x) (hf : free vals x) : vals[x.natAbs]? = some 0 := by
  have hlt : x.natAbs < vals.length := by have := hx.2; omega
  have hg : vals[x.natAbs]? = some vals[x.natAbs] := by simp [hlt]
  rw [hg]
  have hm := ht vals[x.natAbs] (List.getElem_mem hlt)
  have h1 := hf.1; have h2 := hf.2
  unfold isT at h1 h2
  by_cases hneg : x < 0
  · rw [if_pos hneg] at h1
    rw [if_neg (by omega)] at h2
    have e : (-x).toNat = x.natAbs := by omega
    rw [e] at h1 h2
    simp only [List.getD, hg, Option.getD_some, beq_eq_false_iff_ne, ne_eq] at h1 h2
    rcases hm with h | h | h
    · exact absurd h h1
    · rw [h]
    · exact absurd h h2
  · have hpos : 0 < x := by have := hx.1; omega
    rw [if_neg hneg] at h1
    rw [if_pos (by omega)] at h2
    have e : x.toNat = x.natAbs := by omega
    have e2 : (- -x).toNat = x.natAbs := by omega
    rw [e] at h1; rw [e2] at h2
    simp only [List.getD, hg, Option.getD_some, beq_eq_false_iff_ne, ne_eq] at h1 h2
    rcases hm with h | h | h
    · exact absurd h h2
    · rw [h]
    · exact absurd h h1
theorem setT_eq (vals : List Int) (x : Int) : setT vals x = vals.set x.natAbs (if x < 0 then -1 else 1) := by
  unfold setT
  split
  · rw [show (-x).toNat = x.natAbs by omega]
  · rw [show x.toNat = x.natAbs by omega]
theorem tri_set {vals : List Int} (ht : tri vals) (x : Int) : tri (setT vals x) := by
  intro v hv
  rw [setT_eq] at hv
  rcases List.mem_or_eq_of_mem_set hv with h | h
  · exact ht v h
  · split at h <;> omega
theorem count_set {l : List Int} {i : Nat} {v : Int} (h : l[i]? = some 0) (hv : v ≠ 0) : (l.set i v).count 0 + 1 = l.count 0 := by
  induction l generalizing i with
  | nil => simp at h
  | cons a r ih =>
    cases i with
    | zero =>
      simp at h; subst h
      simp [List.count_cons, hv]
    | succ i =>
      simp at h
      have := ih h
      simp only [List.set_cons_succ, List.count_cons]
      omega
theorem zeros_set {vars x : Int} {vals : List Int} (hl : (vals.length : Int) = vars + 1) (ht : tri vals) (hx : litOK vars x) (hf : free vals x) : zeros (setT vals x) + 1 = zeros vals := by
  have hg := free_get hl ht hx hf
  rw [setT_eq]
  unfold zeros
  have h0 : x.natAbs ≠ 0 := by have := hx.1; omega
  obtain ⟨k, hk⟩ : ∃ k, x.natAbs = k + 1 := ⟨x.natAbs - 1, by omega⟩
  cases vals with
  | nil => simp at hg
  | cons a r =>
    rw [hk] at hg ⊢
    simp only [List.getElem?_cons_succ, List.set_cons_succ, List.drop_succ_cons, List.drop_zero] at hg ⊢
    exact count_set hg (by split <;> omega)
/-- The clauses of a formula of some variables. -/
def ClsOK (vars : Int) (cls : List (List Int)) : Prop := Small cls ∧ ∀ c ∈ cls, ∀ x ∈ c, litOK vars x
end
section
attribute [local irreducible] SRun DS DRun
variable {Γ : St} {σ σ0 : St}
theorem propGo_keeps {vars : Int} {cls : List (List Int)} (hc : ClsOK vars cls) : ∀ (f : Nat) (vals list : List Int), (vals.length : Int) = vars + 1 → tri vals → (propGo cls f vals list).2.2.length = vals.length ∧ tri (propGo cls f vals list).2.2 ∧ zeros (propGo cls f vals list).2.2 ≤ zeros vals := by
  intro f
  induction f with
  | zero => intro vals list _ ht; exact ⟨rfl, ht, Nat.le_refl _⟩
  | succ f ih =>
    intro vals list hl ht
    have hfr := scanGo_free (vals := vals) (cls := cls) (i := 0) (next := 0) (.inl rfl)
    simp only [propGo]
    generalize scanGo vals cls 0 0 = q at hfr
    obtain ⟨o, next⟩ := q
    cases o with
    | some i => exact ⟨rfl, ht, Nat.le_refl _⟩
    | none =>
      simp only
      cases hd : next == 0 with
      | true => exact ⟨rfl, ht, Nat.le_refl _⟩
      | false =>
        simp only [cond_false]
        have hne : next ≠ 0 := by simpa using hd
        obtain ⟨hf, hin⟩ := hfr.resolve_left hne
        obtain ⟨c, hcm, hnm⟩ := hin.resolve_right hne
        have hlo := hc.2 c hcm next hnm
        have hz := zeros_set hl ht hlo hf
        obtain ⟨h1, h2, h3⟩ := ih (setT vals next) (list ++ [next]) (by rw [setT_length]; exact hl) (tri_set ht _)
        exact ⟨h1.trans (setT_length _ _), h2, by omega⟩
def solveP (cls : List (List Int)) : Nat → List Int → Option (List Int)
  | 0, _ => none
  | f + 1, vals =>
    bif decide ((propGo cls (zeros vals + 1) vals []).2.1 ≥ 0) then none else
    bif findZ ((propGo cls (zeros vals + 1) vals []).2.2.drop 1) 0 + 1 == 0 then some (propGo cls (zeros vals + 1) vals []).2.2 else
    match solveP cls f (setT (propGo cls (zeros vals + 1) vals []).2.2 (-(findZ ((propGo cls (zeros vals + 1) vals []).2.2.drop 1) 0 + 1))) with
    | some r => some r
    | none => solveP cls f (setT (propGo cls (zeros vals + 1) vals []).2.2 (findZ ((propGo cls (zeros vals + 1) vals []).2.2.drop 1) 0 + 1))
theorem findZ_get {vals : List Int} {vars : Int} (hl : (vals.length : Int) = vars + 1) (h : findZ (vals.drop 1) 0 + 1 ≠ 0) : litOK vars (findZ (vals.drop 1) 0 + 1) ∧ vals[(findZ (vals.drop 1) 0 + 1).natAbs]? = some 0 ∧ free vals (findZ (vals.drop 1) 0 + 1) ∧ free vals (-(findZ (vals.drop 1) 0 + 1)) := by
  have hin := findZ_in (vals.drop 1) 0
  have hg : vals[(findZ (vals.drop 1) 0 + 1).natAbs]? = some 0 := by
    unfold findZ at h ⊢
    cases hf : (vals.drop 1).findIdx? (· == 0) with
    | none => rw [hf] at h; exact absurd rfl h
    | some i =>
      simp only
      obtain ⟨h1, h2, _⟩ := List.findIdx?_eq_some_iff_getElem.1 hf
      have h3 : (vals.drop 1)[i]? = some 0 := by
        rw [List.getElem?_eq_getElem h1]
        exact congrArg some (by simpa using h2)
      rw [List.getElem?_drop] at h3
      rw [show ((i : Int) + 1).natAbs = 1 + i by omega]
      exact h3
  generalize hv : findZ (vals.drop 1) 0 + 1 = v at h hg ⊢
  have hvl : v ≤ vars := by simp only [List.length_drop] at hin; omega
  have hfree : free vals v := by
    unfold free isT
    have hp : 0 < v := by omega
    have e1 : v.toNat = v.natAbs := by omega
    have e2 : (- -v).toNat = v.natAbs := by omega
    rw [if_neg (by omega), if_pos (by omega), e1, e2]
    simp [List.getD, hg]
  exact ⟨⟨h, by omega, hvl⟩, hg, hfree, hfree.2, by rw [Int.neg_neg]; exact hfree.1⟩
end
section
attribute [local irreducible] SRun DS DRun
variable {Γ : St} {σ σ0 : St}
theorem solveP_len {vars : Int} {cls : List (List Int)} (hc : ClsOK vars cls) : ∀ (fu : Nat) (vals v : List Int), (vals.length : Int) = vars + 1 → tri vals → solveP cls fu vals = some v → v.length = vals.length ∧ tri v := by
  intro fu
  induction fu with
  | zero => intro vals v _ _ h; simp [solveP] at h
  | succ fu ih =>
    intro vals v hl ht h
    obtain ⟨k1, k2, k3⟩ := propGo_keeps hc (zeros vals + 1) vals [] hl ht
    simp only [solveP] at h
    generalize propGo cls (zeros vals + 1) vals [] = R at k1 k2 k3 h
    have hl2 : (R.2.2.length : Int) = vars + 1 := by rw [k1]; exact hl
    cases hq : decide (R.2.1 ≥ 0) with
    | true => rw [hq] at h; simp at h
    | false =>
      rw [hq] at h
      simp only [cond_false] at h
      cases hd : findZ (R.2.2.drop 1) 0 + 1 == 0 with
      | true => rw [hd] at h; simp only [cond_true, Option.some.injEq] at h; subst h; exact ⟨k1, k2⟩
      | false =>
        rw [hd] at h
        simp only [cond_false] at h
        split at h
        · rename_i r hr
          obtain rfl := Option.some.inj h
          obtain ⟨a1, a2⟩ := ih _ _ (by rw [setT_length]; exact hl2) (tri_set k2 _) hr
          exact ⟨a1.trans ((setT_length _ _).trans k1), a2⟩
        · obtain ⟨a1, a2⟩ := ih _ _ (by rw [setT_length]; exact hl2) (tri_set k2 _) h
          exact ⟨a1.trans ((setT_length _ _).trans k1), a2⟩
def zeroVals (vars : Int) : List Int := List.replicate (vars + 1).toNat 0
def modelP (vars : Int) (cls : List (List Int)) : Option (List Int) := solveP cls (vars.toNat + 2) (zeroVals vars)
/-- What is known, as values. -/
def valsB (v : List Int) : List Bool := (v.drop 1).map (· == 1)
end
section
attribute [local irreducible] SRun DS DRun
variable {Γ : St} {σ σ0 : St}
theorem litB_iff {vars x : Int} : litB vars x = true ↔ litOK vars x := by simp [litB, litOK]
theorem clsOK_of {vars : Int} {cls : List (List Int)} (h : cnfB vars cls = true) : ClsOK vars cls ∧ 0 ≤ vars ∧ vars ≤ 40 ∧ cls.length ≤ 300 := by
  simp only [cnfB, Bool.and_eq_true, decide_eq_true_eq, List.all_eq_true, clauseB] at h
  exact ⟨⟨⟨by omega, fun c hc => by have := (h.2 c hc).1; omega⟩, fun c hc x hx => litB_iff.1 ((h.2 c hc).2 x hx)⟩, h.1.1.1, h.1.1.2, h.1.2⟩
end
section
attribute [local irreducible] SRun DS DRun
variable {Γ : St} {σ σ0 : St}
theorem l01In_ok (a b c : Int) : Ret Tryd.prog Γ 64 [.int .i64 a, .int .i64 b, .int .i64 c] σ (.bool (decide (b ≤ a) && decide (a ≤ c))) σ := by
  refine ret_of c64_ok rfl ?_
  simp only [c64, go_sem, stepW_iaddr_isl, stepW_iaddr_msl, stepW_idxs, stepK_iaddr_isl, stepK_iaddr_msl, stepK_idxs, ne_eq, ↓reduceIte]
  refine guardW_of (fun h => ?_) (fun h => ?_)
  · simp only [h, go_sem, stepW_iaddr_isl, stepW_iaddr_msl, stepW_idxs, stepK_iaddr_isl, stepK_iaddr_msl, stepK_idxs, ne_eq, ↓reduceIte]
    exact W_retR c64_ok rfl ⟨rfl, rfl⟩
  · simp only [h, go_sem, stepW_iaddr_isl, stepW_iaddr_msl, stepW_idxs, stepK_iaddr_isl, stepK_iaddr_msl, stepK_idxs, ne_eq, ↓reduceIte]
    exact W_retR c64_ok rfl ⟨rfl, rfl⟩
theorem l01Abs_ok {x : Int} (hx : -1000000 ≤ x ∧ x ≤ 1000000) : Ret Tryd.prog Γ 124 [.int .i64 x] σ (.int .i64 x.natAbs) σ := by
  refine ret_of c124_ok rfl ?_
  have w1 := wrap64 (a := 0 - x) (by omega) (by omega)
  simp only [c124, w1, go_sem, stepW_iaddr_isl, stepW_iaddr_msl, stepW_idxs, stepK_iaddr_isl, stepK_iaddr_msl, stepK_idxs, ne_eq, ↓reduceIte]
  refine W_retR c124_ok rfl ⟨?_, rfl⟩
  simp only [look, ↓reduceIte, V.int.injEq, true_and]
  split <;> omega
theorem all_take {α : Type} {p : α → Bool} {xs : List α} {i : Nat} {x : α} (h : (xs.take i).all p = true) (hx : xs[i]? = some x) (hp : p x = true) : (xs.take (i + 1)).all p = true := by
  rw [List.take_add_one, hx]
  simp only [Option.toList_some, List.all_append, List.all_cons, List.all_nil, Bool.and_true, h, hp, Bool.and_self]
theorem all_false {α : Type} {p : α → Bool} {xs : List α} {i : Nat} {x : α} (hx : xs[i]? = some x) (hp : p x = false) : xs.all p = false := by
  rw [List.all_eq_false]
  exact ⟨x, List.mem_of_getElem? hx, by simp [hp]⟩
theorem l01Clause_ok {ex : Bool} {xs : List Int} {vars : Int} (hl : xs.length ≤ 1000000) (hv : 0 ≤ vars ∧ vars ≤ 1000000) : Ret Tryd.prog Γ 65 [.isl ex 1 (ints xs), .int .i64 vars] σ (.bool (clauseB vars xs)) σ := by
  refine ret_of c65_ok rfl ?_
  simp only [c65, ints_len, go_sem, stepW_iaddr_isl, stepW_iaddr_msl, stepW_idxs, stepK_iaddr_isl, stepK_iaddr_msl, stepK_idxs, ne_eq, ↓reduceIte]
  refine iteW_of (fun h => ?_) (fun h => ?_)
  · have h' := of_decide_eq_true h
    simp only [go_sem, stepW_iaddr_isl, stepW_iaddr_msl, stepW_idxs, stepK_iaddr_isl, stepK_iaddr_msl, stepK_idxs, ne_eq, ↓reduceIte]
    refine W_retR c65_ok rfl ⟨?_, rfl⟩
    have : decide (xs.length ≤ 12) = false := decide_eq_false (by omega)
    simp only [look, ↓reduceIte, clauseB, this, Bool.false_and]
  · have h' := of_decide_eq_false h
    have h12 : decide (xs.length ≤ 12) = true := decide_eq_true (by omega)
    simp only [go_sem, stepW_iaddr_isl, stepW_iaddr_msl, stepW_idxs, stepK_iaddr_isl, stepK_iaddr_msl, stepK_idxs, ne_eq, ↓reduceIte]
    refine W_loopR (fun m T σ' => ∃ i : Nat, i + m = xs.length ∧ look T 0 = .isl ex 1 (ints xs) ∧ look T 1 = .int .i64 vars ∧ look T 5 = .int .i64 i ∧ σ' = σ ∧ (xs.take i).all (litB vars) = true) xs.length ?_ ?_
    · exact ⟨0, by omega, rfl, rfl, rfl, rfl, rfl⟩
    · rintro m T σ' ih ⟨i, hm, h0, h1, h5, rfl, hall⟩
      simp only [h0, h1, h5, ints_len, go_sem, stepW_iaddr_isl, stepW_iaddr_msl, stepW_idxs, stepK_iaddr_isl, stepK_iaddr_msl, stepK_idxs, ne_eq, ↓reduceIte]
      refine iteW_of (fun hq => ?_) (fun hq => ?_)
      · have hq' := of_decide_eq_true hq
        have hlt : i < xs.length := by omega
        have hxi : xs[i]? = some xs[i] := by simp [hlt]
        generalize xs[i] = x at hxi
        have hget := ints_get hxi
        have w1 := wrap64 (a := (i : Int) + 1) (by omega) (by omega)
        have w2 := wrap64 (a := 0 - vars) (by omega) (by omega)
        have c3 : (0 : Int) ≤ (i : Int) := by omega
        simp only [h0, h1, h5, hget, c3, Int.toNat_natCast, go_sem, stepW_iaddr_isl, stepW_iaddr_msl, stepW_idxs, stepK_iaddr_isl, stepK_iaddr_msl, stepK_idxs, ne_eq, ↓reduceIte]
        have done : litB vars x = true → ∀ T, look T 0 = .isl ex 1 (ints xs) → True := fun _ _ _ => trivial
        refine guardW_of (fun hg => ?_) (fun hg => ?_)
        · simp only [hg, go_sem, stepW_iaddr_isl, stepW_iaddr_msl, stepW_idxs, stepK_iaddr_isl, stepK_iaddr_msl, stepK_idxs, ne_eq, ↓reduceIte]
          refine W_retR c65_ok rfl ⟨?_, rfl⟩
          have hx0 : x = 0 := by simpa using hg
          simp only [look, ↓reduceIte, clauseB, all_false hxi (show litB vars x = false by simp [litB, hx0]), Bool.and_false]
        · simp only [hg, h0, h1, h5, hget, c3, w2, Int.toNat_natCast, go_sem, stepW_iaddr_isl, stepW_iaddr_msl, stepW_idxs, stepK_iaddr_isl, stepK_iaddr_msl, stepK_idxs, ne_eq, ↓reduceIte]
          refine SRun.callR (l01In_ok _ _ _) ⟨[], rfl, rfl⟩ (by simp only [guardV, go_sem, stepW_iaddr_isl, stepW_iaddr_msl, stepW_idxs, stepK_iaddr_isl, stepK_iaddr_msl, stepK_idxs, ne_eq, ↓reduceIte, hg]; rfl) ?_
          simp only [hg, go_sem, stepW_iaddr_isl, stepW_iaddr_msl, stepW_idxs, stepK_iaddr_isl, stepK_iaddr_msl, stepK_idxs, ne_eq, ↓reduceIte]
          have hx0 : x ≠ 0 := by simpa using hg
          have hneg : (0 : Int) - vars = -vars := by omega
          simp only [hneg]
          have hlit : litB vars x = (decide (-vars ≤ x) && decide (x ≤ vars)) := by simp [litB, hx0]
          refine iteW_of (fun hb => ?_) (fun hb => ?_)
          · simp only [go_sem, stepW_iaddr_isl, stepW_iaddr_msl, stepW_idxs, stepK_iaddr_isl, stepK_iaddr_msl, stepK_idxs, ne_eq, ↓reduceIte]
            refine W_retR c65_ok rfl ⟨?_, rfl⟩
            have : litB vars x = false := by rw [hlit]; generalize (decide (-vars ≤ x) && decide (x ≤ vars)) = q at hb; cases q <;> simp_all
            simp only [look, ↓reduceIte, clauseB, all_false hxi this, Bool.and_false]
          · simp only [h5, w1, go_sem, stepW_iaddr_isl, stepW_iaddr_msl, stepW_idxs, stepK_iaddr_isl, stepK_iaddr_msl, stepK_idxs, ne_eq, ↓reduceIte]
            have : litB vars x = true := by rw [hlit]; generalize (decide (-vars ≤ x) && decide (x ≤ vars)) = q at hb; cases q <;> simp_all
            refine ih (m - 1) _ _ (by omega) ⟨i + 1, by omega, ?_, ?_, rfl, rfl, all_take hall hxi this⟩
            · simp only [go_sem, stepW_iaddr_isl, stepW_iaddr_msl, stepW_idxs, stepK_iaddr_isl, stepK_iaddr_msl, stepK_idxs, ne_eq, ↓reduceIte]; exact h0
            · simp only [go_sem, stepW_iaddr_isl, stepW_iaddr_msl, stepW_idxs, stepK_iaddr_isl, stepK_iaddr_msl, stepK_idxs, ne_eq, ↓reduceIte]; exact h1
      · have hq' := of_decide_eq_false hq
        simp only [go_sem, stepW_iaddr_isl, stepW_iaddr_msl, stepW_idxs, stepK_iaddr_isl, stepK_iaddr_msl, stepK_idxs, ne_eq, ↓reduceIte]
        refine W_retR c65_ok rfl ⟨?_, rfl⟩
        rw [List.take_of_length_le (by omega)] at hall
        simp only [look, ↓reduceIte, clauseB, h12, hall, Bool.and_self]
/-- Of formulas that are right: the other answers are not asked here. -/
theorem cnfOK_ok {cls : List (List Int)} {vars : Int} (hb : cnfB vars cls = true) : Ret Tryd.prog Γ 33 [cnfV vars cls] σ (.bool true) σ := by
  obtain ⟨hc, hv0, hv40, hcl⟩ := clsOK_of hb
  refine ret_of c33_ok rfl ?_
  simp only [c33, cnfV, go_sem, stepW_iaddr_isl, stepW_iaddr_msl, stepW_idxs, stepK_iaddr_isl, stepK_iaddr_msl, stepK_idxs, ne_eq, ↓reduceIte]
  refine SRun.boxR (by simp [ev, look, V.cells, V.one]) ?_
  intro b1 hb1
  simp only [go_sem, stepW_iaddr_isl, stepW_iaddr_msl, stepW_idxs, stepK_iaddr_isl, stepK_iaddr_msl, stepK_idxs, ne_eq, ↓reduceIte]
  refine SRun.callR (l01In_ok _ _ _) ⟨[], rfl, rfl⟩ rfl ?_
  have e1 : (decide ((0 : Int) ≤ vars) && decide (vars ≤ 40)) = true := by simp [hv0, hv40]
  have e2 : decide ((cls.length : Int) > 300) = false := decide_eq_false (by omega)
  simp only [e1, e2, clsV_len, go_sem, stepW_iaddr_isl, stepW_iaddr_msl, stepW_idxs, stepK_iaddr_isl, stepK_iaddr_msl, stepK_idxs, ne_eq, ↓reduceIte]
  refine W_loopR (fun m T σ' => ∃ i : Nat, i + m = cls.length ∧ look T 1 = .ptr b1 0 ∧ look T 3 = .int .i64 i ∧ σ' = upd σ b1 [.int .i64 vars, .isl false 1 (clsV cls)]) cls.length ?_ ?_
  · exact ⟨0, by omega, rfl, rfl, rfl⟩
  · rintro m T σ' ih ⟨i, hm, h1, h3, rfl⟩
    simp only [h1, h3, clsV_len, go_sem, stepW_iaddr_isl, stepW_iaddr_msl, stepW_idxs, stepK_iaddr_isl, stepK_iaddr_msl, stepK_idxs, ne_eq, ↓reduceIte]
    refine iteW_of (fun hq => ?_) (fun hq => ?_)
    · have hq' := of_decide_eq_true hq
      have hlt : i < cls.length := by omega
      have hget : (clsV cls)[i]? = some (.isl false 1 (ints cls[i])) := by simp [clsV, intsV, hlt]
      have hmem := List.getElem_mem hlt
      have hcB : clauseB vars cls[i] = true := by
        simp only [cnfB, Bool.and_eq_true, List.all_eq_true] at hb
        exact hb.2 _ hmem
      have hsm := hc.1.2 _ hmem
      generalize cls[i] = c at hget hcB hsm
      have w1 := wrap64 (a := (i : Int) + 1) (by omega) (by omega)
      have c3 : (0 : Int) ≤ (i : Int) := by omega
      simp only [go_sem, stepW_iaddr_isl, stepW_iaddr_msl, stepW_idxs, stepK_iaddr_isl, stepK_iaddr_msl, stepK_idxs, ne_eq, ↓reduceIte]
      refine W_drawW ?_
      simp only [h1, h3, hget, c3, Int.toNat_natCast, go_sem, stepW_iaddr_isl, stepW_iaddr_msl, stepW_idxs, stepK_iaddr_isl, stepK_iaddr_msl, stepK_idxs, ne_eq, ↓reduceIte]
      refine DRun.callQ (l01Clause_ok hsm (by omega)) ⟨[], rfl, rfl⟩ ?_
      rintro r s ⟨rfl, rfl⟩
      simp only [hcB, go_sem, stepW_iaddr_isl, stepW_iaddr_msl, stepW_idxs, stepK_iaddr_isl, stepK_iaddr_msl, stepK_idxs, ne_eq, ↓reduceIte]
      simp only [h3, w1, go_sem, stepW_iaddr_isl, stepW_iaddr_msl, stepW_idxs, stepK_iaddr_isl, stepK_iaddr_msl, stepK_idxs, ne_eq, ↓reduceIte]
      refine ih (m - 1) _ _ (by omega) ⟨i + 1, by omega, ?_, rfl, rfl⟩
      simp only [go_sem, stepW_iaddr_isl, stepW_iaddr_msl, stepW_idxs, stepK_iaddr_isl, stepK_iaddr_msl, stepK_idxs, ne_eq, ↓reduceIte]; exact h1
    · simp only [go_sem, stepW_iaddr_isl, stepW_iaddr_msl, stepW_idxs, stepK_iaddr_isl, stepK_iaddr_msl, stepK_idxs, ne_eq, ↓reduceIte]
      exact W_retC c33_ok rfl (Conv.drop _ (le_upd hb1)) ⟨rfl, rfl⟩
def litV (bs : List Bool) (x : Int) : Bool := bs.getD (x.natAbs - 1) false == decide (x > 0)
def evalB (cls : List (List Int)) (bs : List Bool) : Bool := cls.all fun c => c.any (litV bs)
end
section
attribute [local irreducible] SRun DS DRun
variable {Γ : St} {σ σ0 : St}
theorem cnfB_of {vars : Int} {cls : List (List Int)} (h : Drawn vars cls) : cnfB vars cls = true := by
  obtain ⟨h1, h2, h3, h4⟩ := h
  simp only [cnfB, Bool.and_eq_true, decide_eq_true_eq, List.all_eq_true, clauseB]
  refine ⟨⟨⟨by omega, by omega⟩, by omega⟩, fun c hc => ⟨by have := (h4 c hc).1; omega, fun x hx => ?_⟩⟩
  exact litB_iff.2 ((h4 c hc).2 x hx)
end
section
theorem litV_neg {bs : List Bool} {x : Int} (h : x ≠ 0) : litV bs (-x) = !litV bs x := by
  unfold litV
  rw [Int.natAbs_neg]
  by_cases hx : x > 0
  · rw [decide_eq_true hx, decide_eq_false (by omega)]
    cases bs.getD (x.natAbs - 1) false <;> rfl
  · rw [decide_eq_false hx, decide_eq_true (by omega)]
    cases bs.getD (x.natAbs - 1) false <;> rfl
/-- Values in which all that is known is so. -/
def agrees (vars : Int) (vals : List Int) (bs : List Bool) : Prop := ∀ x, litOK vars x → isT vals x = true → litV bs x = true
theorem litOK_neg {vars x : Int} (h : litOK vars x) : litOK vars (-x) := ⟨by have := h.1; omega, by have := h.2; omega⟩
theorem agrees_false {vars : Int} {vals : List Int} {bs : List Bool} (ha : agrees vars vals bs) {x : Int} (hx : litOK vars x) (h : isT vals (-x) = true) : litV bs x = false := by
  have := ha (-x) (litOK_neg hx) h
  rw [litV_neg hx.1] at this
  simpa using this
theorem isT_val {vals : List Int} {x : Int} (h : x ≠ 0) : isT vals x = (vals.getD x.natAbs 0 == if x < 0 then -1 else 1) := by
  unfold isT
  split
  · rw [show (-x).toNat = x.natAbs by omega]
  · rw [show x.toNat = x.natAbs by omega]
theorem isT_setT {vars : Int} {vals : List Int} {x y : Int} (hl : (vals.length : Int) = vars + 1) (hx : litOK vars x) (hy : litOK vars y) : isT (setT vals y) x = if x = y then true else if x = -y then false else isT vals x := by
  have hylt : y.natAbs < vals.length := by have := hy.2; omega
  rw [isT_val hx.1, isT_val hx.1, setT_eq]
  by_cases h : y.natAbs = x.natAbs
  · have hg : (vals.set y.natAbs (if y < 0 then -1 else 1)).getD x.natAbs 0 = if y < 0 then -1 else 1 := by
      rw [← h]; simp [List.getD, hylt]
    rw [hg]
    by_cases hxy : x = y
    · subst hxy; simp
    · have hxn : x = -y := by omega
      rw [if_neg hxy, if_pos hxn]
      have := hy.1
      by_cases hyn : y < 0
      · rw [if_pos hyn, if_neg (by omega)]; rfl
      · rw [if_neg hyn, if_pos (by omega)]; rfl
  · have hg : (vals.set y.natAbs (if y < 0 then -1 else 1)).getD x.natAbs 0 = vals.getD x.natAbs 0 := by
      simp [List.getD, List.getElem?_set_ne h]
    have n1 : ¬ x = y := fun e => h (by rw [e])
    have n2 : ¬ x = -y := fun e => h (by rw [e, Int.natAbs_neg])
    rw [if_neg n1, if_neg n2, hg]
theorem isT_zero {vars x : Int} (hx : litOK vars x) : isT (zeroVals vars) x = false := by
  rw [isT_val hx.1]
  have : (zeroVals vars).getD x.natAbs 0 = 0 := by
    unfold zeroVals
    rw [List.getD_eq_getElem?_getD, List.getElem?_replicate]
    split <;> rfl
  rw [this]
  split <;> rfl
theorem unit_false {vals : List Int} : ∀ {c : List Int} {one : Int}, (∀ x ∈ c, x ≠ 0) → (unitGo vals c one).2 = true → one = 0 ∧ ∀ x ∈ c, isT vals (-x) = true := by
  intro c
  induction c with
  | nil => intro one _ h; simp [unitGo] at h; exact ⟨h, fun x hx => by cases hx⟩
  | cons x r ih =>
    intro one hne h
    simp only [unitGo] at h
    cases h1 : isT vals x with
    | true => rw [h1] at h; simp at h
    | false =>
      rw [h1] at h
      simp only [cond_false] at h
      cases h2 : (isT vals (-x) || x == one) with
      | true =>
        rw [h2] at h
        simp only [cond_true] at h
        obtain ⟨a, b⟩ := ih (fun y hy => hne y (by simp [hy])) h
        refine ⟨a, fun y hy => ?_⟩
        rcases List.mem_cons.1 hy with rfl | hy
        · have hx0 := hne y (by simp)
          rw [a] at h2
          simpa [hx0] using h2
        · exact b y hy
      | false =>
        rw [h2] at h
        simp only [cond_false] at h
        cases h3 : one != 0 with
        | true => rw [h3] at h; simp at h
        | false =>
          rw [h3] at h
          simp only [cond_false] at h
          have := (ih (fun y hy => hne y (by simp [hy])) h).1
          exact absurd this (hne x (by simp))
theorem unit_one {vals : List Int} : ∀ {c : List Int} {one : Int}, (∀ x ∈ c, x ≠ 0) → (unitGo vals c one).1 ≠ 0 → (one = 0 ∨ one = (unitGo vals c one).1) ∧ ∀ x ∈ c, isT vals (-x) = true ∨ x = (unitGo vals c one).1 := by
  intro c
  induction c with
  | nil => intro one _ h; exact ⟨.inr rfl, fun x hx => by cases hx⟩
  | cons x r ih =>
    intro one hne h
    have hx0 := hne x (by simp)
    have hne' : ∀ y ∈ r, y ≠ 0 := fun y hy => hne y (by simp [hy])
    simp only [unitGo] at h ⊢
    cases h1 : isT vals x with
    | true => rw [h1] at h; simp at h
    | false =>
      rw [h1] at h
      simp only [cond_false] at h ⊢
      cases h2 : (isT vals (-x) || x == one) with
      | true =>
        rw [h2] at h
        simp only [cond_true] at h ⊢
        obtain ⟨a, b⟩ := ih hne' h
        refine ⟨a, fun y hy => ?_⟩
        rcases List.mem_cons.1 hy with rfl | hy
        · rw [Bool.or_eq_true] at h2
          rcases h2 with h3 | h3
          · exact .inl h3
          · have h3 : y = one := by simpa using h3
            rcases a with a | a
            · exact absurd (h3.trans a) hx0
            · exact .inr (h3.trans a)
        · exact b y hy
      | false =>
        rw [h2] at h
        simp only [cond_false] at h ⊢
        cases h3 : one != 0 with
        | true => rw [h3] at h; simp at h
        | false =>
          rw [h3] at h
          simp only [cond_false] at h ⊢
          obtain ⟨a, b⟩ := ih hne' h
          refine ⟨.inl (by simpa using h3), fun y hy => ?_⟩
          rcases List.mem_cons.1 hy with rfl | hy
          · exact .inr (a.resolve_left hx0)
          · exact b y hy
/-- Of every variable it is known. -/
def total (vars : Int) (vals : List Int) : Prop := ∀ x, litOK vars x → isT vals x = true ∨ isT vals (-x) = true
theorem unit_total {vars : Int} {vals : List Int} (ht : total vars vals) : ∀ {c : List Int}, (∀ x ∈ c, litOK vars x) → (unitGo vals c 0).2 = false → ∃ x ∈ c, isT vals x = true := by
  intro c
  induction c with
  | nil => intro _ h; simp [unitGo] at h
  | cons x r ih =>
    intro hlit h
    have hx := hlit x (by simp)
    cases h1 : isT vals x with
    | true => exact ⟨x, by simp, h1⟩
    | false =>
      have h2 : isT vals (-x) = true := (ht x hx).resolve_left (by simp [h1])
      simp only [unitGo, h1, h2, cond_false, Bool.true_or, cond_true] at h
      obtain ⟨y, hy, hyt⟩ := ih (fun y hy => hlit y (by simp [hy])) h
      exact ⟨y, by simp [hy], hyt⟩
theorem scan_some {vals : List Int} : ∀ {cls : List (List Int)} {i : Nat} {next : Int} {j : Nat}, (scanGo vals cls i next).1 = some j → ∃ c ∈ cls, (unitGo vals c 0).2 = true := by
  intro cls
  induction cls with
  | nil => intro i next j h; simp [scanGo] at h
  | cons c r ih =>
    intro i next j h
    simp only [scanGo] at h
    cases h1 : (unitGo vals c 0).2 with
    | true => exact ⟨c, by simp, h1⟩
    | false =>
      rw [h1] at h
      obtain ⟨c2, hc2, h2⟩ := ih h
      exact ⟨c2, by simp [hc2], h2⟩
theorem scan_none {vals : List Int} : ∀ {cls : List (List Int)} {i : Nat} {next : Int}, (scanGo vals cls i next).1 = none → (∀ c ∈ cls, (unitGo vals c 0).2 = false) ∧ ((scanGo vals cls i next).2 = next ∨ ∃ c ∈ cls, (unitGo vals c 0).1 = (scanGo vals cls i next).2) := by
  intro cls
  induction cls with
  | nil => intro i next _; exact ⟨fun c hc => (by cases hc), .inl rfl⟩
  | cons c r ih =>
    intro i next h
    simp only [scanGo] at h ⊢
    cases h1 : (unitGo vals c 0).2 with
    | true => rw [h1] at h; simp at h
    | false =>
      rw [h1] at h
      simp only [cond_false] at h ⊢
      obtain ⟨a, b⟩ := ih h
      refine ⟨fun c2 hc2 => ?_, ?_⟩
      · rcases List.mem_cons.1 hc2 with rfl | hc2
        · exact h1
        · exact a c2 hc2
      · rcases b with b | ⟨c2, hc2, b⟩
        · cases hn : next == 0 with
          | true => rw [hn] at b; exact .inr ⟨c, by simp, b.symm⟩
          | false => rw [hn] at b; exact .inl b
        · exact .inr ⟨c2, by simp [hc2], b⟩
theorem eval_mem {cls : List (List Int)} {bs : List Bool} (h : evalB cls bs = true) {c : List Int} (hc : c ∈ cls) : ∃ x ∈ c, litV bs x = true := by
  simp only [evalB, List.all_eq_true, List.any_eq_true] at h
  exact h c hc
/-- What follows is so. -/
theorem propGo_spec {vars : Int} {cls : List (List Int)} (hc : ClsOK vars cls) : ∀ (f : Nat) (vals list : List Int), zeros vals < f → (vals.length : Int) = vars + 1 → tri vals →
    (∀ x, litOK vars x → isT vals x = true → isT (propGo cls f vals list).2.2 x = true) ∧
    (∀ bs, agrees vars vals bs → evalB cls bs = true → (propGo cls f vals list).2.1 < 0 ∧ agrees vars (propGo cls f vals list).2.2 bs) ∧
    ((propGo cls f vals list).2.1 < 0 → ∀ c ∈ cls, (unitGo (propGo cls f vals list).2.2 c 0).2 = false) := by
  intro f
  induction f with
  | zero => intro vals list h; omega
  | succ f ih =>
    intro vals list hz hl ht
    have hfr := scanGo_free (vals := vals) (cls := cls) (i := 0) (next := 0) (.inl rfl)
    have hs1 := fun j => scan_some (vals := vals) (cls := cls) (i := 0) (next := 0) (j := j)
    have hs2 := scan_none (vals := vals) (cls := cls) (i := 0) (next := 0)
    simp only [propGo]
    generalize scanGo vals cls 0 0 = q at hfr hs1 hs2
    obtain ⟨o, next⟩ := q
    cases o with
    | some i =>
      refine ⟨fun x _ h => h, fun bs ha he => ?_, fun h => by simp only at h; omega⟩
      exfalso
      obtain ⟨c, hcm, hu⟩ := hs1 i rfl
      obtain ⟨x, hx, hxt⟩ := eval_mem he hcm
      have hlit := hc.2 c hcm x hx
      have := agrees_false ha hlit ((unit_false (fun y hy => (hc.2 c hcm y hy).1) hu).2 x hx)
      rw [this] at hxt; cases hxt
    | none =>
      simp only
      obtain ⟨hall, hnx⟩ := hs2 rfl
      cases hd : next == 0 with
      | true => exact ⟨fun x _ h => h, fun bs ha he => ⟨by simp only [cond_true]; omega, ha⟩, fun _ => hall⟩
      | false =>
        simp only [cond_false]
        have hne : next ≠ 0 := by simpa using hd
        obtain ⟨hf, hin⟩ := hfr.resolve_left hne
        obtain ⟨c0, hcm0, hnm⟩ := hin.resolve_right hne
        have hlo := hc.2 c0 hcm0 next hnm
        have hzs := zeros_set hl ht hlo hf
        obtain ⟨i1, i2, i3⟩ := ih (setT vals next) (list ++ [next]) (by omega) (by rw [setT_length]; exact hl) (tri_set ht _)
        refine ⟨fun x hx h => i1 x hx ?_, fun bs ha he => i2 bs ?_ he, i3⟩
        · rw [isT_setT hl hx hlo]
          split
          · rfl
          · rename_i hxy
            split
            · rename_i hxn; subst hxn; rw [hf.2] at h; exact h
            · exact h
        · have hnt : litV bs next = true := by
            obtain ⟨c, hcm, hu⟩ := hnx.resolve_left hne
            simp only at hu
            obtain ⟨x, hx, hxt⟩ := eval_mem he hcm
            rcases (unit_one (fun y hy => (hc.2 c hcm y hy).1) (by rw [hu]; exact hne)).2 x hx with h | h
            · rw [agrees_false ha (hc.2 c hcm x hx) h] at hxt; cases hxt
            · rw [← hu, ← h]; exact hxt
          intro x hx hxt
          rw [isT_setT hl hx hlo] at hxt
          split at hxt
          · rename_i e; rw [e]; exact hnt
          · split at hxt
            · cases hxt
            · exact ha x hx hxt
theorem findZ_total {vars : Int} {vals : List Int} (hl : (vals.length : Int) = vars + 1) (ht : tri vals) (h : findZ (vals.drop 1) 0 + 1 = 0) : total vars vals := by
  intro x hx
  have hn : (vals.drop 1).findIdx? (· == 0) = none := by
    unfold findZ at h
    cases hf : (vals.drop 1).findIdx? (· == 0) with
    | none => rfl
    | some i => rw [hf] at h; simp only at h; omega
  rw [List.findIdx?_eq_none_iff] at hn
  have hlt : x.natAbs < vals.length := by have := hx.2; omega
  have h0 : x.natAbs ≠ 0 := by have := hx.1; omega
  have hg : vals[x.natAbs]? = some vals[x.natAbs] := by simp [hlt]
  have hm : vals[x.natAbs] ∈ vals.drop 1 := by
    have : (vals.drop 1)[x.natAbs - 1]? = some vals[x.natAbs] := by rw [List.getElem?_drop, show 1 + (x.natAbs - 1) = x.natAbs by omega]; exact hg
    exact List.mem_of_getElem? this
  have hne := hn _ hm
  have htr := ht _ (List.getElem_mem hlt)
  have e : vals.getD x.natAbs 0 = vals[x.natAbs] := by simp [List.getD, hlt]
  rw [isT_val hx.1, isT_val (litOK_neg hx).1, Int.natAbs_neg, e]
  have hx0 := hx.1
  rcases htr with h | h | h
  · by_cases hneg : x < 0
    · left; rw [if_pos hneg, h]; rfl
    · right; rw [if_pos (by omega), h]; rfl
  · rw [h] at hne; simp at hne
  · by_cases hneg : x < 0
    · right; rw [if_neg (by omega), h]; rfl
    · left; rw [if_neg hneg, h]; rfl
theorem litV_valsB {vars : Int} {vals : List Int} (hl : (vals.length : Int) = vars + 1) (ht : total vars vals) {x : Int} (hx : litOK vars x) : litV (valsB vals) x = isT vals x := by
  have hx0 := hx.1
  have hlt : x.natAbs < vals.length := by have := hx.2; omega
  have hb : (valsB vals).getD (x.natAbs - 1) false = (vals.getD x.natAbs 0 == 1) := by
    have : x.natAbs - 1 + 1 = x.natAbs := by omega
    simp [valsB, List.getD, this, hlt]
  unfold litV
  rw [hb, isT_val hx0]
  have h2 := ht x hx
  rw [isT_val hx0, isT_val (litOK_neg hx).1, Int.natAbs_neg] at h2
  generalize vals.getD x.natAbs 0 = v at h2 ⊢
  by_cases hneg : x < 0
  · rw [if_pos hneg] at h2 ⊢
    rw [if_neg (by omega)] at h2
    rw [decide_eq_false (by omega : ¬ x > 0)]
    rcases h2 with h2 | h2
    · have : v = -1 := by simpa using h2
      subst this; rfl
    · have : v = 1 := by simpa using h2
      subst this; rfl
  · rw [if_neg hneg] at h2 ⊢
    rw [decide_eq_true (by omega : x > 0)]
    cases v == 1 <;> rfl
/-- By cases: a model is found just when there is one. -/
theorem solveP_spec {vars : Int} {cls : List (List Int)} (hv : 0 ≤ vars) (hc : ClsOK vars cls) : ∀ (f : Nat) (vals : List Int), zeros vals < f → (vals.length : Int) = vars + 1 → tri vals →
    (solveP cls f vals = none → ∀ bs, agrees vars vals bs → evalB cls bs = false) ∧ (∀ v, solveP cls f vals = some v → agrees vars vals (valsB v) ∧ evalB cls (valsB v) = true) := by
  intro f
  induction f with
  | zero => intro vals h; omega
  | succ f ih =>
    intro vals hz hl ht
    obtain ⟨k1, k2, k3⟩ := propGo_keeps hc (zeros vals + 1) vals [] hl ht
    obtain ⟨s1, s2, s3⟩ := propGo_spec hc (zeros vals + 1) vals [] (Nat.lt_succ_self _) hl ht
    simp only [solveP]
    generalize propGo cls (zeros vals + 1) vals [] = R at k1 k2 k3 s1 s2 s3
    have hl2 : (R.2.2.length : Int) = vars + 1 := by rw [k1]; exact hl
    cases hq : decide (R.2.1 ≥ 0) with
    | true =>
      have hq' := of_decide_eq_true hq
      simp only [cond_true]
      refine ⟨fun _ bs ha => ?_, fun v h => by cases h⟩
      cases he : evalB cls bs with
      | false => rfl
      | true => have := (s2 bs ha he).1; omega
    | false =>
      have hq' := of_decide_eq_false hq
      have hneg : R.2.1 < 0 := by omega
      have hfz := findZ_get hl2
      simp only [cond_false]
      cases hd : findZ (R.2.2.drop 1) 0 + 1 == 0 with
      | true =>
        have hz0 : findZ (R.2.2.drop 1) 0 + 1 = 0 := by simpa using hd
        have htot := findZ_total hl2 k2 hz0
        simp only [cond_true]
        refine ⟨fun h => (by cases h), fun v h => ?_⟩
        obtain rfl := Option.some.inj h
        refine ⟨fun x hx hxt => by rw [litV_valsB hl2 htot hx]; exact s1 x hx hxt, ?_⟩
        simp only [evalB, List.all_eq_true, List.any_eq_true]
        intro c hcm
        obtain ⟨x, hx, hxt⟩ := unit_total htot (hc.2 c hcm) (s3 hneg c hcm)
        exact ⟨x, hx, by rw [litV_valsB hl2 htot (hc.2 c hcm x hx)]; exact hxt⟩
      | false =>
        have hne : findZ (R.2.2.drop 1) 0 + 1 ≠ 0 := by simpa using hd
        obtain ⟨hlit, hg, hf1, hf2⟩ := hfz hne
        generalize findZ (R.2.2.drop 1) 0 + 1 = z at hlit hg hf1 hf2
        simp only [cond_false]
        have hlitn := litOK_neg hlit
        have hz1 := zeros_set hl2 k2 hlitn hf2
        have hz2 := zeros_set hl2 k2 hlit hf1
        obtain ⟨a1, a2⟩ := ih (setT R.2.2 (-z)) (by omega) (by rw [setT_length]; exact hl2) (tri_set k2 _)
        obtain ⟨b1, b2⟩ := ih (setT R.2.2 z) (by omega) (by rw [setT_length]; exact hl2) (tri_set k2 _)
        -- what is set is so, or its opposite
        have step : ∀ (y : Int), litOK vars y → ∀ bs, agrees vars R.2.2 bs → litV bs y = true → agrees vars (setT R.2.2 y) bs := by
          intro y hy bs ha hyt x hx hxt
          rw [isT_setT hl2 hx hy] at hxt
          split at hxt
          · rename_i e; rw [e]; exact hyt
          · split at hxt
            · cases hxt
            · exact ha x hx hxt
        have back : ∀ (y : Int), litOK vars y → free R.2.2 y → ∀ bs, agrees vars (setT R.2.2 y) bs → agrees vars vals bs := by
          intro y hy hfy bs ha x hx hxt
          refine ha x hx ?_
          rw [isT_setT hl2 hx hy]
          have h3 := s1 x hx hxt
          split
          · rfl
          · split
            · rename_i e; subst e; rw [hfy.2] at h3; cases h3
            · exact h3
        cases hs : solveP cls f (setT R.2.2 (-z)) with
        | some r =>
          simp only
          refine ⟨fun h => (by cases h), fun v h => ?_⟩
          obtain rfl := Option.some.inj h
          obtain ⟨c1, c2⟩ := a2 r hs
          exact ⟨back _ hlitn hf2 _ c1, c2⟩
        | none =>
          simp only
          refine ⟨fun h bs ha => ?_, fun v h => ?_⟩
          · cases he : evalB cls bs with
            | false => rfl
            | true =>
              have hag := (s2 bs ha he).2
              cases hzt : litV bs z with
              | true =>
                have := b1 h bs (step z hlit bs hag hzt)
                rw [this] at he; cases he
              | false =>
                have hzn : litV bs (-z) = true := by rw [litV_neg hlit.1, hzt]; rfl
                have := a1 hs bs (step (-z) hlitn bs hag hzn)
                rw [this] at he; cases he
          · obtain ⟨c1, c2⟩ := b2 v h
            exact ⟨back _ hlit hf1 _ c1, c2⟩
theorem modelP_spec {vars : Int} {cls : List (List Int)} (hv : 0 ≤ vars) (hc : ClsOK vars cls) : (modelP vars cls = none → ∀ bs, evalB cls bs = false) ∧ (∀ v, modelP vars cls = some v → evalB cls (valsB v) = true ∧ ((valsB v).length : Int) = vars) := by
  have hz0 : zeros (zeroVals vars) < vars.toNat + 2 := by
    have : zeros (zeroVals vars) ≤ ((zeroVals vars).drop 1).length := List.count_le_length
    simp only [zeroVals, List.length_drop, List.length_replicate] at this ⊢
    omega
  have hl0 : ((zeroVals vars).length : Int) = vars + 1 := by simp only [zeroVals, List.length_replicate]; omega
  have ht0 : tri (zeroVals vars) := fun x hx => by have := List.eq_of_mem_replicate hx; omega
  obtain ⟨h1, h2⟩ := solveP_spec hv hc _ _ hz0 hl0 ht0
  refine ⟨fun h bs => h1 h bs fun x hx hxt => (by rw [isT_zero hx] at hxt; cases hxt), fun v h => ⟨(h2 v h).2, ?_⟩⟩
  have := (solveP_len hc _ _ _ hl0 ht0 h).1
  simp only [valsB, List.length_map, List.length_drop]
  omega
end
end Go.Proofs.YtlojopaebdnacaaDoor.Lg
