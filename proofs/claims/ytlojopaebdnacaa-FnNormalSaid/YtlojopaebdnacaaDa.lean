/- The draws: what the source of choices does, function by function. -/
import Derived.Test.YtlojopaebdnacaaCa
import Derived.Test.YtlojopaebdnacaaLgU
set_option linter.unusedSimpArgs false
set_option linter.unusedVariables false
namespace Go.Proofs.Ytlojopaebdnacaa.Lg
open Go
attribute [local irreducible] SRun DS DRun
variable {Γ : St} {σ : St}
theorem tmod_in {a n : Int} (h : 0 ≤ a) (hn : 0 < n) : 0 ≤ a.tmod n ∧ a.tmod n < n := ⟨Int.tmod_nonneg _ h, Int.tmod_lt_of_pos _ hn⟩
/-- The bytes of a slice that came in. -/
def codeV (ex : Bool) (code : List UInt8) : V := .isl ex 1 (code.map fun c => .int .u8 (c.toNat : Int))
/-- A source of choices. -/
def srcC (ex : Bool) (code : List UInt8) (a s : Int) : List V := [codeV ex code, .int .i64 a, .int .i64 s]
theorem byte_ok {b : Nat} {ex : Bool} {code : List UInt8} {a s : Int} (hb : σ b = some (srcC ex code a s)) (ha : 0 ≤ a ∧ a ≤ 2305843009213693952) (hs : 0 ≤ s ∧ s < 2147483648) :
    ACalls Try.prog Γ 93 [.ptr b 0] σ fun r σ' => ∃ v s', 0 ≤ v ∧ v ≤ 255 ∧ 0 ≤ s' ∧ s' < 2147483648 ∧ r = .int .i64 v ∧ σ' = upd σ b (srcC ex code (a + 1) s') := by
  refine acalls_W c93_ok rfl ?_
  have w1 := wrap64 (a := a + 1) (by omega) (by omega)
  have w2 := wrap64 (a := a + 1 - 1) (by omega) (by omega)
  have w3 := wrap64 (a := s * 31) (by omega) (by omega)
  simp only [c93, srcC, codeV, hb, w1, go_sem, stepW_iaddr_isl, stepW_iaddr_msl, stepW_idxs, stepK_iaddr_isl, stepK_iaddr_msl, stepK_idxs, ne_eq, ↓reduceIte]
  refine W_drawW ?_
  simp only [go_sem, stepW_iaddr_isl, stepW_iaddr_msl, stepW_idxs, stepK_iaddr_isl, stepK_iaddr_msl, stepK_idxs, ne_eq, ↓reduceIte]
  refine iteW_of (fun h => ?_) (fun h => ?_)
  · simp only [decide_eq_true_eq] at h
    have hlt : a.toNat < code.length := by omega
    have ha2 : (a + 1 - 1).toNat = a.toNat := by omega
    have ha3 : 0 ≤ a + 1 - 1 := by omega
    have hget : (code.map fun c => V.int .u8 (c.toNat : Int))[a.toNat]? = some (.int .u8 (code[a.toNat].toNat : Int)) := by simp [hlt]
    have hc : 0 ≤ (code[a.toNat].toNat : Int) ∧ (code[a.toNat].toNat : Int) ≤ 255 := by have := code[a.toNat].toNat_lt; omega
    generalize (code[a.toNat].toNat : Int) = c at hget hc
    have w4 := wrap64 (a := c) (by omega) (by omega)
    have w5 := wrap64 (a := s * 31 + c) (by omega) (by omega)
    have w6 := wrap64 (a := s * 31 + c + 7) (by omega) (by omega)
    simp only [go_sem, stepW_iaddr_isl, stepW_iaddr_msl, stepW_idxs, stepK_iaddr_isl, stepK_iaddr_msl, stepK_idxs, ne_eq, ↓reduceIte]
    refine W_drawW ?_
    simp only [w2, w3, w4, w5, w6, ha2, ha3, hget, go_sem, stepW_iaddr_isl, stepW_iaddr_msl, stepW_idxs, stepK_iaddr_isl, stepK_iaddr_msl, stepK_idxs, ne_eq, ↓reduceIte]
    refine W_drawW ?_
    simp only [w2, w4, ha2, ha3, hget, go_sem, stepW_iaddr_isl, stepW_iaddr_msl, stepW_idxs, stepK_iaddr_isl, stepK_iaddr_msl, stepK_idxs, ne_eq, ↓reduceIte]
    refine W_retR c93_ok rfl ⟨c, (s * 31 + c + 7).tmod 2147483648, hc.1, hc.2, (tmod_in (by omega) (by omega)).1, (tmod_in (by omega) (by omega)).2, rfl, rfl⟩
  · simp only [go_sem, stepW_iaddr_isl, stepW_iaddr_msl, stepW_idxs, stepK_iaddr_isl, stepK_iaddr_msl, stepK_idxs, ne_eq, ↓reduceIte]
    refine iteW_of (fun h => ?_) (fun h => ?_)
    · simp only [go_sem, stepW_iaddr_isl, stepW_iaddr_msl, stepW_idxs, stepK_iaddr_isl, stepK_iaddr_msl, stepK_idxs, ne_eq, ↓reduceIte]
      exact W_retR c93_ok rfl ⟨0, s, by omega, by omega, hs.1, hs.2, rfl, rfl⟩
    · have w4 := wrap64 (a := s * 1103515245) (by omega) (by omega)
      have w5 := wrap64 (a := s * 1103515245 + 12345) (by omega) (by omega)
      simp only [w4, w5, go_sem, stepW_iaddr_isl, stepW_iaddr_msl, stepW_idxs, stepK_iaddr_isl, stepK_iaddr_msl, stepK_idxs, ne_eq, ↓reduceIte]
      have hq : 0 ≤ (s * 1103515245 + 12345).tmod 2147483648 ∧ (s * 1103515245 + 12345).tmod 2147483648 < 2147483648 := tmod_in (by omega) (by omega)
      have hd : ((s * 1103515245 + 12345).tmod 2147483648).tdiv 65536 = ((s * 1103515245 + 12345).tmod 2147483648) / 65536 := Int.tdiv_eq_ediv_of_nonneg hq.1
      have w6 := wrap64 (a := ((s * 1103515245 + 12345).tmod 2147483648).tdiv 65536) (by omega) (by omega)
      simp only [w6]
      refine W_retR c93_ok rfl ⟨_, _, (tmod_in (by omega) (by omega)).1, by have := (tmod_in (a := ((s * 1103515245 + 12345).tmod 2147483648).tdiv 65536) (n := 256) (by omega) (by omega)).2; omega, hq.1, hq.2, rfl, rfl⟩

/-- One of 0 to n - 1. -/
theorem next_ok {b : Nat} {ex : Bool} {code : List UInt8} {a s n : Int} (hb : σ b = some (srcC ex code a s)) (ha : 0 ≤ a ∧ a ≤ 1152921504606846976) (hs : 0 ≤ s ∧ s < 2147483648) :
    ACalls Try.prog Γ 45 [.ptr b 0, .int .i64 n] σ fun r σ' => ∃ v a' s', 0 ≤ v ∧ (n ≤ 1 → v = 0) ∧ (1 ≤ n → v < n) ∧ a ≤ a' ∧ a' ≤ a + 3 ∧ 0 ≤ s' ∧ s' < 2147483648 ∧ r = .int .i64 v ∧ σ' = upd σ b (srcC ex code a' s') := by
  refine acalls_W c45_ok rfl ?_
  simp only [c45, go_sem, stepW_iaddr_isl, stepW_iaddr_msl, stepW_idxs, stepK_iaddr_isl, stepK_iaddr_msl, stepK_idxs, ne_eq, ↓reduceIte]
  refine iteW_of (fun h => ?_) (fun h => ?_)
  · simp only [go_sem, stepW_iaddr_isl, stepW_iaddr_msl, stepW_idxs, stepK_iaddr_isl, stepK_iaddr_msl, stepK_idxs, ne_eq, ↓reduceIte]
    simp only [decide_eq_true_eq] at h
    refine W_retR c45_ok rfl ⟨0, a, s, by omega, fun _ => rfl, by omega, by omega, by omega, hs.1, hs.2, rfl, (upd_self σ hb).symm⟩
  · simp only [go_sem, stepW_iaddr_isl, stepW_iaddr_msl, stepW_idxs, stepK_iaddr_isl, stepK_iaddr_msl, stepK_idxs, ne_eq, ↓reduceIte]
    simp only [decide_eq_false_iff_not] at h
    refine iteW_of (fun h2 => ?_) (fun h2 => ?_)
    · simp only [go_sem, stepW_iaddr_isl, stepW_iaddr_msl, stepW_idxs, stepK_iaddr_isl, stepK_iaddr_msl, stepK_idxs, ne_eq, ↓reduceIte]
      refine SRun.callQ (byte_ok hb (by omega) hs) ⟨[], rfl, rfl⟩ rfl ?_
      rintro r σ' ⟨v, s', h1, h2, h3, h4, rfl, rfl⟩
      simp only [go_sem, stepW_iaddr_isl, stepW_iaddr_msl, stepW_idxs, stepK_iaddr_isl, stepK_iaddr_msl, stepK_idxs, ne_eq, ↓reduceIte]
      rw [if_pos (by omega)]
      exact W_retR c45_ok rfl ⟨v.tmod n, a + 1, s', Int.tmod_nonneg _ h1, by omega, fun _ => Int.tmod_lt_of_pos _ (by omega), by omega, by omega, h3, h4, rfl, rfl⟩
    · simp only [go_sem, stepW_iaddr_isl, stepW_iaddr_msl, stepW_idxs, stepK_iaddr_isl, stepK_iaddr_msl, stepK_idxs, ne_eq, ↓reduceIte]
      refine SRun.callQ (byte_ok hb (by omega) hs) ⟨[], rfl, rfl⟩ rfl ?_
      rintro r σ' ⟨v, s', h1, h2, h3, h4, rfl, rfl⟩
      simp only [go_sem, stepW_iaddr_isl, stepW_iaddr_msl, stepW_idxs, stepK_iaddr_isl, stepK_iaddr_msl, stepK_idxs, ne_eq, ↓reduceIte]
      refine SRun.callQ (byte_ok (upd_same _ _ _) (by omega) ⟨h3, h4⟩) ⟨[], rfl, rfl⟩ rfl ?_
      rintro r σ' ⟨v2, s2, k1, k2, k3, k4, rfl, rfl⟩
      simp only [go_sem, stepW_iaddr_isl, stepW_iaddr_msl, stepW_idxs, stepK_iaddr_isl, stepK_iaddr_msl, stepK_idxs, ne_eq, ↓reduceIte]
      refine SRun.callQ (byte_ok (upd_same _ _ _) (by omega) ⟨k3, k4⟩) ⟨[], rfl, rfl⟩ rfl ?_
      rintro r σ' ⟨v3, s3, l1, l2, l3, l4, rfl, rfl⟩
      have w1 := wrap64 (a := v * 65536) (by omega) (by omega)
      have w2 := wrap64 (a := v2 * 256) (by omega) (by omega)
      have w3 := wrap64 (a := v * 65536 + v2 * 256) (by omega) (by omega)
      have w4 := wrap64 (a := v * 65536 + v2 * 256 + v3) (by omega) (by omega)
      simp only [w1, w2, w3, w4, go_sem, stepW_iaddr_isl, stepW_iaddr_msl, stepW_idxs, stepK_iaddr_isl, stepK_iaddr_msl, stepK_idxs, ne_eq, ↓reduceIte]
      rw [if_pos (by omega)]
      exact W_retR c45_ok rfl ⟨_, a + 1 + 1 + 1, s3, Int.tmod_nonneg _ (by omega), by omega, fun _ => Int.tmod_lt_of_pos _ (by omega), by omega, by omega, l3, l4, rfl, rfl⟩

theorem chance_ok {b : Nat} {ex : Bool} {code : List UInt8} {a s n : Int} (hb : σ b = some (srcC ex code a s)) (ha : 0 ≤ a ∧ a ≤ 1152921504606846976) (hs : 0 ≤ s ∧ s < 2147483648) (hn : -1000000 ≤ n ∧ n ≤ 1000000) :
    ACalls Try.prog Γ 92 [.ptr b 0, .int .i64 n] σ fun r σ' => ∃ v a' s', a ≤ a' ∧ a' ≤ a + 3 ∧ 0 ≤ s' ∧ s' < 2147483648 ∧ r = .bool v ∧ σ' = upd σ b (srcC ex code a' s') := by
  refine acalls_W c92_ok rfl ?_
  have w1 := wrap64 (a := n - 1) (by omega) (by omega)
  simp only [c92, go_sem, stepW_iaddr_isl, stepW_iaddr_msl, stepW_idxs, stepK_iaddr_isl, stepK_iaddr_msl, stepK_idxs, ne_eq, ↓reduceIte]
  refine SRun.callQ (next_ok hb ha hs) ⟨[], rfl, rfl⟩ rfl ?_
  rintro r σ' ⟨v, a', s', h1, _, _, h2, h3, h4, h5, rfl, rfl⟩
  simp only [w1, go_sem, stepW_iaddr_isl, stepW_iaddr_msl, stepW_idxs, stepK_iaddr_isl, stepK_iaddr_msl, stepK_idxs, ne_eq, ↓reduceIte]
  exact W_retR c92_ok rfl ⟨_, a', s', h2, h3, h4, h5, rfl, rfl⟩

theorem size_ok {b : Nat} {ex : Bool} {code : List UInt8} {a s n : Int} (hb : σ b = some (srcC ex code a s)) (hl : code.length ≤ 140737488355328) :
    Ret Try.prog Γ 91 [.ptr b 0, .int .i64 n] σ (.int .i64 (min (1 + (code.length : Int) / 12) n)) σ := by
  refine ret_of c91_ok rfl ?_
  have hd : (code.length : Int).tdiv 12 = (code.length : Int) / 12 := Int.tdiv_eq_ediv_of_nonneg (by omega)
  have w0 := wrap64 (a := (code.length : Int).tdiv 12) (by omega) (by omega)
  have w1 := wrap64 (a := 1 + (code.length : Int).tdiv 12) (by omega) (by omega)
  simp only [c91, hb, srcC, codeV, w0, w1, go_sem, stepW_iaddr_isl, stepW_iaddr_msl, stepW_idxs, stepK_iaddr_isl, stepK_iaddr_msl, stepK_idxs, ne_eq, ↓reduceIte]
  refine W_retR c91_ok rfl ⟨?_, rfl⟩
  simp only [look, ↓reduceIte]
  congr 1
  rw [Int.tdiv_eq_ediv_of_nonneg (by omega)]
  split <;> omega

/-- Literals of some variables. -/
def litsIn (vars : Int) (xs : List Int) : Prop := ∀ x ∈ xs, x ≠ 0 ∧ -vars ≤ x ∧ x ≤ vars
theorem clause_ok {b : Nat} {ex : Bool} {code : List UInt8} {a s vars n : Int} (hb : σ b = some (srcC ex code a s)) (ha : 0 ≤ a ∧ a ≤ 1000000000000) (hs : 0 ≤ s ∧ s < 2147483648) (hv : 0 ≤ vars ∧ vars ≤ 1000) (hn : 0 ≤ n ∧ n ≤ 1000) :
    ACalls Try.prog Γ 44 [.ptr b 0, .int .i64 vars, .int .i64 n] σ fun r σ' => ∃ xs a' s', (xs.length : Int) ≤ n ∧ (1 ≤ vars → (xs.length : Int) = n) ∧ litsIn vars xs ∧ a ≤ a' ∧ a' ≤ a + 6 * n ∧ 0 ≤ s' ∧ s' < 2147483648 ∧ OwnS (upd σ b (srcC ex code a' s')) 1 (ints xs) xs.length r σ' := by
  refine acalls_W c44_ok rfl ?_
  simp only [c44, List.replicate_zero, go_sem, stepW_iaddr_isl, stepW_iaddr_msl, stepW_idxs, stepK_iaddr_isl, stepK_iaddr_msl, stepK_idxs, ne_eq, ↓reduceIte]
  refine W_loopR (fun m T σ' => ∃ (i : Nat) (xs : List Int) (a' s' : Int), (i : Int) + m = n ∧ look T 0 = .ptr b 0 ∧ look T 1 = .int .i64 vars ∧ look T 2 = .int .i64 n ∧ look T 8 = .int .i64 i ∧ xs.length = i ∧ (1 ≤ i → 1 ≤ vars) ∧ litsIn vars xs ∧ a ≤ a' ∧ a' ≤ a + 6 * i ∧ 0 ≤ s' ∧ s' < 2147483648 ∧ OwnS (upd σ b (srcC ex code a' s')) 1 (ints xs) xs.length (look T 7) σ') n.toNat ?_ ?_
  · refine ⟨0, [], a, s, (by omega), rfl, rfl, rfl, rfl, rfl, (by omega), (fun x hx => by cases hx), (by omega), (by omega), hs.1, hs.2, ?_⟩
    rw [upd_self σ hb]; exact OwnS.nil _ _
  · rintro m T σ' ih ⟨i, xs, a', s', hm, h0, h1, h2, h8, hx, hi, hl, ha1, ha2, hs1, hs2, ho⟩
    simp only [h0, h1, h2, h8, go_sem, stepW_iaddr_isl, stepW_iaddr_msl, stepW_idxs, stepK_iaddr_isl, stepK_iaddr_msl, stepK_idxs, ne_eq, ↓reduceIte]
    refine guardW_of (fun h => ?_) (fun h => ?_)
    · simp only [h, h1, go_sem, stepW_iaddr_isl, stepW_iaddr_msl, stepW_idxs, stepK_iaddr_isl, stepK_iaddr_msl, stepK_idxs, ne_eq, ↓reduceIte]
      have h' := of_decide_eq_true h
      refine iteW_of (fun h3 => ?_) (fun h3 => ?_)
      · simp only [h0, h1, h2, go_sem, stepW_iaddr_isl, stepW_iaddr_msl, stepW_idxs, stepK_iaddr_isl, stepK_iaddr_msl, stepK_idxs, ne_eq, ↓reduceIte]
        have h3' := of_decide_eq_true h3
        refine SRun.callQ (next_ok (ho.get (upd_same _ _ _)) (by omega) ⟨hs1, hs2⟩) ⟨[], rfl, rfl⟩ rfl ?_
        rintro r σ2 ⟨v, a2, s2, k1, k2, k3, k4, k5, k6, k7, rfl, rfl⟩
        have w1 := wrap64 (a := 1 + v) (by omega) (by omega)
        simp only [h0, h1, h2, w1, go_sem, stepW_iaddr_isl, stepW_iaddr_msl, stepW_idxs, stepK_iaddr_isl, stepK_iaddr_msl, stepK_idxs, ne_eq, ↓reduceIte]
        have ho2 := ho.upd (c' := srcC ex code a2 s2) (upd_same _ _ _)
        rw [upd_upd] at ho2
        refine SRun.callQ (chance_ok (ho2.get (upd_same _ _ _)) (by omega) ⟨k6, k7⟩ (by omega)) ⟨[], rfl, rfl⟩ rfl ?_
        rintro r σ3 ⟨u, a3, s3, l1, l2, l3, l4, rfl, rfl⟩
        simp only [go_sem, stepW_iaddr_isl, stepW_iaddr_msl, stepW_idxs, stepK_iaddr_isl, stepK_iaddr_msl, stepK_idxs, ne_eq, ↓reduceIte]
        have ho3 := ho2.upd (c' := srcC ex code a3 s3) (upd_same _ _ _)
        rw [upd_upd, upd_upd] at ho3
        have w2 := wrap64 (a := 0 - (1 + v)) (by omega) (by omega)
        have w3 := wrap64 (a := (i : Int) + 1) (by omega) (by omega)
        refine iteW_of (fun hu => ?_) (fun hu => ?_)
        all_goals
          simp only [w2, go_sem, stepW_iaddr_isl, stepW_iaddr_msl, stepW_idxs, stepK_iaddr_isl, stepK_iaddr_msl, stepK_idxs, ne_eq, ↓reduceIte]
          refine SRun.appO ho3 src_i rfl (by omega) ?_
          intro r σ4 ho4
          rw [ints_app] at ho4
          simp only [h8, w3, go_sem, stepW_iaddr_isl, stepW_iaddr_msl, stepW_idxs, stepK_iaddr_isl, stepK_iaddr_msl, stepK_idxs, ne_eq, ↓reduceIte]
          refine ih (m - 1) _ _ (by omega) ⟨i + 1, xs ++ [_], a3, s3, (by omega), ?_, ?_, ?_, ?_, (by simp [hx]), (by omega), ?_, (by omega), (by omega), l3, l4, by rw [List.length_append]; exact ho4⟩
          · simp only [go_sem, stepW_iaddr_isl, stepW_iaddr_msl, stepW_idxs, stepK_iaddr_isl, stepK_iaddr_msl, stepK_idxs, ne_eq, ↓reduceIte]; exact h0
          · simp only [go_sem, stepW_iaddr_isl, stepW_iaddr_msl, stepW_idxs, stepK_iaddr_isl, stepK_iaddr_msl, stepK_idxs, ne_eq, ↓reduceIte]; exact h1
          · simp only [go_sem, stepW_iaddr_isl, stepW_iaddr_msl, stepW_idxs, stepK_iaddr_isl, stepK_iaddr_msl, stepK_idxs, ne_eq, ↓reduceIte]; exact h2
          · simp only [go_sem, stepW_iaddr_isl, stepW_iaddr_msl, stepW_idxs, stepK_iaddr_isl, stepK_iaddr_msl, stepK_idxs, ne_eq, ↓reduceIte]; rfl
          · intro x hx
            rcases List.mem_append.1 hx with hx | hx
            · exact hl x hx
            · simp only [List.mem_singleton] at hx
              omega
      · simp only [go_sem, stepW_iaddr_isl, stepW_iaddr_msl, stepW_idxs, stepK_iaddr_isl, stepK_iaddr_msl, stepK_idxs, ne_eq, ↓reduceIte]
        have h3' := of_decide_eq_false h3
        exact W_retR c44_ok rfl ⟨xs, a', s', by omega, by omega, hl, ha1, by omega, hs1, hs2, ho⟩
    · simp only [h, go_sem, stepW_iaddr_isl, stepW_iaddr_msl, stepW_idxs, stepK_iaddr_isl, stepK_iaddr_msl, stepK_idxs, ne_eq, ↓reduceIte]
      have h' := of_decide_eq_false h
      exact W_retR c44_ok rfl ⟨xs, a', s', by omega, by omega, hl, ha1, by omega, hs1, hs2, ho⟩
/-- A clause that is given up. -/
theorem clause_frz {b : Nat} {ex : Bool} {code : List UInt8} {a s vars n : Int} (hb : σ b = some (srcC ex code a s)) (ha : 0 ≤ a ∧ a ≤ 1000000000000) (hs : 0 ≤ s ∧ s < 2147483648) (hv : 0 ≤ vars ∧ vars ≤ 1000) (hn : 0 ≤ n ∧ n ≤ 1000) :
    ACalls Try.prog Γ 44 [.ptr b 0, .int .i64 vars, .int .i64 n] σ fun r σ' => ∃ xs a' s', (xs.length : Int) ≤ n ∧ (1 ≤ vars → (xs.length : Int) = n) ∧ litsIn vars xs ∧ a ≤ a' ∧ a' ≤ a + 6 * n ∧ 0 ≤ s' ∧ s' < 2147483648 ∧ r = intsV xs ∧ σ' = upd σ b (srcC ex code a' s') :=
  (clause_ok hb ha hs hv hn).conv fun r σ' ⟨xs, a', s', h1, h2, h3, h4, h5, h6, h7, ho⟩ => ⟨_, _, ho.conv (ints_one xs), xs, a', s', h1, h2, h3, h4, h5, h6, h7, rfl, rfl⟩
/-- A formula that is given up. -/
def clsV (cls : List (List Int)) : List V := cls.map intsV
def cnfV (vars : Int) (cls : List (List Int)) : V := .agg [.int .i64 vars, .isl false 1 (clsV cls)]
theorem clsV_one (cls : List (List Int)) : ∀ c ∈ clsV cls, c.one = true := by
  intro c hc; simp only [clsV, List.mem_map] at hc; obtain ⟨x, _, rfl⟩ := hc; rfl
/-- The formulas that are drawn. -/
def Drawn (vars : Int) (cls : List (List Int)) : Prop := 1 ≤ vars ∧ vars ≤ 6 ∧ cls.length ≤ 16 ∧ ∀ c ∈ cls, c.length ≤ 3 ∧ litsIn vars c
theorem cnf_ok {b : Nat} {ex : Bool} {code : List UInt8} {a s : Int} (hb : σ b = some (srcC ex code a s)) (ha : 0 ≤ a ∧ a ≤ 100000000000) (hs : 0 ≤ s ∧ s < 2147483648) (hl : code.length ≤ 140737488355328) :
    ACalls Try.prog Γ 43 [.ptr b 0] σ fun r σ' => ∃ vars cls a' s', Drawn vars cls ∧ a ≤ a' ∧ a' ≤ a + 1000 ∧ 0 ≤ s' ∧ s' < 2147483648 ∧ r = cnfV vars cls ∧ σ' = upd σ b (srcC ex code a' s') := by
  refine acalls_W c43_ok rfl ?_
  simp only [c43, go_sem, stepW_iaddr_isl, stepW_iaddr_msl, stepW_idxs, stepK_iaddr_isl, stepK_iaddr_msl, stepK_idxs, ne_eq, ↓reduceIte]
  refine SRun.allocR ?_
  intro b2 hb2
  have e2 : b2 ≠ b := fun e => by subst e; rw [hb] at hb2; cases hb2
  have g2 : upd σ b2 [.int .i64 0, .isl true 0 []] b = some (srcC ex code a s) := le_upd hb2 _ _ hb
  simp only [go_sem, stepW_iaddr_isl, stepW_iaddr_msl, stepW_idxs, stepK_iaddr_isl, stepK_iaddr_msl, stepK_idxs, ne_eq, ↓reduceIte]
  refine SRun.callQ (next_ok g2 (by omega) hs) ⟨[], rfl, rfl⟩ rfl ?_
  rintro r σ2 ⟨v, a2, s2, k1, k2, k3, k4, k5, k6, k7, rfl, rfl⟩
  have w1 := wrap64 (a := 1 + v) (by omega) (by omega)
  simp only [w1, go_sem, stepW_iaddr_isl, stepW_iaddr_msl, stepW_idxs, stepK_iaddr_isl, stepK_iaddr_msl, stepK_idxs, ne_eq, ↓reduceIte]
  refine SRun.allocR ?_
  intro b3 hb3
  have e3 : b3 ≠ b := fun e => by subst e; rw [upd_same] at hb3; cases hb3
  have e32 : b3 ≠ b2 := fun e => by subst e; rw [upd_ne _ _ e2, upd_same] at hb3; cases hb3
  simp only [go_sem, stepW_iaddr_isl, stepW_iaddr_msl, stepW_idxs, stepK_iaddr_isl, stepK_iaddr_msl, stepK_idxs, ne_eq, ↓reduceIte]
  have g3 : ∀ c, upd (upd (upd σ b2 [.int .i64 0, .isl true 0 []]) b (srcC ex code a2 s2)) b3 c b = some (srcC ex code a2 s2) := fun c => by rw [upd_ne _ _ e3.symm, upd_same]
  refine SRun.callR (size_ok (g3 _) hl) ⟨[], rfl, rfl⟩ rfl ?_
  have w2 := wrap64 (a := min (1 + (code.length : Int) / 12) 14 + 3) (by omega) (by omega)
  simp only [w2, go_sem, stepW_iaddr_isl, stepW_iaddr_msl, stepW_idxs, stepK_iaddr_isl, stepK_iaddr_msl, stepK_idxs, ne_eq, ↓reduceIte]
  refine SRun.callQ (next_ok (g3 _) (by omega) ⟨k6, k7⟩) ⟨[], rfl, rfl⟩ rfl ?_
  rintro r σ2 ⟨v3, a3, s3, l1, l2, l3, l4, l5, l6, l7, rfl, rfl⟩
  simp only [go_sem, stepW_iaddr_isl, stepW_iaddr_msl, stepW_idxs, stepK_iaddr_isl, stepK_iaddr_msl, stepK_idxs, ne_eq, ↓reduceIte]
  have hv17 : v3 < 17 := by
    have := l3 (by omega)
    omega
  clear l2 l3
  generalize hz2 : upd σ b2 [.int .i64 0, .isl true 0 []] = σa
  have ga : σa b = some (srcC ex code a s) := by rw [← hz2]; exact g2
  refine W_loopR (fun m T σ' => ∃ (cls : List (List Int)) (a' s' : Int) (q : V), (m : Int) + cls.length = v3 ∧ look T 0 = .ptr b 0 ∧ look T 3 = .ptr b3 0 ∧ look T 2 = .ptr b2 0 ∧ look T 4 = .int .i64 m ∧ (∀ c ∈ cls, c.length ≤ 3 ∧ litsIn (1 + v) c) ∧ a ≤ a' ∧ a' ≤ a + 6 + 21 * cls.length ∧ 0 ≤ s' ∧ s' < 2147483648 ∧ OwnS (upd (upd σa b (srcC ex code a' s')) b3 [.int .i64 (1 + v), q]) 1 (clsV cls) cls.length q σ') v3.toNat ?_ ?_
  · refine ⟨[], a3, s3, .isl true 0 [], (by simp; omega), rfl, rfl, rfl, ?_, (fun c hc => by cases hc), (by omega), (by simp; omega), l6, l7, ?_⟩
    · simp only [go_sem, stepW_iaddr_isl, stepW_iaddr_msl, stepW_idxs, stepK_iaddr_isl, stepK_iaddr_msl, stepK_idxs, ne_eq, ↓reduceIte]; congr 1; omega
    · rw [upd_comm (upd σa b (srcC ex code a2 s2)) e3, upd_upd]; exact OwnS.nil _ _
  · rintro m T σ' ih ⟨cls, a', s', q, hm, h0, h3, h2, h4, hcl, ha1, ha2, hs1, hs2, ho⟩
    simp only [h0, h3, h4, go_sem, stepW_iaddr_isl, stepW_iaddr_msl, stepW_idxs, stepK_iaddr_isl, stepK_iaddr_msl, stepK_idxs, ne_eq, ↓reduceIte]
    refine iteW_of (fun h => ?_) (fun h => ?_)
    · simp only [go_sem, stepW_iaddr_isl, stepW_iaddr_msl, stepW_idxs, stepK_iaddr_isl, stepK_iaddr_msl, stepK_idxs, ne_eq, ↓reduceIte]
      have h' := of_decide_eq_true h
      have gb3 := ho.get (upd_same _ b3 _)
      have gb := ho.get (b := b) (c := srcC ex code a' s') (by rw [upd_ne _ _ e3.symm, upd_same])
      rw [W_draw]
      refine DRun.start (DRun.mix1 gb rfl ?_)
      have h16 : cls.length ≤ 16 := by omega
      have gd3 : del σ' b b3 = some [.int .i64 (1 + v), q] := by rw [del_ne _ e3]; exact gb3
      simp only [h0, h3, h4, gd3, go_sem, stepW_iaddr_isl, stepW_iaddr_msl, stepW_idxs, stepK_iaddr_isl, stepK_iaddr_msl, stepK_idxs, ne_eq, ↓reduceIte]
      refine DS.callQ (next_ok (upd_same emp b (srcC ex code a' s')) (by omega) ⟨hs1, hs2⟩) ⟨[], rfl, rfl⟩ rfl ?_
      rintro r sx ⟨v4, a4, s4, p1, p2, p3, p4, p5, p6, p7, rfl, rfl⟩ _
      have hget : ∃ w, 0 ≤ w ∧ w ≤ 3 ∧ [V.int IntKind.i64 2, .int .i64 3, .int .i64 1, .int .i64 2, .int .i64 3, .int .i64 0, .int .i64 3][v4.toNat]? = some (.int .i64 w) := by
        obtain ⟨u, rfl⟩ : ∃ u : Nat, v4 = u := ⟨v4.toNat, by omega⟩
        rw [Int.toNat_natCast]
        have : u < 7 := by omega
        match u, this with
        | 0, _ => exact ⟨2, by omega, by omega, rfl⟩
        | 1, _ => exact ⟨3, by omega, by omega, rfl⟩
        | 2, _ => exact ⟨1, by omega, by omega, rfl⟩
        | 3, _ => exact ⟨2, by omega, by omega, rfl⟩
        | 4, _ => exact ⟨3, by omega, by omega, rfl⟩
        | 5, _ => exact ⟨0, by omega, by omega, rfl⟩
        | 6, _ => exact ⟨3, by omega, by omega, rfl⟩
      obtain ⟨w, hw0, hw3, hget⟩ := hget
      simp only [h0, h3, h4, gd3, p1, hget, go_sem, stepW_iaddr_isl, stepW_iaddr_msl, stepW_idxs, stepK_iaddr_isl, stepK_iaddr_msl, stepK_idxs, ne_eq, ↓reduceIte]
      refine DS.callQ (clause_frz (upd_same emp b (srcC ex code a4 s4)) (by omega) ⟨p6, p7⟩ (by omega) (by omega)) ⟨[], rfl, rfl⟩ rfl ?_
      rintro r sx ⟨xs, a5, s5, q1, q2, q3, q4, q5, q6, q7, rfl, rfl⟩ _
      simp only [intsV, go_sem, stepW_iaddr_isl, stepW_iaddr_msl, stepW_idxs, stepK_iaddr_isl, stepK_iaddr_msl, stepK_idxs, ne_eq, ↓reduceIte]
      refine ⟨_, rfl, ?_⟩
      have ho2 := ho.upd (b := b) (c := srcC ex code a' s') (c' := srcC ex code a5 s5) (by rw [upd_ne _ _ e3.symm, upd_same])
      rw [upd_comm (upd σa b _) e3, upd_upd] at ho2
      refine DRun.appO ho2 src_s rfl (by omega) ?_
      intro r σ4 ho4
      have hap : clsV cls ++ [.isl false 1 (ints xs)] = clsV (cls ++ [xs]) := by simp [clsV, intsV]
      rw [hap] at ho4
      have gb4 := ho4.get (upd_same _ b3 _)
      have w5 := wrap64 (a := (m : Int) - 1) (by omega) (by omega)
      have hr1 := ho4.one
      simp only [h0, h3, h4, gb4, w5, hr1.1, hr1.2, go_sem, stepW_iaddr_isl, stepW_iaddr_msl, stepW_idxs, stepK_iaddr_isl, stepK_iaddr_msl, stepK_idxs, ne_eq, ↓reduceIte]
      have ho5 := ho4.upd (c' := [.int .i64 (1 + v), r]) (upd_same _ b3 _)
      rw [upd_upd] at ho5
      refine ih (m - 1) _ _ (by omega) ⟨cls ++ [xs], a5, s5, r, (by simp; omega), ?_, ?_, ?_, ?_, ?_, (by omega), (by simp; omega), q6, q7, by rw [List.length_append]; exact ho5⟩
      · simp only [go_sem, stepW_iaddr_isl, stepW_iaddr_msl, stepW_idxs, stepK_iaddr_isl, stepK_iaddr_msl, stepK_idxs, ne_eq, ↓reduceIte]; exact h0
      · simp only [go_sem, stepW_iaddr_isl, stepW_iaddr_msl, stepW_idxs, stepK_iaddr_isl, stepK_iaddr_msl, stepK_idxs, ne_eq, ↓reduceIte]; exact h3
      · simp only [go_sem, stepW_iaddr_isl, stepW_iaddr_msl, stepW_idxs, stepK_iaddr_isl, stepK_iaddr_msl, stepK_idxs, ne_eq, ↓reduceIte]; exact h2
      · simp only [go_sem, stepW_iaddr_isl, stepW_iaddr_msl, stepW_idxs, stepK_iaddr_isl, stepK_iaddr_msl, stepK_idxs, ne_eq, ↓reduceIte]; congr 1; omega
      · intro c hc
        rcases List.mem_append.1 hc with hc | hc
        · exact hcl c hc
        · simp only [List.mem_singleton] at hc
          subst hc
          exact ⟨by omega, q3⟩
    · simp only [go_sem, stepW_iaddr_isl, stepW_iaddr_msl, stepW_idxs, stepK_iaddr_isl, stepK_iaddr_msl, stepK_idxs, ne_eq, ↓reduceIte]
      have h' := of_decide_eq_false h
      have gb3 := ho.get (upd_same _ b3 _)
      have gb2 := ho.get (b := b2) (c := [.int .i64 0, .isl true 0 []]) (by rw [upd_ne _ _ e32.symm, upd_ne _ _ e2, ← hz2, upd_same])
      have hr1 := ho.one.2
      simp only [h3, h2, gb3, gb2, hr1, go_sem, stepW_iaddr_isl, stepW_iaddr_msl, stepW_idxs, stepK_iaddr_isl, stepK_iaddr_msl, stepK_idxs, ne_eq, ↓reduceIte]
      refine W_retC c43_ok (r := .agg [.int .i64 (1 + v), q]) (σ' := upd σ b (srcC ex code a' s')) (r' := cnfV (1 + v) cls) ?_ ?_ ⟨1 + v, cls, a', s', ⟨by omega, by omega, by omega, hcl⟩, by omega, by omega, hs1, hs2, rfl, rfl⟩
      · exact resV_cellA (by simp only [go_sem, stepW_iaddr_isl, stepW_iaddr_msl, stepW_idxs, stepK_iaddr_isl, stepK_iaddr_msl, stepK_idxs, ne_eq, ↓reduceIte]; exact h2) (upd_same _ _ _) rfl
      · have hnone : ∀ c, upd (upd σa b (srcC ex code a' s')) b3 [.int .i64 (1 + v), q] c = none → c ≠ b ∧ c ≠ b2 ∧ σ c = none := by
          intro c hc
          rw [upd_none, upd_none, ← hz2, upd_none] at hc
          exact ⟨hc.2.1, hc.2.2.1, hc.2.2.2⟩
        have hσ3 : σ b3 = none := by
          rw [upd_none, hz2, ← hz2, upd_none] at hb3
          exact hb3.2.2
        refine ⟨fun c x hc => ?_, .agg _ _ rfl ?_ ?_⟩
        · have hcb2 : c ≠ b2 := fun e => by subst e; rw [upd_ne _ _ e2, hb2] at hc; cases hc
          rw [upd_ne _ _ hcb2]
          refine ho.get ?_
          have hcb3 : c ≠ b3 := fun e => by subst e; rw [upd_ne _ _ e3, hσ3] at hc; cases hc
          rw [upd_ne _ _ hcb3]
          by_cases hcb : c = b
          · subst hcb; rw [upd_same] at hc ⊢; exact hc
          · rw [upd_ne _ _ hcb] at hc ⊢; rw [← hz2, upd_ne _ _ hcb2]; exact hc
        · intro i x hx
          match i with
          | 0 => simp at hx; subst hx; rfl
          | 1 => simp at hx; subst hx; rfl
          | i + 2 => simp at hx
        · intro i x y hy hx
          match i with
          | 0 => simp at hx hy; subst hx hy; exact .refl _
          | 1 =>
            simp at hx hy; subst hx hy
            exact ho.frz (clsV_one cls) (fun c hc => upd_ne _ _ (hnone c hc).2.1) (fun c hc => upd_none.2 ⟨(hnone c hc).1, (hnone c hc).2.2⟩)
          | i + 2 => simp at hx
theorem source_ok {ex : Bool} {code : List UInt8} (hl : code.length ≤ 140737488355328) :
    ACalls Try.prog Γ 42 [codeV ex code] σ fun r σ' => ∃ b s, σ b = none ∧ 0 ≤ s ∧ s < 2147483648 ∧ r = .ptr b 0 ∧ σ' = upd σ b (srcC ex code 0 s) := by
  refine acalls_W c42_ok rfl ?_
  simp only [c42, codeV, go_sem, stepW_iaddr_isl, stepW_iaddr_msl, stepW_idxs, stepK_iaddr_isl, stepK_iaddr_msl, stepK_idxs, ne_eq, ↓reduceIte]
  refine SRun.boxR (by simp [ev, look, V.cells, V.one]) ?_
  intro b hb
  simp only [go_sem, stepW_iaddr_isl, stepW_iaddr_msl, stepW_idxs, stepK_iaddr_isl, stepK_iaddr_msl, stepK_idxs, ne_eq, ↓reduceIte]
  have h1 := tmod_in (a := (code.length : Int)) (n := 1000) (by omega) (by omega)
  exact W_retR c42_ok rfl ⟨b, _, hb, h1.1, by omega, rfl, rfl⟩
theorem cnfOf_ok {ex : Bool} {code : List UInt8} (hl : code.length ≤ 140737488355328) :
    ACalls Try.prog Γ 10 [codeV ex code] σ fun r σ' => ∃ vars cls, Drawn vars cls ∧ r = cnfV vars cls ∧ σ' = σ := by
  refine acalls_W c10_ok rfl ?_
  simp only [c10, go_sem, stepW_iaddr_isl, stepW_iaddr_msl, stepW_idxs, stepK_iaddr_isl, stepK_iaddr_msl, stepK_idxs, ne_eq, ↓reduceIte]
  refine SRun.allocR ?_
  intro b2 hb2
  simp only [go_sem, stepW_iaddr_isl, stepW_iaddr_msl, stepW_idxs, stepK_iaddr_isl, stepK_iaddr_msl, stepK_idxs, ne_eq, ↓reduceIte]
  refine SRun.callQ (source_ok hl) ⟨[], rfl, rfl⟩ rfl ?_
  rintro r σ2 ⟨b, s, hb, h1, h2, rfl, rfl⟩
  have hn := upd_none.1 hb
  simp only [go_sem, stepW_iaddr_isl, stepW_iaddr_msl, stepW_idxs, stepK_iaddr_isl, stepK_iaddr_msl, stepK_idxs, ne_eq, ↓reduceIte]
  refine SRun.callQ (cnf_ok (upd_same _ _ _) (by omega) ⟨h1, h2⟩ hl) ⟨[], rfl, rfl⟩ rfl ?_
  rintro r σ2 ⟨vars, cls, a', s', hd, k1, k2, k3, k4, rfl, rfl⟩
  simp only [cnfV, upd_ne _ _ hn.1.symm, go_sem, stepW_iaddr_isl, stepW_iaddr_msl, stepW_idxs, stepK_iaddr_isl, stepK_iaddr_msl, stepK_idxs, ne_eq, ↓reduceIte]
  refine W_retC c10_ok (r := cnfV vars cls) (r' := cnfV vars cls) (σ' := σ) (resV_cellA rfl (upd_same _ _ _) rfl) (Conv.drop _ fun c x hc => ?_) ⟨vars, cls, hd, rfl, rfl⟩
  have hc2 : c ≠ b2 := fun e => by subst e; rw [hb2] at hc; cases hc
  have hcb : c ≠ b := fun e => by subst e; rw [hn.2] at hc; cases hc
  rw [upd_ne _ _ hc2, upd_ne _ _ hcb, upd_ne _ _ hc2]; exact hc
end Go.Proofs.Ytlojopaebdnacaa.Lg
