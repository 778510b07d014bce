/- What is told of the functions that are reached, as far as it is asked here. -/
import Derived.Test.YtabelcohkpmpnaaWc
import Derived.Test.YtabelcohkpmpnaaLgO
import Derived.KernelRfl
set_option linter.unusedSimpArgs false
set_option linter.unusedVariables false
namespace Go.Proofs.Ytabelcohkpmpnaa.Lg
open Go
section
attribute [local irreducible] SRun DS DRun
variable {Γ : St} {σ : St}
theorem tmod_in {a n : Int} (h : 0 ≤ a) (hn : 0 < n) : 0 ≤ a.tmod n ∧ a.tmod n < n := ⟨Int.tmod_nonneg _ h, Int.tmod_lt_of_pos _ hn⟩
/-- The bytes of a slice that came in. -/
def codeV (ex : Bool) (code : List UInt8) : V := .isl ex 1 (code.map fun c => .int .u8 (c.toNat : Int))
/-- A source of choices. -/
def srcC (ex : Bool) (code : List UInt8) (a s : Int) : List V := [codeV ex code, .int .i64 a, .int .i64 s]
theorem byte_ok {b : Nat} {ex : Bool} {code : List UInt8} {a s : Int} (hb : σ b = some (srcC ex code a s)) (ha : 0 ≤ a ∧ a ≤ 2305843009213693952) (hs : 0 ≤ s ∧ s < 2147483648) :
    ACalls Try.prog Γ 162 [.ptr b 0] σ fun r σ' => ∃ v s', 0 ≤ v ∧ v ≤ 255 ∧ 0 ≤ s' ∧ s' < 2147483648 ∧ r = .int .i64 v ∧ σ' = upd σ b (srcC ex code (a + 1) s') := by
  refine acalls_W c162_ok rfl ?_
  have w1 := wrap64 (a := a + 1) (by omega) (by omega)
  have w2 := wrap64 (a := a + 1 - 1) (by omega) (by omega)
  have w3 := wrap64 (a := s * 31) (by omega) (by omega)
  simp only [c162, srcC, codeV, hb, w1, go_sem, stepW_iaddr_isl, stepW_iaddr_msl, stepW_idxs, stepK_iaddr_isl, stepK_iaddr_msl, stepK_idxs, ne_eq, ↓reduceIte]
  refine W_drawW ?_
  simp only [go_sem, stepW_iaddr_isl, stepW_iaddr_msl, stepW_idxs, stepK_iaddr_isl, stepK_iaddr_msl, stepK_idxs, ne_eq, ↓reduceIte]
  refine iteW_of (fun h => ?_) (fun h => ?_)
  · simp only [decide_eq_true_eq] at h
    have hlt : a.toNat < code.length := by omega
    have ha2 : (a + 1 - 1).toNat = a.toNat := by omega
    have ha3 : 0 ≤ a + 1 - 1 := by omega
    have hget : (code.map fun c => V.int .u8 (c.toNat : Int))[a.toNat]? = some (.int .u8 (code[a.toNat].toNat : Int)) := by simp [hlt]
    have hc : 0 ≤ (code[a.toNat].toNat : Int) ∧ (code[a.toNat].toNat : Int) ≤ 255 := by have := code[a.toNat].toNat_lt; omega
    generalize (code[a.toNat].toNat : Int) = c at hget hc
    have w4 := wrap64 (a := c) (by omega) (by omega)
    have w5 := wrap64 (a := s * 31 + c) (by omega) (by omega)
    have w6 := wrap64 (a := s * 31 + c + 7) (by omega) (by omega)
    simp only [go_sem, stepW_iaddr_isl, stepW_iaddr_msl, stepW_idxs, stepK_iaddr_isl, stepK_iaddr_msl, stepK_idxs, ne_eq, ↓reduceIte]
    refine W_drawW ?_
    simp only [w2, w3, w4, w5, w6, ha2, ha3, hget, go_sem, stepW_iaddr_isl, stepW_iaddr_msl, stepW_idxs, stepK_iaddr_isl, stepK_iaddr_msl, stepK_idxs, ne_eq, ↓reduceIte]
    refine W_drawW ?_
    simp only [w2, w4, ha2, ha3, hget, go_sem, stepW_iaddr_isl, stepW_iaddr_msl, stepW_idxs, stepK_iaddr_isl, stepK_iaddr_msl, stepK_idxs, ne_eq, ↓reduceIte]
    refine W_retR c162_ok rfl ⟨c, (s * 31 + c + 7).tmod 2147483648, hc.1, hc.2, (tmod_in (by omega) (by omega)).1, (tmod_in (by omega) (by omega)).2, rfl, rfl⟩
  · simp only [go_sem, stepW_iaddr_isl, stepW_iaddr_msl, stepW_idxs, stepK_iaddr_isl, stepK_iaddr_msl, stepK_idxs, ne_eq, ↓reduceIte]
    refine iteW_of (fun h => ?_) (fun h => ?_)
    · simp only [go_sem, stepW_iaddr_isl, stepW_iaddr_msl, stepW_idxs, stepK_iaddr_isl, stepK_iaddr_msl, stepK_idxs, ne_eq, ↓reduceIte]
      exact W_retR c162_ok rfl ⟨0, s, by omega, by omega, hs.1, hs.2, rfl, rfl⟩
    · have w4 := wrap64 (a := s * 1103515245) (by omega) (by omega)
      have w5 := wrap64 (a := s * 1103515245 + 12345) (by omega) (by omega)
      simp only [w4, w5, go_sem, stepW_iaddr_isl, stepW_iaddr_msl, stepW_idxs, stepK_iaddr_isl, stepK_iaddr_msl, stepK_idxs, ne_eq, ↓reduceIte]
      have hq : 0 ≤ (s * 1103515245 + 12345).tmod 2147483648 ∧ (s * 1103515245 + 12345).tmod 2147483648 < 2147483648 := tmod_in (by omega) (by omega)
      have hd : ((s * 1103515245 + 12345).tmod 2147483648).tdiv 65536 = ((s * 1103515245 + 12345).tmod 2147483648) / 65536 := Int.tdiv_eq_ediv_of_nonneg hq.1
      have w6 := wrap64 (a := ((s * 1103515245 + 12345).tmod 2147483648).tdiv 65536) (by omega) (by omega)
      simp only [w6]
      refine W_retR c162_ok rfl ⟨_, _, (tmod_in (by omega) (by omega)).1, by have := (tmod_in (a := ((s * 1103515245 + 12345).tmod 2147483648).tdiv 65536) (n := 256) (by omega) (by omega)).2; omega, hq.1, hq.2, rfl, rfl⟩

/-- One of 0 to n - 1. -/
theorem next_ok {b : Nat} {ex : Bool} {code : List UInt8} {a s n : Int} (hb : σ b = some (srcC ex code a s)) (ha : 0 ≤ a ∧ a ≤ 1152921504606846976) (hs : 0 ≤ s ∧ s < 2147483648) :
    ACalls Try.prog Γ 109 [.ptr b 0, .int .i64 n] σ fun r σ' => ∃ v a' s', 0 ≤ v ∧ (n ≤ 1 → v = 0) ∧ (1 ≤ n → v < n) ∧ a ≤ a' ∧ a' ≤ a + 3 ∧ 0 ≤ s' ∧ s' < 2147483648 ∧ r = .int .i64 v ∧ σ' = upd σ b (srcC ex code a' s') := by
  refine acalls_W c109_ok rfl ?_
  simp only [c109, go_sem, stepW_iaddr_isl, stepW_iaddr_msl, stepW_idxs, stepK_iaddr_isl, stepK_iaddr_msl, stepK_idxs, ne_eq, ↓reduceIte]
  refine iteW_of (fun h => ?_) (fun h => ?_)
  · simp only [go_sem, stepW_iaddr_isl, stepW_iaddr_msl, stepW_idxs, stepK_iaddr_isl, stepK_iaddr_msl, stepK_idxs, ne_eq, ↓reduceIte]
    simp only [decide_eq_true_eq] at h
    refine W_retR c109_ok rfl ⟨0, a, s, by omega, fun _ => rfl, by omega, by omega, by omega, hs.1, hs.2, rfl, (upd_self σ hb).symm⟩
  · simp only [go_sem, stepW_iaddr_isl, stepW_iaddr_msl, stepW_idxs, stepK_iaddr_isl, stepK_iaddr_msl, stepK_idxs, ne_eq, ↓reduceIte]
    simp only [decide_eq_false_iff_not] at h
    refine iteW_of (fun h2 => ?_) (fun h2 => ?_)
    · simp only [go_sem, stepW_iaddr_isl, stepW_iaddr_msl, stepW_idxs, stepK_iaddr_isl, stepK_iaddr_msl, stepK_idxs, ne_eq, ↓reduceIte]
      refine SRun.callQ (byte_ok hb (by omega) hs) ⟨[], rfl, rfl⟩ rfl ?_
      rintro r σ' ⟨v, s', h1, h2, h3, h4, rfl, rfl⟩
      simp only [go_sem, stepW_iaddr_isl, stepW_iaddr_msl, stepW_idxs, stepK_iaddr_isl, stepK_iaddr_msl, stepK_idxs, ne_eq, ↓reduceIte]
      rw [if_pos (by omega)]
      exact W_retR c109_ok rfl ⟨v.tmod n, a + 1, s', Int.tmod_nonneg _ h1, by omega, fun _ => Int.tmod_lt_of_pos _ (by omega), by omega, by omega, h3, h4, rfl, rfl⟩
    · simp only [go_sem, stepW_iaddr_isl, stepW_iaddr_msl, stepW_idxs, stepK_iaddr_isl, stepK_iaddr_msl, stepK_idxs, ne_eq, ↓reduceIte]
      refine SRun.callQ (byte_ok hb (by omega) hs) ⟨[], rfl, rfl⟩ rfl ?_
      rintro r σ' ⟨v, s', h1, h2, h3, h4, rfl, rfl⟩
      simp only [go_sem, stepW_iaddr_isl, stepW_iaddr_msl, stepW_idxs, stepK_iaddr_isl, stepK_iaddr_msl, stepK_idxs, ne_eq, ↓reduceIte]
      refine SRun.callQ (byte_ok (upd_same _ _ _) (by omega) ⟨h3, h4⟩) ⟨[], rfl, rfl⟩ rfl ?_
      rintro r σ' ⟨v2, s2, k1, k2, k3, k4, rfl, rfl⟩
      simp only [go_sem, stepW_iaddr_isl, stepW_iaddr_msl, stepW_idxs, stepK_iaddr_isl, stepK_iaddr_msl, stepK_idxs, ne_eq, ↓reduceIte]
      refine SRun.callQ (byte_ok (upd_same _ _ _) (by omega) ⟨k3, k4⟩) ⟨[], rfl, rfl⟩ rfl ?_
      rintro r σ' ⟨v3, s3, l1, l2, l3, l4, rfl, rfl⟩
      have w1 := wrap64 (a := v * 65536) (by omega) (by omega)
      have w2 := wrap64 (a := v2 * 256) (by omega) (by omega)
      have w3 := wrap64 (a := v * 65536 + v2 * 256) (by omega) (by omega)
      have w4 := wrap64 (a := v * 65536 + v2 * 256 + v3) (by omega) (by omega)
      simp only [w1, w2, w3, w4, go_sem, stepW_iaddr_isl, stepW_iaddr_msl, stepW_idxs, stepK_iaddr_isl, stepK_iaddr_msl, stepK_idxs, ne_eq, ↓reduceIte]
      rw [if_pos (by omega)]
      exact W_retR c109_ok rfl ⟨_, a + 1 + 1 + 1, s3, Int.tmod_nonneg _ (by omega), by omega, fun _ => Int.tmod_lt_of_pos _ (by omega), by omega, by omega, l3, l4, rfl, rfl⟩

theorem chance_ok {b : Nat} {ex : Bool} {code : List UInt8} {a s n : Int} (hb : σ b = some (srcC ex code a s)) (ha : 0 ≤ a ∧ a ≤ 1152921504606846976) (hs : 0 ≤ s ∧ s < 2147483648) (hn : -1000000 ≤ n ∧ n ≤ 1000000) :
    ACalls Try.prog Γ 111 [.ptr b 0, .int .i64 n] σ fun r σ' => ∃ v a' s', a ≤ a' ∧ a' ≤ a + 3 ∧ 0 ≤ s' ∧ s' < 2147483648 ∧ r = .bool v ∧ σ' = upd σ b (srcC ex code a' s') := by
  refine acalls_W c111_ok rfl ?_
  have w1 := wrap64 (a := n - 1) (by omega) (by omega)
  simp only [c111, go_sem, stepW_iaddr_isl, stepW_iaddr_msl, stepW_idxs, stepK_iaddr_isl, stepK_iaddr_msl, stepK_idxs, ne_eq, ↓reduceIte]
  refine SRun.callQ (next_ok hb ha hs) ⟨[], rfl, rfl⟩ rfl ?_
  rintro r σ' ⟨v, a', s', h1, _, _, h2, h3, h4, h5, rfl, rfl⟩
  simp only [w1, go_sem, stepW_iaddr_isl, stepW_iaddr_msl, stepW_idxs, stepK_iaddr_isl, stepK_iaddr_msl, stepK_idxs, ne_eq, ↓reduceIte]
  exact W_retR c111_ok rfl ⟨_, a', s', h2, h3, h4, h5, rfl, rfl⟩

theorem source_ok {ex : Bool} {code : List UInt8} (hl : code.length ≤ 140737488355328) :
    ACalls Try.prog Γ 46 [codeV ex code] σ fun r σ' => ∃ b s, σ b = none ∧ 0 ≤ s ∧ s < 2147483648 ∧ r = .ptr b 0 ∧ σ' = upd σ b (srcC ex code 0 s) := by
  refine acalls_W c46_ok rfl ?_
  simp only [c46, codeV, go_sem, stepW_iaddr_isl, stepW_iaddr_msl, stepW_idxs, stepK_iaddr_isl, stepK_iaddr_msl, stepK_idxs, ne_eq, ↓reduceIte]
  refine SRun.boxR (by simp [ev, look, V.cells, V.one]) ?_
  intro b hb
  simp only [go_sem, stepW_iaddr_isl, stepW_iaddr_msl, stepW_idxs, stepK_iaddr_isl, stepK_iaddr_msl, stepK_idxs, ne_eq, ↓reduceIte]
  have h1 := tmod_in (a := (code.length : Int)) (n := 1000) (by omega) (by omega)
  exact W_retR c46_ok rfl ⟨b, _, hb, h1.1, by omega, rfl, rfl⟩

end
section
attribute [local irreducible] SRun DS DRun
variable {Γ : St} {σ : St}
/-- The formulas that are drawn. -/
theorem within_ok (a b c : Int) : Ret Try.prog Γ 55 [.int .i64 a, .int .i64 b, .int .i64 c] σ (.bool (decide (b ≤ a) && decide (a ≤ c))) σ := by
  refine ret_of c55_ok rfl ?_
  simp only [c55, go_sem, stepW_iaddr_isl, stepW_iaddr_msl, stepW_idxs, stepK_iaddr_isl, stepK_iaddr_msl, stepK_idxs, ne_eq, ↓reduceIte]
  refine guardW_of (fun h => ?_) (fun h => ?_)
  · have h' := of_decide_eq_true h
    simp only [h, go_sem, stepW_iaddr_isl, stepW_iaddr_msl, stepW_idxs, stepK_iaddr_isl, stepK_iaddr_msl, stepK_idxs, ne_eq, ↓reduceIte]
    exact W_retR c55_ok rfl ⟨rfl, rfl⟩
  · have h' := of_decide_eq_false h
    simp only [h, go_sem, stepW_iaddr_isl, stepW_iaddr_msl, stepW_idxs, stepK_iaddr_isl, stepK_iaddr_msl, stepK_idxs, ne_eq, ↓reduceIte]
    exact W_retR c55_ok rfl ⟨rfl, rfl⟩
theorem any_find {α : Type} (xs : List α) (p : α → Bool) : decide ((match xs.findIdx? p with | some i => (i : Int) | none => -1) ≥ 0) = xs.any p := by
  cases h : xs.findIdx? p with
  | some i =>
    rw [List.findIdx?_eq_some_iff_getElem] at h
    obtain ⟨hi, hp, _⟩ := h
    have : xs.any p = true := List.any_eq_true.2 ⟨_, List.getElem_mem hi, hp⟩
    rw [this]; exact decide_eq_true (by simp only; omega)
  | none =>
    rw [List.findIdx?_eq_none_iff] at h
    have : xs.any p = false := by rw [List.any_eq_false]; intro x hx; simp [h x hx]
    rw [this]; rfl
end
section
attribute [local irreducible] SRun DS DRun
variable {Γ : St} {σ σ0 : St}
def bools (xs : List Bool) : List V := xs.map V.bool
def boolsV (xs : List Bool) : V := .isl false 1 (bools xs)
theorem bools_one (xs : List Bool) : ∀ c ∈ bools xs, c.one = true := by
  intro c hc; simp only [bools, List.mem_map] at hc; obtain ⟨x, _, rfl⟩ := hc; rfl
theorem bools_len (xs : List Bool) : (bools xs).length = xs.length := by simp [bools]
end
section
attribute [local irreducible] SRun DS DRun
variable {Γ : St} {σ σ0 : St}
theorem l01In_ok (a b c : Int) : Ret Try.prog Γ 60 [.int .i64 a, .int .i64 b, .int .i64 c] σ (.bool (decide (b ≤ a) && decide (a ≤ c))) σ := by
  refine ret_of c60_ok rfl ?_
  simp (disch := omega) only [c60, go_sem, ↓if_pos, ne_eq, ↓reduceIte]
  first | refine guardW_dec (fun h => ?_) (fun h => ?_) | refine guardW_by (fun h => ?_) (fun h => ?_)
  · have h' : decide (b ≤ a) = true := decide_eq_true (by omega)
    simp (disch := omega) only [go_sem, ↓if_pos, ne_eq, ↓reduceIte]
    refine W_retR c60_ok rfl ⟨?_, rfl⟩
    simp only [look, ev, V.bool.injEq, V.int.injEq, V.str.injEq, V.tup.injEq, V.agg.injEq, V.isl.injEq, List.cons.injEq, true_and, and_true, h', Bool.true_and, Nat.reduceEqDiff, Nat.reduceAdd, Nat.reduceSub, Nat.reduceMul, Nat.reducePow, Nat.reduceDiv, Nat.reduceMod, Int.reduceToNat, Nat.reduceLeDiff, Nat.reduceLT, Int.reduceEq, Int.reduceLT, Int.reduceLE, Int.reduceGT, Int.reduceGE, Int.reduceNeg, Int.reduceSub, Int.reduceAdd, Int.reduceMul, Int.reducePow, ne_eq, reduceCtorEq, ↓reduceIte]
  · have h' : decide (b ≤ a) = false := decide_eq_false (by omega)
    simp (disch := omega) only [go_sem, ↓if_pos, ne_eq, ↓reduceIte]
    refine W_retR c60_ok rfl ⟨?_, rfl⟩
    simp only [look, ev, V.bool.injEq, V.int.injEq, V.str.injEq, V.tup.injEq, V.agg.injEq, V.isl.injEq, List.cons.injEq, true_and, and_true, h', Bool.false_and, Nat.reduceEqDiff, Nat.reduceAdd, Nat.reduceSub, Nat.reduceMul, Nat.reducePow, Nat.reduceDiv, Nat.reduceMod, Int.reduceToNat, Nat.reduceLeDiff, Nat.reduceLT, Int.reduceEq, Int.reduceLT, Int.reduceLE, Int.reduceGT, Int.reduceGE, Int.reduceNeg, Int.reduceSub, Int.reduceAdd, Int.reduceMul, Int.reducePow, ne_eq, reduceCtorEq, ↓reduceIte]
end
end Go.Proofs.Ytabelcohkpmpnaa.Lg
