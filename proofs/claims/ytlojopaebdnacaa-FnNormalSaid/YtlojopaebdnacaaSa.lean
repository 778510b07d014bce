/- The reference's functions, one by one: formulas under values. -/
import Derived.Test.YtlojopaebdnacaaMe
set_option linter.unusedSimpArgs false
set_option linter.unusedVariables false
namespace Go.Proofs.Ytlojopaebdnacaa.Lg
open Go
attribute [local irreducible] SRun DS DRun
variable {Γ : St} {σ σ0 : St}
theorem l01In_ok (a b c : Int) : Ret Try.prog Γ 58 [.int .i64 a, .int .i64 b, .int .i64 c] σ (.bool (decide (b ≤ a) && decide (a ≤ c))) σ := by
  refine ret_of c58_ok rfl ?_
  simp only [c58, go_sem, stepW_iaddr_isl, stepW_iaddr_msl, stepW_idxs, stepK_iaddr_isl, stepK_iaddr_msl, stepK_idxs, ne_eq, ↓reduceIte]
  refine guardW_of (fun h => ?_) (fun h => ?_)
  · simp only [h, go_sem, stepW_iaddr_isl, stepW_iaddr_msl, stepW_idxs, stepK_iaddr_isl, stepK_iaddr_msl, stepK_idxs, ne_eq, ↓reduceIte]
    exact W_retR c58_ok rfl ⟨rfl, rfl⟩
  · simp only [h, go_sem, stepW_iaddr_isl, stepW_iaddr_msl, stepW_idxs, stepK_iaddr_isl, stepK_iaddr_msl, stepK_idxs, ne_eq, ↓reduceIte]
    exact W_retR c58_ok rfl ⟨rfl, rfl⟩
theorem l01Abs_ok {x : Int} (hx : -1000000 ≤ x ∧ x ≤ 1000000) : Ret Try.prog Γ 59 [.int .i64 x] σ (.int .i64 x.natAbs) σ := by
  refine ret_of c59_ok rfl ?_
  have w1 := wrap64 (a := 0 - x) (by omega) (by omega)
  simp only [c59, w1, go_sem, stepW_iaddr_isl, stepW_iaddr_msl, stepW_idxs, stepK_iaddr_isl, stepK_iaddr_msl, stepK_idxs, ne_eq, ↓reduceIte]
  refine W_retR c59_ok rfl ⟨?_, rfl⟩
  simp only [look, ↓reduceIte, V.int.injEq, true_and]
  split <;> omega
theorem all_take {α : Type} {p : α → Bool} {xs : List α} {i : Nat} {x : α} (h : (xs.take i).all p = true) (hx : xs[i]? = some x) (hp : p x = true) : (xs.take (i + 1)).all p = true := by
  rw [List.take_add_one, hx]
  simp only [Option.toList_some, List.all_append, List.all_cons, List.all_nil, Bool.and_true, h, hp, Bool.and_self]
theorem all_false {α : Type} {p : α → Bool} {xs : List α} {i : Nat} {x : α} (hx : xs[i]? = some x) (hp : p x = false) : xs.all p = false := by
  rw [List.all_eq_false]
  exact ⟨x, List.mem_of_getElem? hx, by simp [hp]⟩
theorem l01Clause_ok {ex : Bool} {xs : List Int} {vars : Int} (hl : xs.length ≤ 1000000) (hv : 0 ≤ vars ∧ vars ≤ 1000000) : Ret Try.prog Γ 64 [.isl ex 1 (ints xs), .int .i64 vars] σ (.bool (clauseB vars xs)) σ := by
  refine ret_of c64_ok rfl ?_
  simp only [c64, ints_len, go_sem, stepW_iaddr_isl, stepW_iaddr_msl, stepW_idxs, stepK_iaddr_isl, stepK_iaddr_msl, stepK_idxs, ne_eq, ↓reduceIte]
  refine iteW_of (fun h => ?_) (fun h => ?_)
  · have h' := of_decide_eq_true h
    simp only [go_sem, stepW_iaddr_isl, stepW_iaddr_msl, stepW_idxs, stepK_iaddr_isl, stepK_iaddr_msl, stepK_idxs, ne_eq, ↓reduceIte]
    refine W_retR c64_ok rfl ⟨?_, rfl⟩
    have : decide (xs.length ≤ 12) = false := decide_eq_false (by omega)
    simp only [look, ↓reduceIte, clauseB, this, Bool.false_and]
  · have h' := of_decide_eq_false h
    have h12 : decide (xs.length ≤ 12) = true := decide_eq_true (by omega)
    simp only [go_sem, stepW_iaddr_isl, stepW_iaddr_msl, stepW_idxs, stepK_iaddr_isl, stepK_iaddr_msl, stepK_idxs, ne_eq, ↓reduceIte]
    refine W_loopR (fun m T σ' => ∃ i : Nat, i + m = xs.length ∧ look T 0 = .isl ex 1 (ints xs) ∧ look T 1 = .int .i64 vars ∧ look T 5 = .int .i64 i ∧ σ' = σ ∧ (xs.take i).all (litB vars) = true) xs.length ?_ ?_
    · exact ⟨0, by omega, rfl, rfl, rfl, rfl, rfl⟩
    · rintro m T σ' ih ⟨i, hm, h0, h1, h5, rfl, hall⟩
      simp only [h0, h1, h5, ints_len, go_sem, stepW_iaddr_isl, stepW_iaddr_msl, stepW_idxs, stepK_iaddr_isl, stepK_iaddr_msl, stepK_idxs, ne_eq, ↓reduceIte]
      refine iteW_of (fun hq => ?_) (fun hq => ?_)
      · have hq' := of_decide_eq_true hq
        have hlt : i < xs.length := by omega
        have hxi : xs[i]? = some xs[i] := by simp [hlt]
        generalize xs[i] = x at hxi
        have hget := ints_get hxi
        have w1 := wrap64 (a := (i : Int) + 1) (by omega) (by omega)
        have w2 := wrap64 (a := 0 - vars) (by omega) (by omega)
        have c3 : (0 : Int) ≤ (i : Int) := by omega
        simp only [h0, h1, h5, hget, c3, Int.toNat_natCast, go_sem, stepW_iaddr_isl, stepW_iaddr_msl, stepW_idxs, stepK_iaddr_isl, stepK_iaddr_msl, stepK_idxs, ne_eq, ↓reduceIte]
        have done : litB vars x = true → ∀ T, look T 0 = .isl ex 1 (ints xs) → True := fun _ _ _ => trivial
        refine guardW_of (fun hg => ?_) (fun hg => ?_)
        · simp only [hg, go_sem, stepW_iaddr_isl, stepW_iaddr_msl, stepW_idxs, stepK_iaddr_isl, stepK_iaddr_msl, stepK_idxs, ne_eq, ↓reduceIte]
          refine W_retR c64_ok rfl ⟨?_, rfl⟩
          have hx0 : x = 0 := by simpa using hg
          simp only [look, ↓reduceIte, clauseB, all_false hxi (show litB vars x = false by simp [litB, hx0]), Bool.and_false]
        · simp only [hg, h0, h1, h5, hget, c3, w2, Int.toNat_natCast, go_sem, stepW_iaddr_isl, stepW_iaddr_msl, stepW_idxs, stepK_iaddr_isl, stepK_iaddr_msl, stepK_idxs, ne_eq, ↓reduceIte]
          refine SRun.callR (l01In_ok _ _ _) ⟨[], rfl, rfl⟩ (by simp only [guardV, go_sem, stepW_iaddr_isl, stepW_iaddr_msl, stepW_idxs, stepK_iaddr_isl, stepK_iaddr_msl, stepK_idxs, ne_eq, ↓reduceIte, hg]; rfl) ?_
          simp only [hg, go_sem, stepW_iaddr_isl, stepW_iaddr_msl, stepW_idxs, stepK_iaddr_isl, stepK_iaddr_msl, stepK_idxs, ne_eq, ↓reduceIte]
          have hx0 : x ≠ 0 := by simpa using hg
          have hneg : (0 : Int) - vars = -vars := by omega
          simp only [hneg]
          have hlit : litB vars x = (decide (-vars ≤ x) && decide (x ≤ vars)) := by simp [litB, hx0]
          refine iteW_of (fun hb => ?_) (fun hb => ?_)
          · simp only [go_sem, stepW_iaddr_isl, stepW_iaddr_msl, stepW_idxs, stepK_iaddr_isl, stepK_iaddr_msl, stepK_idxs, ne_eq, ↓reduceIte]
            refine W_retR c64_ok rfl ⟨?_, rfl⟩
            have : litB vars x = false := by rw [hlit]; generalize (decide (-vars ≤ x) && decide (x ≤ vars)) = q at hb; cases q <;> simp_all
            simp only [look, ↓reduceIte, clauseB, all_false hxi this, Bool.and_false]
          · simp only [h5, w1, go_sem, stepW_iaddr_isl, stepW_iaddr_msl, stepW_idxs, stepK_iaddr_isl, stepK_iaddr_msl, stepK_idxs, ne_eq, ↓reduceIte]
            have : litB vars x = true := by rw [hlit]; generalize (decide (-vars ≤ x) && decide (x ≤ vars)) = q at hb; cases q <;> simp_all
            refine ih (m - 1) _ _ (by omega) ⟨i + 1, by omega, ?_, ?_, rfl, rfl, all_take hall hxi this⟩
            · simp only [go_sem, stepW_iaddr_isl, stepW_iaddr_msl, stepW_idxs, stepK_iaddr_isl, stepK_iaddr_msl, stepK_idxs, ne_eq, ↓reduceIte]; exact h0
            · simp only [go_sem, stepW_iaddr_isl, stepW_iaddr_msl, stepW_idxs, stepK_iaddr_isl, stepK_iaddr_msl, stepK_idxs, ne_eq, ↓reduceIte]; exact h1
      · have hq' := of_decide_eq_false hq
        simp only [go_sem, stepW_iaddr_isl, stepW_iaddr_msl, stepW_idxs, stepK_iaddr_isl, stepK_iaddr_msl, stepK_idxs, ne_eq, ↓reduceIte]
        refine W_retR c64_ok rfl ⟨?_, rfl⟩
        rw [List.take_of_length_le (by omega)] at hall
        simp only [look, ↓reduceIte, clauseB, h12, hall, Bool.and_self]
/-- Of formulas that are right: the other answers are not asked here. -/
theorem cnfOK_ok {cls : List (List Int)} {vars : Int} (hb : cnfB vars cls = true) : Ret Try.prog Γ 50 [cnfV vars cls] σ (.bool true) σ := by
  obtain ⟨hc, hv0, hv40, hcl⟩ := clsOK_of hb
  refine ret_of c50_ok rfl ?_
  simp only [c50, cnfV, go_sem, stepW_iaddr_isl, stepW_iaddr_msl, stepW_idxs, stepK_iaddr_isl, stepK_iaddr_msl, stepK_idxs, ne_eq, ↓reduceIte]
  refine SRun.boxR (by simp [ev, look, V.cells, V.one]) ?_
  intro b1 hb1
  simp only [go_sem, stepW_iaddr_isl, stepW_iaddr_msl, stepW_idxs, stepK_iaddr_isl, stepK_iaddr_msl, stepK_idxs, ne_eq, ↓reduceIte]
  refine SRun.callR (l01In_ok _ _ _) ⟨[], rfl, rfl⟩ rfl ?_
  have e1 : (decide ((0 : Int) ≤ vars) && decide (vars ≤ 40)) = true := by simp [hv0, hv40]
  have e2 : decide ((cls.length : Int) > 300) = false := decide_eq_false (by omega)
  simp only [e1, e2, clsV_len, go_sem, stepW_iaddr_isl, stepW_iaddr_msl, stepW_idxs, stepK_iaddr_isl, stepK_iaddr_msl, stepK_idxs, ne_eq, ↓reduceIte]
  refine W_loopR (fun m T σ' => ∃ i : Nat, i + m = cls.length ∧ look T 1 = .ptr b1 0 ∧ look T 3 = .int .i64 i ∧ σ' = upd σ b1 [.int .i64 vars, .isl false 1 (clsV cls)]) cls.length ?_ ?_
  · exact ⟨0, by omega, rfl, rfl, rfl⟩
  · rintro m T σ' ih ⟨i, hm, h1, h3, rfl⟩
    simp only [h1, h3, clsV_len, go_sem, stepW_iaddr_isl, stepW_iaddr_msl, stepW_idxs, stepK_iaddr_isl, stepK_iaddr_msl, stepK_idxs, ne_eq, ↓reduceIte]
    refine iteW_of (fun hq => ?_) (fun hq => ?_)
    · have hq' := of_decide_eq_true hq
      have hlt : i < cls.length := by omega
      have hget : (clsV cls)[i]? = some (.isl false 1 (ints cls[i])) := by simp [clsV, intsV, hlt]
      have hmem := List.getElem_mem hlt
      have hcB : clauseB vars cls[i] = true := by
        simp only [cnfB, Bool.and_eq_true, List.all_eq_true] at hb
        exact hb.2 _ hmem
      have hsm := hc.1.2 _ hmem
      generalize cls[i] = c at hget hcB hsm
      have w1 := wrap64 (a := (i : Int) + 1) (by omega) (by omega)
      have c3 : (0 : Int) ≤ (i : Int) := by omega
      simp only [go_sem, stepW_iaddr_isl, stepW_iaddr_msl, stepW_idxs, stepK_iaddr_isl, stepK_iaddr_msl, stepK_idxs, ne_eq, ↓reduceIte]
      refine W_drawW ?_
      simp only [h1, h3, hget, c3, Int.toNat_natCast, go_sem, stepW_iaddr_isl, stepW_iaddr_msl, stepW_idxs, stepK_iaddr_isl, stepK_iaddr_msl, stepK_idxs, ne_eq, ↓reduceIte]
      refine DRun.callQ (l01Clause_ok hsm (by omega)) ⟨[], rfl, rfl⟩ ?_
      rintro r s ⟨rfl, rfl⟩
      simp only [hcB, go_sem, stepW_iaddr_isl, stepW_iaddr_msl, stepW_idxs, stepK_iaddr_isl, stepK_iaddr_msl, stepK_idxs, ne_eq, ↓reduceIte]
      simp only [h3, w1, go_sem, stepW_iaddr_isl, stepW_iaddr_msl, stepW_idxs, stepK_iaddr_isl, stepK_iaddr_msl, stepK_idxs, ne_eq, ↓reduceIte]
      refine ih (m - 1) _ _ (by omega) ⟨i + 1, by omega, ?_, rfl, rfl⟩
      simp only [go_sem, stepW_iaddr_isl, stepW_iaddr_msl, stepW_idxs, stepK_iaddr_isl, stepK_iaddr_msl, stepK_idxs, ne_eq, ↓reduceIte]; exact h1
    · simp only [go_sem, stepW_iaddr_isl, stepW_iaddr_msl, stepW_idxs, stepK_iaddr_isl, stepK_iaddr_msl, stepK_idxs, ne_eq, ↓reduceIte]
      exact W_retC c50_ok rfl (Conv.drop _ (le_upd hb1)) ⟨rfl, rfl⟩
def litV (bs : List Bool) (x : Int) : Bool := bs.getD (x.natAbs - 1) false == decide (x > 0)
def evalB (cls : List (List Int)) (bs : List Bool) : Bool := cls.all fun c => c.any (litV bs)
theorem bools_len (bs : List Bool) : (bools bs).length = bs.length := by simp [bools]
/-- The bits of a number, as the program has them. -/
def bitP (a : Int) (i : Nat) : Bool := bitsV .and .i64 (a.fdiv (2 ^ min i 64)) 1 == 1
def valuesP (a : Int) (many : Nat) : List Bool := (List.range many).map (bitP a)
theorem values_ok {a : Int} {many : Nat} (hm : many ≤ 1000) : ACalls Try.prog Γ 13 [.int .i64 a, .int .i64 many] σ fun r σ' => r = boolsV (valuesP a many) ∧ σ' = σ := by
  have own : ACalls Try.prog Γ 13 [.int .i64 a, .int .i64 many] σ fun r σ' => OwnS σ 1 (bools (valuesP a many)) many r σ' := by
    refine acalls_W c13_ok rfl ?_
    simp only [c13, go_sem, stepW_iaddr_isl, stepW_iaddr_msl, stepW_idxs, stepK_iaddr_isl, stepK_iaddr_msl, stepK_idxs, ne_eq, ↓reduceIte]
    refine W_loopR (fun m T σ' => ∃ i : Nat, i + m = many ∧ look T 0 = .int .i64 a ∧ look T 1 = .int .i64 many ∧ look T 6 = .int .i64 i ∧ OwnS σ 1 (bools (valuesP a i)) i (look T 5) σ') many ?_ ?_
    · exact ⟨0, by omega, rfl, rfl, rfl, OwnS.nil _ _⟩
    · rintro m T σ' ih ⟨i, hmi, h0, h1, h6, ho⟩
      simp only [h0, h1, h6, go_sem, stepW_iaddr_isl, stepW_iaddr_msl, stepW_idxs, stepK_iaddr_isl, stepK_iaddr_msl, stepK_idxs, ne_eq, ↓reduceIte]
      refine iteW_of (fun hq => ?_) (fun hq => ?_)
      · have hq' := of_decide_eq_true hq
        have w1 := wrap64 (a := (i : Int) + 1) (by omega) (by omega)
        have w2 := wrapU64 (a := (i : Int)) (by omega) (by omega)
        have c3 : (0 : Int) ≤ (i : Int) := by omega
        simp only [h0, h1, h6, w2, c3, Int.toNat_natCast, go_sem, stepW_iaddr_isl, stepW_iaddr_msl, stepW_idxs, stepK_iaddr_isl, stepK_iaddr_msl, stepK_idxs, ne_eq, ↓reduceIte]
        refine SRun.appO ho src_b rfl (by omega) ?_
        intro r σ4 ho4
        simp only [h6, w1, go_sem, stepW_iaddr_isl, stepW_iaddr_msl, stepW_idxs, stepK_iaddr_isl, stepK_iaddr_msl, stepK_idxs, ne_eq, ↓reduceIte]
        refine ih (m - 1) _ _ (by omega) ⟨i + 1, by omega, ?_, ?_, rfl, ?_⟩
        · simp only [go_sem, stepW_iaddr_isl, stepW_iaddr_msl, stepW_idxs, stepK_iaddr_isl, stepK_iaddr_msl, stepK_idxs, ne_eq, ↓reduceIte]; exact h0
        · simp only [go_sem, stepW_iaddr_isl, stepW_iaddr_msl, stepW_idxs, stepK_iaddr_isl, stepK_iaddr_msl, stepK_idxs, ne_eq, ↓reduceIte]; exact h1
        · have : bools (valuesP a i) ++ [V.bool (bitsV .and .i64 (a.fdiv (2 ^ min i 64)) 1 == 1)] = bools (valuesP a (i + 1)) := by
            simp only [valuesP, List.range_succ, List.map_append, bools, List.map_cons, List.map_nil]; rfl
          rw [this] at ho4
          exact ho4
      · have hq' := of_decide_eq_false hq
        have : i = many := by omega
        subst this
        simp only [go_sem, stepW_iaddr_isl, stepW_iaddr_msl, stepW_idxs, stepK_iaddr_isl, stepK_iaddr_msl, stepK_idxs, ne_eq, ↓reduceIte]
        exact W_retR c13_ok rfl ho
  exact own.conv fun r s ho => ⟨_, _, ho.conv (bools_one _), rfl, rfl⟩
end Go.Proofs.Ytlojopaebdnacaa.Lg
