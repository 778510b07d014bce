/- What is told of the functions that are reached, as far as it is asked here. -/
import Derived.Test.YtdenfjbhkdhlkaaKvc
import Derived.Test.YtdenfjbhkdhlkaaLgR
import Derived.KernelRfl
set_option linter.unusedSimpArgs false
set_option linter.unusedVariables false
namespace Go.Proofs.Ytdenfjbhkdhlkaa.Lg
open Go
section
attribute [local irreducible] SRun DS DRun
variable {Γ : St} {σ : St}
/-- A formula that is given up. -/
def clsV (cls : List (List Int)) : List V := cls.map intsV
def cnfV (vars : Int) (cls : List (List Int)) : V := .agg [.int .i64 vars, .isl false 1 (clsV cls)]
theorem clsV_one (cls : List (List Int)) : ∀ c ∈ clsV cls, c.one = true := by
  intro c hc; simp only [clsV, List.mem_map] at hc; obtain ⟨x, _, rfl⟩ := hc; rfl
end
section
attribute [local irreducible] SRun DS DRun
variable {Γ : St} {σ : St}
theorem within_ok (a b c : Int) : Ret Try.prog Γ 54 [.int .i64 a, .int .i64 b, .int .i64 c] σ (.bool (decide (b ≤ a) && decide (a ≤ c))) σ := by
  refine ret_of c54_ok rfl ?_
  simp only [c54, go_sem, stepW_iaddr_isl, stepW_iaddr_msl, stepW_idxs, stepK_iaddr_isl, stepK_iaddr_msl, stepK_idxs, ne_eq, ↓reduceIte]
  refine guardW_of (fun h => ?_) (fun h => ?_)
  · have h' := of_decide_eq_true h
    simp only [h, go_sem, stepW_iaddr_isl, stepW_iaddr_msl, stepW_idxs, stepK_iaddr_isl, stepK_iaddr_msl, stepK_idxs, ne_eq, ↓reduceIte]
    exact W_retR c54_ok rfl ⟨rfl, rfl⟩
  · have h' := of_decide_eq_false h
    simp only [h, go_sem, stepW_iaddr_isl, stepW_iaddr_msl, stepW_idxs, stepK_iaddr_isl, stepK_iaddr_msl, stepK_idxs, ne_eq, ↓reduceIte]
    exact W_retR c54_ok rfl ⟨rfl, rfl⟩
def litB (vars x : Int) : Bool := x != 0 && (decide (-vars ≤ x) && decide (x ≤ vars))
theorem isLiteral_ok (x vars : Int) (hv : 0 ≤ vars ∧ vars ≤ 1000000) : Ret Try.prog Γ 87 [.int .i64 x, .int .i64 vars] σ (.bool (litB vars x)) σ := by
  refine ret_of c87_ok rfl ?_
  have w1 := wrap64 (a := 0 - vars) (by omega) (by omega)
  simp only [c87, w1, go_sem, stepW_iaddr_isl, stepW_iaddr_msl, stepW_idxs, stepK_iaddr_isl, stepK_iaddr_msl, stepK_idxs, ne_eq, ↓reduceIte]
  refine guardW_of (fun h => ?_) (fun h => ?_)
  · simp only [h, w1, go_sem, stepW_iaddr_isl, stepW_iaddr_msl, stepW_idxs, stepK_iaddr_isl, stepK_iaddr_msl, stepK_idxs, ne_eq, ↓reduceIte]
    refine SRun.callR (within_ok _ _ _) ⟨[], rfl, rfl⟩ rfl ?_
    simp only [h, go_sem, stepW_iaddr_isl, stepW_iaddr_msl, stepW_idxs, stepK_iaddr_isl, stepK_iaddr_msl, stepK_idxs, ne_eq, ↓reduceIte]
    refine W_retR c87_ok rfl ⟨?_, rfl⟩
    simp [litB, h, look]
  · simp only [h, go_sem, stepW_iaddr_isl, stepW_iaddr_msl, stepW_idxs, stepK_iaddr_isl, stepK_iaddr_msl, stepK_idxs, ne_eq, ↓reduceIte]
    refine W_retR c87_ok rfl ⟨?_, rfl⟩
    simp [litB, h, look]
/-- The first of which it is true. -/
theorem indexFuncI_ok {ex : Bool} {xs : List V} {F : FuncId} {caps : List V} {p : V → Bool} (h1 : ∀ x ∈ xs, x.cells = [x]) (hl : xs.length ≤ 140737488355328) (hp : ∀ x ∈ xs, Ret Try.prog Γ F (x :: caps) σ (.bool (p x)) σ) :
    Ret Try.prog Γ 95 [.isl ex 1 xs, .fn F caps] σ (.int .i64 (match xs.findIdx? p with | some i => (i : Int) | none => -1)) σ := by
  refine ret_of c95_ok rfl ?_
  simp only [c95, go_sem, stepW_iaddr_isl, stepW_iaddr_msl, stepW_idxs, stepK_iaddr_isl, stepK_iaddr_msl, stepK_idxs, ne_eq, ↓reduceIte]
  refine W_loopR (fun m T σ' => ∃ i : Nat, i + m = xs.length ∧ look T 0 = .isl ex 1 xs ∧ look T 1 = .fn F caps ∧ look T 7 = .int .i64 xs.length ∧ look T 8 = .int .i64 i ∧ σ' = σ ∧ (∀ j x, j < i → xs[j]? = some x → p x = false)) xs.length ?_ ?_
  · exact ⟨0, by omega, rfl, rfl, rfl, rfl, rfl, fun j x hj => by omega⟩
  · rintro m T σ' ih ⟨i, hm, h0, h1', h7, h8, rfl, hno⟩
    simp only [h0, h1', h7, h8, go_sem, stepW_iaddr_isl, stepW_iaddr_msl, stepW_idxs, stepK_iaddr_isl, stepK_iaddr_msl, stepK_idxs, ne_eq, ↓reduceIte]
    refine iteW_of (fun h => ?_) (fun h => ?_)
    · have h' := of_decide_eq_true h
      have hlt : i < xs.length := by omega
      have hget : xs[i]? = some xs[i] := by simp [hlt]
      have hmem : xs[i] ∈ xs := List.getElem_mem hlt
      have hcell := h1 _ hmem
      have w1 := wrap64 (a := (i : Int) + 1) (by omega) (by omega)
      have h00 : (0 : Int) ≤ (i : Int) := by omega
      simp only [h0, h1', h7, h8, Int.toNat_natCast, hget, h00, hcell, go_sem, stepW_iaddr_isl, stepW_iaddr_msl, stepW_idxs, stepK_iaddr_isl, stepK_iaddr_msl, stepK_idxs, ne_eq, ↓reduceIte]
      refine SRun.callR (hp _ hmem) ⟨caps, rfl, rfl⟩ rfl ?_
      simp only [go_sem, stepW_iaddr_isl, stepW_iaddr_msl, stepW_idxs, stepK_iaddr_isl, stepK_iaddr_msl, stepK_idxs, ne_eq, ↓reduceIte]
      refine iteW_of (fun hb => ?_) (fun hb => ?_)
      · simp only [go_sem, stepW_iaddr_isl, stepW_iaddr_msl, stepW_idxs, stepK_iaddr_isl, stepK_iaddr_msl, stepK_idxs, ne_eq, ↓reduceIte]
        refine W_retR c95_ok rfl ⟨?_, rfl⟩
        have : xs.findIdx? p = some i := by
          rw [List.findIdx?_eq_some_iff_getElem]
          exact ⟨hlt, hb, fun j hj => by simpa using hno j xs[j] hj (by simp)⟩
        rw [this]; rfl
      · simp only [h8, w1, go_sem, stepW_iaddr_isl, stepW_iaddr_msl, stepW_idxs, stepK_iaddr_isl, stepK_iaddr_msl, stepK_idxs, ne_eq, ↓reduceIte]
        refine ih (m - 1) _ _ (by omega) ⟨i + 1, by omega, ?_, ?_, ?_, rfl, rfl, fun j x hj hx => ?_⟩
        · simp only [go_sem, stepW_iaddr_isl, stepW_iaddr_msl, stepW_idxs, stepK_iaddr_isl, stepK_iaddr_msl, stepK_idxs, ne_eq, ↓reduceIte]; exact h0
        · simp only [go_sem, stepW_iaddr_isl, stepW_iaddr_msl, stepW_idxs, stepK_iaddr_isl, stepK_iaddr_msl, stepK_idxs, ne_eq, ↓reduceIte]; exact h1'
        · simp only [go_sem, stepW_iaddr_isl, stepW_iaddr_msl, stepW_idxs, stepK_iaddr_isl, stepK_iaddr_msl, stepK_idxs, ne_eq, ↓reduceIte]; exact h7
        · by_cases hji : j = i
          · subst hji; rw [hget] at hx; obtain rfl := Option.some.inj hx; exact hb
          · exact hno j x (by omega) hx
    · have h' := of_decide_eq_false h
      simp only [go_sem, stepW_iaddr_isl, stepW_iaddr_msl, stepW_idxs, stepK_iaddr_isl, stepK_iaddr_msl, stepK_idxs, ne_eq, ↓reduceIte]
      refine W_retR c95_ok rfl ⟨?_, rfl⟩
      have : xs.findIdx? p = none := by
        rw [List.findIdx?_eq_none_iff]
        intro x hx
        obtain ⟨j, hj, rfl⟩ := List.getElem_of_mem hx
        exact hno j _ (by omega) (by simp)
      rw [this]; rfl
/-- The first of which it is true. -/
theorem indexFuncL_ok {ex : Bool} {xs : List V} {F : FuncId} {caps : List V} {p : V → Bool} (h1 : ∀ x ∈ xs, x.cells = [x]) (hl : xs.length ≤ 140737488355328) (hp : ∀ x ∈ xs, Ret Try.prog Γ F (x :: caps) σ (.bool (p x)) σ) :
    Ret Try.prog Γ 84 [.isl ex 1 xs, .fn F caps] σ (.int .i64 (match xs.findIdx? p with | some i => (i : Int) | none => -1)) σ := by
  refine ret_of c84_ok rfl ?_
  simp only [c84, go_sem, stepW_iaddr_isl, stepW_iaddr_msl, stepW_idxs, stepK_iaddr_isl, stepK_iaddr_msl, stepK_idxs, ne_eq, ↓reduceIte]
  refine W_loopR (fun m T σ' => ∃ i : Nat, i + m = xs.length ∧ look T 0 = .isl ex 1 xs ∧ look T 1 = .fn F caps ∧ look T 7 = .int .i64 xs.length ∧ look T 8 = .int .i64 i ∧ σ' = σ ∧ (∀ j x, j < i → xs[j]? = some x → p x = false)) xs.length ?_ ?_
  · exact ⟨0, by omega, rfl, rfl, rfl, rfl, rfl, fun j x hj => by omega⟩
  · rintro m T σ' ih ⟨i, hm, h0, h1', h7, h8, rfl, hno⟩
    simp only [h0, h1', h7, h8, go_sem, stepW_iaddr_isl, stepW_iaddr_msl, stepW_idxs, stepK_iaddr_isl, stepK_iaddr_msl, stepK_idxs, ne_eq, ↓reduceIte]
    refine iteW_of (fun h => ?_) (fun h => ?_)
    · have h' := of_decide_eq_true h
      have hlt : i < xs.length := by omega
      have hget : xs[i]? = some xs[i] := by simp [hlt]
      have hmem : xs[i] ∈ xs := List.getElem_mem hlt
      have hcell := h1 _ hmem
      have w1 := wrap64 (a := (i : Int) + 1) (by omega) (by omega)
      have h00 : (0 : Int) ≤ (i : Int) := by omega
      simp only [h0, h1', h7, h8, Int.toNat_natCast, hget, h00, hcell, go_sem, stepW_iaddr_isl, stepW_iaddr_msl, stepW_idxs, stepK_iaddr_isl, stepK_iaddr_msl, stepK_idxs, ne_eq, ↓reduceIte]
      refine SRun.callR (hp _ hmem) ⟨caps, rfl, rfl⟩ rfl ?_
      simp only [go_sem, stepW_iaddr_isl, stepW_iaddr_msl, stepW_idxs, stepK_iaddr_isl, stepK_iaddr_msl, stepK_idxs, ne_eq, ↓reduceIte]
      refine iteW_of (fun hb => ?_) (fun hb => ?_)
      · simp only [go_sem, stepW_iaddr_isl, stepW_iaddr_msl, stepW_idxs, stepK_iaddr_isl, stepK_iaddr_msl, stepK_idxs, ne_eq, ↓reduceIte]
        refine W_retR c84_ok rfl ⟨?_, rfl⟩
        have : xs.findIdx? p = some i := by
          rw [List.findIdx?_eq_some_iff_getElem]
          exact ⟨hlt, hb, fun j hj => by simpa using hno j xs[j] hj (by simp)⟩
        rw [this]; rfl
      · simp only [h8, w1, go_sem, stepW_iaddr_isl, stepW_iaddr_msl, stepW_idxs, stepK_iaddr_isl, stepK_iaddr_msl, stepK_idxs, ne_eq, ↓reduceIte]
        refine ih (m - 1) _ _ (by omega) ⟨i + 1, by omega, ?_, ?_, ?_, rfl, rfl, fun j x hj hx => ?_⟩
        · simp only [go_sem, stepW_iaddr_isl, stepW_iaddr_msl, stepW_idxs, stepK_iaddr_isl, stepK_iaddr_msl, stepK_idxs, ne_eq, ↓reduceIte]; exact h0
        · simp only [go_sem, stepW_iaddr_isl, stepW_iaddr_msl, stepW_idxs, stepK_iaddr_isl, stepK_iaddr_msl, stepK_idxs, ne_eq, ↓reduceIte]; exact h1'
        · simp only [go_sem, stepW_iaddr_isl, stepW_iaddr_msl, stepW_idxs, stepK_iaddr_isl, stepK_iaddr_msl, stepK_idxs, ne_eq, ↓reduceIte]; exact h7
        · by_cases hji : j = i
          · subst hji; rw [hget] at hx; obtain rfl := Option.some.inj hx; exact hb
          · exact hno j x (by omega) hx
    · have h' := of_decide_eq_false h
      simp only [go_sem, stepW_iaddr_isl, stepW_iaddr_msl, stepW_idxs, stepK_iaddr_isl, stepK_iaddr_msl, stepK_idxs, ne_eq, ↓reduceIte]
      refine W_retR c84_ok rfl ⟨?_, rfl⟩
      have : xs.findIdx? p = none := by
        rw [List.findIdx?_eq_none_iff]
        intro x hx
        obtain ⟨j, hj, rfl⟩ := List.getElem_of_mem hx
        exact hno j _ (by omega) (by simp)
      rw [this]; rfl
theorem any_find {α : Type} (xs : List α) (p : α → Bool) : decide ((match xs.findIdx? p with | some i => (i : Int) | none => -1) ≥ 0) = xs.any p := by
  cases h : xs.findIdx? p with
  | some i =>
    rw [List.findIdx?_eq_some_iff_getElem] at h
    obtain ⟨hi, hp, _⟩ := h
    have : xs.any p = true := List.any_eq_true.2 ⟨_, List.getElem_mem hi, hp⟩
    rw [this]; exact decide_eq_true (by simp only; omega)
  | none =>
    rw [List.findIdx?_eq_none_iff] at h
    have : xs.any p = false := by rw [List.any_eq_false]; intro x hx; simp [h x hx]
    rw [this]; rfl
theorem containsFuncI_ok {ex : Bool} {xs : List V} {F : FuncId} {caps : List V} {p : V → Bool} (h1 : ∀ x ∈ xs, x.cells = [x]) (hl : xs.length ≤ 140737488355328) (hp : ∀ x ∈ xs, Ret Try.prog Γ F (x :: caps) σ (.bool (p x)) σ) :
    Ret Try.prog Γ 85 [.isl ex 1 xs, .fn F caps] σ (.bool (xs.any p)) σ := by
  refine ret_of c85_ok rfl ?_
  simp only [c85, go_sem, stepW_iaddr_isl, stepW_iaddr_msl, stepW_idxs, stepK_iaddr_isl, stepK_iaddr_msl, stepK_idxs, ne_eq, ↓reduceIte]
  refine SRun.callR (indexFuncI_ok h1 hl hp) ⟨[], rfl, rfl⟩ rfl ?_
  simp only [go_sem, stepW_iaddr_isl, stepW_iaddr_msl, stepW_idxs, stepK_iaddr_isl, stepK_iaddr_msl, stepK_idxs, ne_eq, ↓reduceIte]
  refine W_retR c85_ok rfl ⟨?_, rfl⟩
  simp only [look, ↓reduceIte, any_find]
theorem containsFuncL_ok {ex : Bool} {xs : List V} {F : FuncId} {caps : List V} {p : V → Bool} (h1 : ∀ x ∈ xs, x.cells = [x]) (hl : xs.length ≤ 140737488355328) (hp : ∀ x ∈ xs, Ret Try.prog Γ F (x :: caps) σ (.bool (p x)) σ) :
    Ret Try.prog Γ 65 [.isl ex 1 xs, .fn F caps] σ (.bool (xs.any p)) σ := by
  refine ret_of c65_ok rfl ?_
  simp only [c65, go_sem, stepW_iaddr_isl, stepW_iaddr_msl, stepW_idxs, stepK_iaddr_isl, stepK_iaddr_msl, stepK_idxs, ne_eq, ↓reduceIte]
  refine SRun.callR (indexFuncL_ok h1 hl hp) ⟨[], rfl, rfl⟩ rfl ?_
  simp only [go_sem, stepW_iaddr_isl, stepW_iaddr_msl, stepW_idxs, stepK_iaddr_isl, stepK_iaddr_msl, stepK_idxs, ne_eq, ↓reduceIte]
  refine W_retR c65_ok rfl ⟨?_, rfl⟩
  simp only [look, ↓reduceIte, any_find]
theorem isClause1_ok {x vars : Int} {b : Nat} (hb : σ b = some [.int .i64 vars]) (hv : 0 ≤ vars ∧ vars ≤ 1000000) : Ret Try.prog Γ 86 [.int .i64 x, .ptr b 0] σ (.bool (!litB vars x)) σ := by
  refine ret_of c86_ok rfl ?_
  simp only [c86, hb, go_sem, stepW_iaddr_isl, stepW_iaddr_msl, stepW_idxs, stepK_iaddr_isl, stepK_iaddr_msl, stepK_idxs, ne_eq, ↓reduceIte]
  refine SRun.callR (isLiteral_ok x vars hv) ⟨[], rfl, rfl⟩ rfl ?_
  simp only [go_sem, stepW_iaddr_isl, stepW_iaddr_msl, stepW_idxs, stepK_iaddr_isl, stepK_iaddr_msl, stepK_idxs, ne_eq, ↓reduceIte]
  exact W_retR c86_ok rfl ⟨rfl, rfl⟩
def clauseB (vars : Int) (xs : List Int) : Bool := decide (xs.length ≤ 12) && xs.all (litB vars)
theorem cell_ints (xs : List Int) : ∀ x ∈ ints xs, x.cells = [x] := by
  intro c hc; simp only [ints, List.mem_map] at hc; obtain ⟨x, _, rfl⟩ := hc; rfl
theorem any_ints (xs : List Int) (p : V → Bool) : (ints xs).any p = xs.any fun x => p (.int .i64 x) := by simp [ints, List.any_map, Function.comp_def]
theorem isClause_ok {ex : Bool} {xs : List Int} {vars : Int} (hl : xs.length ≤ 140737488355328) (hv : 0 ≤ vars ∧ vars ≤ 1000000) : Ret Try.prog Γ 67 [.isl ex 1 (ints xs), .int .i64 vars] σ (.bool (clauseB vars xs)) σ := by
  refine ret_of c67_ok rfl ?_
  simp only [c67, go_sem, stepW_iaddr_isl, stepW_iaddr_msl, stepW_idxs, stepK_iaddr_isl, stepK_iaddr_msl, stepK_idxs, ne_eq, ↓reduceIte]
  refine SRun.boxR (by simp [ev, look, V.cells, V.one]) ?_
  intro b hb
  simp only [go_sem, stepW_iaddr_isl, stepW_iaddr_msl, stepW_idxs, stepK_iaddr_isl, stepK_iaddr_msl, stepK_idxs, ne_eq, ↓reduceIte]
  refine guardW_of (fun h => ?_) (fun h => ?_)
  · simp only [h, go_sem, stepW_iaddr_isl, stepW_iaddr_msl, stepW_idxs, stepK_iaddr_isl, stepK_iaddr_msl, stepK_idxs, ne_eq, ↓reduceIte]
    refine SRun.callR (containsFuncI_ok (p := fun v => match v with | .int _ x => !litB vars x | _ => false) (cell_ints xs) (by rw [ints_len]; exact hl) ?_) ⟨[], rfl, rfl⟩ (by simp only [guardV, go_sem, stepW_iaddr_isl, stepW_iaddr_msl, stepW_idxs, stepK_iaddr_isl, stepK_iaddr_msl, stepK_idxs, ne_eq, ↓reduceIte, h]; rfl) ?_
    · intro x hx
      simp only [ints, List.mem_map] at hx
      obtain ⟨y, _, rfl⟩ := hx
      exact isClause1_ok (upd_same _ _ _) hv
    · simp only [h, go_sem, stepW_iaddr_isl, stepW_iaddr_msl, stepW_idxs, stepK_iaddr_isl, stepK_iaddr_msl, stepK_idxs, ne_eq, ↓reduceIte]
      refine W_retC c67_ok rfl (Conv.drop _ (le_upd hb)) ⟨?_, rfl⟩
      have h' := of_decide_eq_true h
      rw [ints_len] at h'
      have h2 : decide (xs.length ≤ 12) = true := decide_eq_true (by omega)
      simp only [look, ↓reduceIte, any_ints, clauseB, h2, Bool.true_and, V.bool.injEq]
      rw [List.all_eq_not_any_not]
  · simp only [h, go_sem, stepW_iaddr_isl, stepW_iaddr_msl, stepW_idxs, stepK_iaddr_isl, stepK_iaddr_msl, stepK_idxs, ne_eq, ↓reduceIte]
    refine W_retC c67_ok rfl (Conv.drop _ (le_upd hb)) ⟨?_, rfl⟩
    have h' := of_decide_eq_false h
    rw [ints_len] at h'
    have h2 : decide (xs.length ≤ 12) = false := decide_eq_false (by omega)
    simp only [look, ↓reduceIte, clauseB, h2, Bool.false_and]
def cnfB (vars : Int) (cls : List (List Int)) : Bool := decide (0 ≤ vars) && decide (vars ≤ 40) && decide (cls.length ≤ 300) && cls.all (clauseB vars)
theorem cell_cls (cls : List (List Int)) : ∀ x ∈ clsV cls, x.cells = [x] := by
  intro c hc; simp only [clsV, List.mem_map] at hc; obtain ⟨x, _, rfl⟩ := hc; rfl
theorem any_cls (cls : List (List Int)) (p : V → Bool) : (clsV cls).any p = cls.any fun x => p (intsV x) := by simp [clsV, List.any_map, Function.comp_def]
theorem clsV_len (cls : List (List Int)) : (clsV cls).length = cls.length := by simp [clsV]
def unInt : V → Int
  | .int _ x => x
  | _ => 0
def unInts : V → List Int
  | .isl _ _ xs => xs.map unInt
  | _ => []
theorem unInts_intsV (xs : List Int) : unInts (intsV xs) = xs := by simp [unInts, intsV, ints, List.map_map, Function.comp_def, unInt]
theorem isCnf1_ok {xs : List Int} {vars : Int} {r : V} {b : Nat} (hb : σ b = some [.int .i64 vars, r]) (hv : 0 ≤ vars ∧ vars ≤ 1000000) (hl : xs.length ≤ 140737488355328) : Ret Try.prog Γ 66 [intsV xs, .ptr b 0] σ (.bool (!clauseB vars xs)) σ := by
  refine ret_of c66_ok rfl ?_
  simp only [c66, hb, go_sem, stepW_iaddr_isl, stepW_iaddr_msl, stepW_idxs, stepK_iaddr_isl, stepK_iaddr_msl, stepK_idxs, ne_eq, ↓reduceIte]
  refine SRun.callR (isClause_ok hl hv) ⟨[], rfl, rfl⟩ rfl ?_
  simp only [go_sem, stepW_iaddr_isl, stepW_iaddr_msl, stepW_idxs, stepK_iaddr_isl, stepK_iaddr_msl, stepK_idxs, ne_eq, ↓reduceIte]
  exact W_retR c66_ok rfl ⟨rfl, rfl⟩
/-- Its slices are of a length that memory bears. -/
def Small (cls : List (List Int)) : Prop := cls.length ≤ 1000000 ∧ ∀ c ∈ cls, c.length ≤ 1000000
theorem isCnf_ok {cls : List (List Int)} {vars : Int} (hs : Small cls) : Ret Try.prog Γ 39 [cnfV vars cls] σ (.bool (cnfB vars cls)) σ := by
  refine ret_of c39_ok rfl ?_
  simp only [c39, cnfV, go_sem, stepW_iaddr_isl, stepW_iaddr_msl, stepW_idxs, stepK_iaddr_isl, stepK_iaddr_msl, stepK_idxs, ne_eq, ↓reduceIte]
  refine SRun.boxR (by simp [ev, look, V.cells, V.one]) ?_
  intro b hb
  simp only [go_sem, stepW_iaddr_isl, stepW_iaddr_msl, stepW_idxs, stepK_iaddr_isl, stepK_iaddr_msl, stepK_idxs, ne_eq, ↓reduceIte]
  refine SRun.callR (within_ok _ _ _) ⟨[], rfl, rfl⟩ rfl ?_
  simp only [go_sem, stepW_iaddr_isl, stepW_iaddr_msl, stepW_idxs, stepK_iaddr_isl, stepK_iaddr_msl, stepK_idxs, ne_eq, ↓reduceIte]
  have w : ∀ (q : Bool) T, look T 2 = .bool q → q = cnfB vars cls → W Try.prog Γ 39 19 (fun x s => x = .bool (cnfB vars cls) ∧ s = σ) [.code .ret] T (upd σ b [.int .i64 vars, .isl false 1 (clsV cls)]) := by
    intro q T h2 hq
    exact W_retC c39_ok (r := .bool q) (by simp only [c39, resV, resV1, h2]) (Conv.drop _ (le_upd hb)) ⟨by rw [hq], rfl⟩
  refine guardW_of (fun h => ?_) (fun h => ?_)
  · simp only [h, go_sem, stepW_iaddr_isl, stepW_iaddr_msl, stepW_idxs, stepK_iaddr_isl, stepK_iaddr_msl, stepK_idxs, ne_eq, ↓reduceIte]
    refine guardW_of (fun h3 => ?_) (fun h3 => ?_)
    · simp only [h3, go_sem, stepW_iaddr_isl, stepW_iaddr_msl, stepW_idxs, stepK_iaddr_isl, stepK_iaddr_msl, stepK_idxs, ne_eq, ↓reduceIte]
      have hv : 0 ≤ vars ∧ vars ≤ 40 := by simpa using h
      refine SRun.callR (containsFuncL_ok (p := fun v => !clauseB vars (unInts v)) (cell_cls cls) (by rw [clsV_len]; have := hs.1; omega) ?_) ⟨[], rfl, rfl⟩ (by simp only [guardV, go_sem, stepW_iaddr_isl, stepW_iaddr_msl, stepW_idxs, stepK_iaddr_isl, stepK_iaddr_msl, stepK_idxs, ne_eq, ↓reduceIte, h3]; rfl) ?_
      · intro x hx
        simp only [clsV, List.mem_map] at hx
        obtain ⟨y, hy, rfl⟩ := hx
        rw [unInts_intsV]
        exact isCnf1_ok (upd_same _ _ _) (by omega) (by have := hs.2 y hy; omega)
      · simp only [h3, go_sem, stepW_iaddr_isl, stepW_iaddr_msl, stepW_idxs, stepK_iaddr_isl, stepK_iaddr_msl, stepK_idxs, ne_eq, ↓reduceIte]
        refine w _ _ rfl ?_
        rw [any_cls]
        simp only [unInts_intsV]
        have h4 := of_decide_eq_true h3
        rw [clsV_len] at h4
        have h5 : decide (cls.length ≤ 300) = true := decide_eq_true (by omega)
        simp only [cnfB, h, h5, Bool.true_and]
        rw [List.all_eq_not_any_not]
    · simp only [h3, go_sem, stepW_iaddr_isl, stepW_iaddr_msl, stepW_idxs, stepK_iaddr_isl, stepK_iaddr_msl, stepK_idxs, ne_eq, ↓reduceIte]
      refine w _ _ rfl ?_
      have h4 := of_decide_eq_false h3
      rw [clsV_len] at h4
      have h5 : decide (cls.length ≤ 300) = false := decide_eq_false (by omega)
      simp only [cnfB, h5, Bool.and_false, Bool.false_and]
  · simp only [h, go_sem, stepW_iaddr_isl, stepW_iaddr_msl, stepW_idxs, stepK_iaddr_isl, stepK_iaddr_msl, stepK_idxs, ne_eq, ↓reduceIte]
    refine w _ _ rfl ?_
    simp only [cnfB, h, Bool.false_and]
end
section
attribute [local irreducible] SRun DS DRun
variable {Γ : St} {σ σ0 : St}
/-- A copy in new memory, of slices of one cell. -/
theorem cloneI_ok {x : V} {cells : List V} (hx : (∃ ex es xs, x = .isl ex es xs) ∨ ∃ b es off len cap, x = .msl b es off len cap) (hsrc : srcV σ 1 x = some (cells, cells.length)) (hl : cells.length ≤ 1000000000) :
    ACalls Try.prog Γ 83 [x] σ fun r σ' => OwnS σ 1 cells cells.length r σ' := by
  refine acalls_W c83_ok rfl ?_
  simp only [c83, go_sem, stepW_iaddr_isl, stepW_iaddr_msl, stepW_idxs, stepK_iaddr_isl, stepK_iaddr_msl, stepK_idxs, ne_eq, ↓reduceIte]
  refine SRun.eqsR hx ?_
  intro q hq
  simp only [go_sem, stepW_iaddr_isl, stepW_iaddr_msl, stepW_idxs, stepK_iaddr_isl, stepK_iaddr_msl, stepK_idxs, ne_eq, ↓reduceIte]
  refine iteW_of (fun h => ?_) (fun h => ?_)
  · subst h
    simp only [go_sem, stepW_iaddr_isl, stepW_iaddr_msl, stepW_idxs, stepK_iaddr_isl, stepK_iaddr_msl, stepK_idxs, ne_eq, ↓reduceIte]
    have hc : cells = [] := by
      rcases hx with ⟨ex, es, xs, rfl⟩ | ⟨b, es, off, len, cap, rfl⟩
      · have hxs : xs = [] := by
          by_cases he : xs = []
          · exact he
          · have := hq he; cases this
        subst hxs
        simp [srcV, flat] at hsrc
        exact hsrc.1
      · have : true = false := hq
        cases this
    subst hc
    exact W_retR c83_ok rfl (OwnS.nil _ _)
  · simp only [go_sem, stepW_iaddr_isl, stepW_iaddr_msl, stepW_idxs, stepK_iaddr_isl, stepK_iaddr_msl, stepK_idxs, ne_eq, ↓reduceIte]
    refine SRun.appO (OwnS.nil 1 1) hsrc (by simp) (by omega) ?_
    intro r σ' ho
    simp only [go_sem, stepW_iaddr_isl, stepW_iaddr_msl, stepW_idxs, stepK_iaddr_isl, stepK_iaddr_msl, stepK_idxs, ne_eq, ↓reduceIte]
    refine W_retR c83_ok rfl ?_
    have ho2 : OwnS σ 1 cells cells.length r σ' := by simpa using ho
    exact ho2
/-- The first place of a number, or -1. -/
def findZ (xs : List Int) (y : Int) : Int := match xs.findIdx? (· == y) with | some i => (i : Int) | none => -1
theorem findZ_in (xs : List Int) (y : Int) : -1 ≤ findZ xs y ∧ findZ xs y < xs.length := by
  unfold findZ
  cases hf : xs.findIdx? (· == y) with
  | none => simp only; omega
  | some i =>
    have := (List.findIdx?_eq_some_iff_getElem.1 hf).1
    simp only; omega
/-- The first place of a number. -/
theorem indexI_ok {xs : List Int} {b off cap : Nat} {cs : List V} {y : Int} (hb : σ b = some cs) (hcs : (cs.drop off).take xs.length = ints xs) (hl : xs.length ≤ 1000000000) :
    Ret Try.prog Γ 82 [.msl b 1 off xs.length cap, .int .i64 y] σ (.int .i64 (findZ xs y)) σ := by
  refine ret_of c82_ok rfl ?_
  simp only [c82, go_sem, stepW_iaddr_isl, stepW_iaddr_msl, stepW_idxs, stepK_iaddr_isl, stepK_iaddr_msl, stepK_idxs, ne_eq, ↓reduceIte]
  refine W_loopR (fun m T σ' => ∃ i : Nat, i + m = xs.length ∧ look T 0 = .msl b 1 off xs.length cap ∧ look T 1 = .int .i64 y ∧ look T 7 = .int .i64 xs.length ∧ look T 8 = .int .i64 i ∧ σ' = σ ∧ (∀ j z, j < i → xs[j]? = some z → (z == y) = false)) xs.length ?_ ?_
  · exact ⟨0, by omega, rfl, rfl, rfl, rfl, rfl, fun j x hj => by omega⟩
  · rintro m T σ' ih ⟨i, hm, h0, h1', h7, h8, rfl, hno⟩
    simp only [h0, h1', h7, h8, go_sem, stepW_iaddr_isl, stepW_iaddr_msl, stepW_idxs, stepK_iaddr_isl, stepK_iaddr_msl, stepK_idxs, ne_eq, ↓reduceIte]
    refine iteW_of (fun h => ?_) (fun h => ?_)
    · have h' := of_decide_eq_true h
      have hlt : i < xs.length := by omega
      have hget : cs[off + i]? = some (.int .i64 xs[i]) := by
        have h2 : (ints xs)[i]? = some (.int .i64 xs[i]) := ints_get (by simp [hlt])
        rw [← hcs, List.getElem?_take, if_pos hlt, List.getElem?_drop] at h2
        exact h2
      have w1 := wrap64 (a := (i : Int) + 1) (by omega) (by omega)
      have h00 : (0 : Int) ≤ (i : Int) := by omega
      have h01 : (i : Int) < (xs.length : Int) := by omega
      simp only [h0, h1', h7, h8, hb, hget, h00, h01, Int.toNat_natCast, go_sem, stepW_iaddr_isl, stepW_iaddr_msl, stepW_idxs, stepK_iaddr_isl, stepK_iaddr_msl, stepK_idxs, ne_eq, ↓reduceIte]
      refine iteW_of (fun hq => ?_) (fun hq => ?_)
      · simp only [go_sem, stepW_iaddr_isl, stepW_iaddr_msl, stepW_idxs, stepK_iaddr_isl, stepK_iaddr_msl, stepK_idxs, ne_eq, ↓reduceIte]
        refine W_retR c82_ok rfl ⟨?_, rfl⟩
        have hq2 : (xs[i] == y) = true := by rw [beq_iff_eq] at hq ⊢; exact hq.symm
        have : xs.findIdx? (· == y) = some i := by
          rw [List.findIdx?_eq_some_iff_getElem]
          exact ⟨hlt, hq2, fun j hj => by simpa using hno j xs[j] hj (by simp)⟩
        simp only [findZ, this]; rfl
      · simp only [h8, w1, go_sem, stepW_iaddr_isl, stepW_iaddr_msl, stepW_idxs, stepK_iaddr_isl, stepK_iaddr_msl, stepK_idxs, ne_eq, ↓reduceIte]
        refine ih (m - 1) _ _ (by omega) ⟨i + 1, by omega, ?_, ?_, ?_, rfl, rfl, fun j x hj hx => ?_⟩
        · simp only [go_sem, stepW_iaddr_isl, stepW_iaddr_msl, stepW_idxs, stepK_iaddr_isl, stepK_iaddr_msl, stepK_idxs, ne_eq, ↓reduceIte]; exact h0
        · simp only [go_sem, stepW_iaddr_isl, stepW_iaddr_msl, stepW_idxs, stepK_iaddr_isl, stepK_iaddr_msl, stepK_idxs, ne_eq, ↓reduceIte]; exact h1'
        · simp only [go_sem, stepW_iaddr_isl, stepW_iaddr_msl, stepW_idxs, stepK_iaddr_isl, stepK_iaddr_msl, stepK_idxs, ne_eq, ↓reduceIte]; exact h7
        · by_cases hji : j = i
          · subst hji
            have : xs[j]? = some xs[j] := by simp [hlt]
            rw [this] at hx; obtain rfl := Option.some.inj hx
            rw [beq_eq_false_iff_ne] at hq ⊢; exact fun e => hq e.symm
          · exact hno j x (by omega) hx
    · have h' := of_decide_eq_false h
      simp only [go_sem, stepW_iaddr_isl, stepW_iaddr_msl, stepW_idxs, stepK_iaddr_isl, stepK_iaddr_msl, stepK_idxs, ne_eq, ↓reduceIte]
      refine W_retR c82_ok rfl ⟨?_, rfl⟩
      have : xs.findIdx? (· == y) = none := by
        rw [List.findIdx?_eq_none_iff]
        intro x hx
        obtain ⟨j, hj, rfl⟩ := List.getElem_of_mem hx
        exact hno j _ (by omega) (by simp)
      simp only [findZ, this]; rfl

/-- A state: the formula, and what is known. -/
def stC (vars : Int) (cls : List (List Int)) (bv n cap : Nat) : List V := [.int .i64 vars, .isl false 1 (clsV cls), .msl bv 1 0 n cap]
structure StAt (σ : St) (vars : Int) (cls : List (List Int)) (vals : List Int) (b bv : Nat) : Prop where
  st' : ∃ cap, vals.length ≤ cap ∧ σ b = some (stC vars cls bv vals.length cap)
  vl : σ bv = some (ints vals)
  len : (vals.length : Int) = vars + 1
  ne : bv ≠ b
def isT (vals : List Int) (x : Int) : Bool := if x < 0 then vals.getD (-x).toNat 0 == -1 else vals.getD x.toNat 0 == 1
def setT (vals : List Int) (x : Int) : List Int := if x < 0 then vals.set (-x).toNat (-1) else vals.set x.toNat 1
theorem setT_length (vals : List Int) (x : Int) : (setT vals x).length = vals.length := by unfold setT; split <;> simp
def litOK (vars x : Int) : Prop := x ≠ 0 ∧ -vars ≤ x ∧ x ≤ vars
theorem is_ok {vars x : Int} {cls : List (List Int)} {vals : List Int} {b bv : Nat} (h : StAt σ vars cls vals b bv) (hx : -vars ≤ x ∧ x ≤ vars) (hv : vars ≤ 1000000) :
    Ret Try.prog Γ 94 [.ptr b 0, .int .i64 x] σ (.bool (isT vals x)) σ := by
  refine ret_of c94_ok rfl ?_
  have hlen := h.len
  obtain ⟨cap, hcap, hst⟩ := h.st'
  simp only [c94, go_sem, stepW_iaddr_isl, stepW_iaddr_msl, stepW_idxs, stepK_iaddr_isl, stepK_iaddr_msl, stepK_idxs, ne_eq, ↓reduceIte]
  refine iteW_of (fun hq => ?_) (fun hq => ?_)
  · have h' := of_decide_eq_true hq
    have w1 := wrap64 (a := 0 - x) (by omega) (by omega)
    obtain ⟨y, hy⟩ : ∃ y, vals[(-x).toNat]? = some y := ⟨_, List.getElem?_eq_getElem (by omega)⟩
    have h0 : 0 ≤ 0 - x := by omega
    have h1 : 0 - x < (vals.length : Int) := by omega
    have hg : (ints vals)[(0 - x).toNat]? = some (.int .i64 y) := by rw [show (0 - x).toNat = (-x).toNat by omega]; exact ints_get hy
    simp only [hst, h.vl, stC, w1, h0, h1, hg, go_sem, stepW_iaddr_isl, stepW_iaddr_msl, stepW_idxs, stepK_iaddr_isl, stepK_iaddr_msl, stepK_idxs, ne_eq, ↓reduceIte]
    refine W_retR c94_ok rfl ⟨?_, rfl⟩
    simp [look, isT, h', hy]
  · have h' := of_decide_eq_false hq
    obtain ⟨y, hy⟩ : ∃ y, vals[x.toNat]? = some y := ⟨_, List.getElem?_eq_getElem (by omega)⟩
    have h0 : 0 ≤ x := by omega
    have h1 : x < (vals.length : Int) := by omega
    have hg : (ints vals)[x.toNat]? = some (.int .i64 y) := ints_get hy
    simp only [hst, h.vl, stC, h0, h1, hg, go_sem, stepW_iaddr_isl, stepW_iaddr_msl, stepW_idxs, stepK_iaddr_isl, stepK_iaddr_msl, stepK_idxs, ne_eq, ↓reduceIte]
    refine W_retR c94_ok rfl ⟨?_, rfl⟩
    simp [look, isT, h', hy]
theorem set_ok {vars x : Int} {cls : List (List Int)} {vals : List Int} {b bv : Nat} (h : StAt σ vars cls vals b bv) (hx : -vars ≤ x ∧ x ≤ vars) (hv : vars ≤ 1000000) :
    Ret Try.prog Γ 64 [.ptr b 0, .int .i64 x] σ (.tup []) (upd σ bv (ints (setT vals x))) := by
  refine ret_of c64_ok rfl ?_
  have hlen := h.len
  obtain ⟨cap, hcap, hst⟩ := h.st'
  simp only [c64, go_sem, stepW_iaddr_isl, stepW_iaddr_msl, stepW_idxs, stepK_iaddr_isl, stepK_iaddr_msl, stepK_idxs, ne_eq, ↓reduceIte]
  refine iteW_of (fun hq => ?_) (fun hq => ?_)
  · have h' := of_decide_eq_true hq
    have w1 := wrap64 (a := 0 - x) (by omega) (by omega)
    have h0 : 0 ≤ 0 - x := by omega
    have h1 : 0 - x < (vals.length : Int) := by omega
    have hle : (0 - x).toNat + 1 ≤ (ints vals).length := by rw [ints_len]; omega
    simp only [hst, h.vl, stC, w1, h0, h1, hle, go_sem, stepW_iaddr_isl, stepW_iaddr_msl, stepW_idxs, stepK_iaddr_isl, stepK_iaddr_msl, stepK_idxs, ne_eq, ↓reduceIte]
    refine W_fallR c64_ok rfl ⟨rfl, ?_⟩
    have : (ints vals).set (0 - x).toNat (.int .i64 (-1)) = ints (setT vals x) := by
      rw [show (0 - x).toNat = (-x).toNat by omega]; simp [ints, setT, h', List.map_set]
    rw [this]
  · have h' := of_decide_eq_false hq
    have h0 : 0 ≤ x := by omega
    have h1 : x < (vals.length : Int) := by omega
    have hle : x.toNat + 1 ≤ (ints vals).length := by rw [ints_len]; omega
    simp only [hst, h.vl, stC, h0, h1, hle, go_sem, stepW_iaddr_isl, stepW_iaddr_msl, stepW_idxs, stepK_iaddr_isl, stepK_iaddr_msl, stepK_idxs, ne_eq, ↓reduceIte]
    refine W_fallR c64_ok rfl ⟨rfl, ?_⟩
    have : (ints vals).set x.toNat (.int .i64 1) = ints (setT vals x) := by
      simp [ints, setT, h', List.map_set]
    rw [this]
def unitGo (vals : List Int) : List Int → Int → Int × Bool
  | [], one => (one, one == 0)
  | x :: r, one => bif isT vals x then (0, false) else bif isT vals (-x) || x == one then unitGo vals r one else bif one != 0 then (0, false) else unitGo vals r x
theorem unit_ok {vars : Int} {cls : List (List Int)} {vals xs : List Int} {b bv : Nat} {ex : Bool} (h : StAt σ vars cls vals b bv) (hx : ∀ x ∈ xs, litOK vars x) (hv : vars ≤ 1000000) (hl : xs.length ≤ 1000000) :
    Ret Try.prog Γ 81 [.ptr b 0, .isl ex 1 (ints xs)] σ (.tup [.int .i64 (unitGo vals xs 0).1, .bool (unitGo vals xs 0).2]) σ := by
  refine ret_of c81_ok rfl ?_
  simp only [c81, ints_len, go_sem, stepW_iaddr_isl, stepW_iaddr_msl, stepW_idxs, stepK_iaddr_isl, stepK_iaddr_msl, stepK_idxs, ne_eq, ↓reduceIte]
  refine W_loopR (fun m T σ' => ∃ (i : Nat) (one : Int), i + m = xs.length ∧ look T 0 = .ptr b 0 ∧ look T 9 = .isl ex 1 (ints xs) ∧ look T 10 = .int .i64 xs.length ∧ look T 11 = .int .i64 i ∧ look T 6 = .int .i64 one ∧ σ' = σ ∧ unitGo vals xs 0 = unitGo vals (xs.drop i) one) xs.length ?_ ?_
  · exact ⟨0, 0, by omega, rfl, rfl, rfl, rfl, rfl, rfl, rfl⟩
  · rintro m T σ' ih ⟨i, one, hm, h0, h9, h10, h11, h6, rfl, hgo⟩
    simp only [h0, h9, h10, h11, h6, go_sem, stepW_iaddr_isl, stepW_iaddr_msl, stepW_idxs, stepK_iaddr_isl, stepK_iaddr_msl, stepK_idxs, ne_eq, ↓reduceIte]
    refine iteW_of (fun hq => ?_) (fun hq => ?_)
    · have h' := of_decide_eq_true hq
      have hlt : i < xs.length := by omega
      have hget : (ints xs)[i]? = some (.int .i64 xs[i]) := ints_get (by simp [hlt])
      have hdrop : xs.drop i = xs[i] :: xs.drop (i + 1) := List.drop_eq_getElem_cons hlt
      have hlit := hx xs[i] (List.getElem_mem hlt)
      generalize xs[i] = x at hget hdrop hlit
      have w1 := wrap64 (a := (i : Int) + 1) (by omega) (by omega)
      have w2 := wrap64 (a := 0 - x) (by have := hlit.2; omega) (by have := hlit.2; omega)
      have h00 : (0 : Int) ≤ (i : Int) := by omega
      rw [hdrop] at hgo
      simp only [unitGo] at hgo
      simp only [h0, h9, h10, h11, h6, h00, hget, Int.toNat_natCast, go_sem, stepW_iaddr_isl, stepW_iaddr_msl, stepW_idxs, stepK_iaddr_isl, stepK_iaddr_msl, stepK_idxs, ne_eq, ↓reduceIte]
      refine SRun.callR (is_ok h hlit.2 hv) ⟨[], rfl, rfl⟩ rfl ?_
      simp only [go_sem, stepW_iaddr_isl, stepW_iaddr_msl, stepW_idxs, stepK_iaddr_isl, stepK_iaddr_msl, stepK_idxs, ne_eq, ↓reduceIte]
      have next : ∀ T one', look T 0 = .ptr b 0 → look T 9 = .isl ex 1 (ints xs) → look T 10 = .int .i64 xs.length → look T 11 = .int .i64 i → look T 6 = .int .i64 one' → unitGo vals xs 0 = unitGo vals (xs.drop (i + 1)) one' → True := fun _ _ _ _ _ _ _ _ => trivial
      refine iteW_of (fun hb => ?_) (fun hb => ?_)
      · simp only [go_sem, stepW_iaddr_isl, stepW_iaddr_msl, stepW_idxs, stepK_iaddr_isl, stepK_iaddr_msl, stepK_idxs, ne_eq, ↓reduceIte]
        rw [hb] at hgo
        refine W_retR c81_ok rfl ⟨?_, rfl⟩
        rw [hgo]; rfl
      · rw [hb] at hgo
        simp only [cond_false] at hgo
        simp only [h0, w2, go_sem, stepW_iaddr_isl, stepW_iaddr_msl, stepW_idxs, stepK_iaddr_isl, stepK_iaddr_msl, stepK_idxs, ne_eq, ↓reduceIte]
        have hneg : (0 : Int) - x = -x := by omega
        rw [hneg]
        refine SRun.callR (is_ok h (by have := hlit.2; omega) hv) ⟨[], rfl, rfl⟩ rfl ?_
        simp only [go_sem, stepW_iaddr_isl, stepW_iaddr_msl, stepW_idxs, stepK_iaddr_isl, stepK_iaddr_msl, stepK_idxs, ne_eq, ↓reduceIte]
        refine guardW_of (fun hc => ?_) (fun hc => ?_)
        · rw [hc] at hgo
          simp only [Bool.true_or, cond_true] at hgo
          simp only [hc, h11, w1, go_sem, stepW_iaddr_isl, stepW_iaddr_msl, stepW_idxs, stepK_iaddr_isl, stepK_iaddr_msl, stepK_idxs, ne_eq, ↓reduceIte]
          refine ih (m - 1) _ _ (by omega) ⟨i + 1, one, by omega, ?_, ?_, ?_, rfl, ?_, rfl, hgo⟩
          · simp only [go_sem, stepW_iaddr_isl, stepW_iaddr_msl, stepW_idxs, stepK_iaddr_isl, stepK_iaddr_msl, stepK_idxs, ne_eq, ↓reduceIte]; exact h0
          · simp only [go_sem, stepW_iaddr_isl, stepW_iaddr_msl, stepW_idxs, stepK_iaddr_isl, stepK_iaddr_msl, stepK_idxs, ne_eq, ↓reduceIte]; exact h9
          · simp only [go_sem, stepW_iaddr_isl, stepW_iaddr_msl, stepW_idxs, stepK_iaddr_isl, stepK_iaddr_msl, stepK_idxs, ne_eq, ↓reduceIte]; exact h10
          · simp only [go_sem, stepW_iaddr_isl, stepW_iaddr_msl, stepW_idxs, stepK_iaddr_isl, stepK_iaddr_msl, stepK_idxs, ne_eq, ↓reduceIte]; exact h6
        · rw [hc] at hgo
          simp only [Bool.false_or] at hgo
          simp only [hc, h6, go_sem, stepW_iaddr_isl, stepW_iaddr_msl, stepW_idxs, stepK_iaddr_isl, stepK_iaddr_msl, stepK_idxs, ne_eq, ↓reduceIte]
          refine iteW_of (fun hd => ?_) (fun hd => ?_)
          · rw [hd] at hgo
            simp only [cond_true] at hgo
            simp only [h11, w1, go_sem, stepW_iaddr_isl, stepW_iaddr_msl, stepW_idxs, stepK_iaddr_isl, stepK_iaddr_msl, stepK_idxs, ne_eq, ↓reduceIte]
            refine ih (m - 1) _ _ (by omega) ⟨i + 1, one, by omega, ?_, ?_, ?_, rfl, ?_, rfl, hgo⟩
            · simp only [go_sem, stepW_iaddr_isl, stepW_iaddr_msl, stepW_idxs, stepK_iaddr_isl, stepK_iaddr_msl, stepK_idxs, ne_eq, ↓reduceIte]; exact h0
            · simp only [go_sem, stepW_iaddr_isl, stepW_iaddr_msl, stepW_idxs, stepK_iaddr_isl, stepK_iaddr_msl, stepK_idxs, ne_eq, ↓reduceIte]; exact h9
            · simp only [go_sem, stepW_iaddr_isl, stepW_iaddr_msl, stepW_idxs, stepK_iaddr_isl, stepK_iaddr_msl, stepK_idxs, ne_eq, ↓reduceIte]; exact h10
            · simp only [go_sem, stepW_iaddr_isl, stepW_iaddr_msl, stepW_idxs, stepK_iaddr_isl, stepK_iaddr_msl, stepK_idxs, ne_eq, ↓reduceIte]; exact h6
          · rw [hd] at hgo
            simp only [cond_false] at hgo
            simp only [h6, go_sem, stepW_iaddr_isl, stepW_iaddr_msl, stepW_idxs, stepK_iaddr_isl, stepK_iaddr_msl, stepK_idxs, ne_eq, ↓reduceIte]
            refine iteW_of (fun he => ?_) (fun he => ?_)
            · rw [he] at hgo
              simp only [cond_true] at hgo
              simp only [go_sem, stepW_iaddr_isl, stepW_iaddr_msl, stepW_idxs, stepK_iaddr_isl, stepK_iaddr_msl, stepK_idxs, ne_eq, ↓reduceIte]
              refine W_retR c81_ok rfl ⟨?_, rfl⟩
              rw [hgo]; rfl
            · rw [he] at hgo
              simp only [cond_false] at hgo
              simp only [h11, w1, go_sem, stepW_iaddr_isl, stepW_iaddr_msl, stepW_idxs, stepK_iaddr_isl, stepK_iaddr_msl, stepK_idxs, ne_eq, ↓reduceIte]
              refine ih (m - 1) _ _ (by omega) ⟨i + 1, x, by omega, ?_, ?_, ?_, rfl, rfl, rfl, hgo⟩
              · simp only [go_sem, stepW_iaddr_isl, stepW_iaddr_msl, stepW_idxs, stepK_iaddr_isl, stepK_iaddr_msl, stepK_idxs, ne_eq, ↓reduceIte]; exact h0
              · simp only [go_sem, stepW_iaddr_isl, stepW_iaddr_msl, stepW_idxs, stepK_iaddr_isl, stepK_iaddr_msl, stepK_idxs, ne_eq, ↓reduceIte]; exact h9
              · simp only [go_sem, stepW_iaddr_isl, stepW_iaddr_msl, stepW_idxs, stepK_iaddr_isl, stepK_iaddr_msl, stepK_idxs, ne_eq, ↓reduceIte]; exact h10
    · have h' := of_decide_eq_false hq
      have : xs.drop i = [] := List.drop_eq_nil_of_le (by omega)
      rw [this] at hgo
      simp only [h6, go_sem, stepW_iaddr_isl, stepW_iaddr_msl, stepW_idxs, stepK_iaddr_isl, stepK_iaddr_msl, stepK_idxs, ne_eq, ↓reduceIte]
      refine W_retR c81_ok rfl ⟨?_, rfl⟩
      rw [hgo]; rfl
def scanGo (vals : List Int) : List (List Int) → Nat → Int → Option Nat × Int
  | [], _, next => (none, next)
  | c :: r, i, next => bif (unitGo vals c 0).2 then (some i, next) else scanGo vals r (i + 1) (bif next == 0 then (unitGo vals c 0).1 else next)
def propGo (cls : List (List Int)) : Nat → List Int → List Int → List Int × Int × List Int
  | 0, vals, list => (list, -1, vals)
  | f + 1, vals, list => match scanGo vals cls 0 0 with
    | (some i, _) => (list, i, vals)
    | (none, next) => bif next == 0 then (list, -1, vals) else propGo cls f (setT vals next) (list ++ [next])
def zeros (vals : List Int) : Nat := (vals.drop 1).count 0
def tri (vals : List Int) : Prop := ∀ v ∈ vals, v = -1 ∨ v = 0 ∨ v = 1
def free (vals : List Int) (x : Int) : Prop := isT vals x = false ∧ isT vals (-x) = false
theorem unitGo_free {vals : List Int} : ∀ {xs : List Int} {one : Int}, (one = 0 ∨ free vals one) → (unitGo vals xs one).1 = 0 ∨ (free vals (unitGo vals xs one).1 ∧ ((unitGo vals xs one).1 ∈ xs ∨ (unitGo vals xs one).1 = one)) := by
  intro xs
  induction xs with
  | nil => intro one h; exact h.imp id fun h => ⟨h, .inr rfl⟩
  | cons x r ih =>
    intro one h
    simp only [unitGo]
    cases h1 : isT vals x with
    | true => exact .inl rfl
    | false =>
      simp only [cond_false]
      cases h2 : isT vals (-x) || x == one with
      | true =>
        simp only [cond_true]
        exact (ih h).imp id fun ⟨a, b⟩ => ⟨a, b.imp (fun h => by simp [h]) id⟩
      | false =>
        simp only [cond_false]
        rw [Bool.or_eq_false_iff] at h2
        cases h3 : one != 0 with
        | true => exact .inl rfl
        | false =>
          simp only [cond_false]
          exact (ih (.inr ⟨h1, h2.1⟩)).imp id fun ⟨a, b⟩ => ⟨a, .inl (by rcases b with b | b <;> simp [b])⟩
theorem scanGo_free {vals : List Int} : ∀ {cls : List (List Int)} {i : Nat} {next : Int}, (next = 0 ∨ free vals next) → (scanGo vals cls i next).2 = 0 ∨ (free vals (scanGo vals cls i next).2 ∧ ((∃ c ∈ cls, (scanGo vals cls i next).2 ∈ c) ∨ (scanGo vals cls i next).2 = next)) := by
  intro cls
  induction cls with
  | nil => intro i next h; exact h.imp id fun h => ⟨h, .inr rfl⟩
  | cons c r ih =>
    intro i next h
    simp only [scanGo]
    cases h1 : (unitGo vals c 0).2 with
    | true => exact h.imp id fun h => ⟨h, .inr rfl⟩
    | false =>
      simp only [cond_false]
      cases h2 : next == 0 with
      | false =>
        simp only [cond_false]
        exact (ih h).imp id fun ⟨a, b⟩ => ⟨a, b.imp (fun ⟨c, hc, hm⟩ => ⟨c, by simp [hc], hm⟩) id⟩
      | true =>
        simp only [cond_true]
        have hu := unitGo_free (vals := vals) (xs := c) (one := 0) (.inl rfl)
        rcases ih (i := i + 1) (hu.imp id fun ⟨a, _⟩ => a) with hr | ⟨hr1, hr2⟩
        · exact .inl hr
        · rcases hr2 with ⟨c2, hc2, hm⟩ | hr2
          · exact .inr ⟨hr1, .inl ⟨c2, by simp [hc2], hm⟩⟩
          · rcases hu with hu | ⟨hu1, hu2⟩
            · exact .inl (hr2.trans hu)
            · rcases hu2 with hu2 | hu2
              · exact .inr ⟨hr1, .inl ⟨c, by simp, by rw [hr2]; exact hu2⟩⟩
              · exact .inl (hr2.trans hu2)
/-- A variable of which nothing is known is one less then. -/
theorem free_get {vars x : Int} {vals : List Int} (hl : (vals.length : Int) = vars + 1) (ht : tri vals) (hx : litOK vars x) (hf : free vals x) : vals[x.natAbs]? = some 0 := by
  have hlt : x.natAbs < vals.length := by have := hx.2; omega
  have hg : vals[x.natAbs]? = some vals[x.natAbs] := by simp [hlt]
  rw [hg]
  have hm := ht vals[x.natAbs] (List.getElem_mem hlt)
  have h1 := hf.1; have h2 := hf.2
  unfold isT at h1 h2
  by_cases hneg : x < 0
  · rw [if_pos hneg] at h1
    rw [if_neg (by omega)] at h2
    have e : (-x).toNat = x.natAbs := by omega
    rw [e] at h1 h2
    simp only [List.getD, hg, Option.getD_some, beq_eq_false_iff_ne, ne_eq] at h1 h2
    rcases hm with h | h | h
    · exact absurd h h1
    · rw [h]
    · exact absurd h h2
  · have hpos : 0 < x := by have := hx.1; omega
    rw [if_neg hneg] at h1
    rw [if_pos (by omega)] at h2
    have e : x.toNat = x.natAbs := by omega
    have e2 : (- -x).toNat = x.natAbs := by omega
    rw [e] at h1; rw [e2] at h2
    simp only [List.getD, hg, Option.getD_some, beq_eq_false_iff_ne, ne_eq] at h1 h2
    rcases hm with h | h | h
    · exact absurd h h2
    · rw [h]
    · exact absurd h h1
theorem setT_eq (vals : List Int) (x : Int) : setT vals x = vals.set x.natAbs (if x < 0 then -1 else 1) := by
  unfold setT
  split
  · rw [show (-x).toNat = x.natAbs by omega]
  · rw [show x.toNat = x.natAbs by omega]
theorem tri_set {vals : List Int} (ht : tri vals) (x : Int) : tri (setT vals x) := by
  intro v hv
  rw [setT_eq] at hv
  rcases List.mem_or_eq_of_mem_set hv with h | h
  · exact ht v h
  · split at h <;> omega
theorem count_set {l : List Int} {i : Nat} {v : Int} (h : l[i]? = some 0) (hv : v ≠ 0) : (l.set i v).count 0 + 1 = l.count 0 := by
  induction l generalizing i with
  | nil => simp at h
  | cons a r ih =>
    cases i with
    | zero =>
      simp at h; subst h
      simp [List.count_cons, hv]
    | succ i =>
      simp at h
      have := ih h
      simp only [List.set_cons_succ, List.count_cons]
      omega
theorem zeros_set {vars x : Int} {vals : List Int} (hl : (vals.length : Int) = vars + 1) (ht : tri vals) (hx : litOK vars x) (hf : free vals x) : zeros (setT vals x) + 1 = zeros vals := by
  have hg := free_get hl ht hx hf
  rw [setT_eq]
  unfold zeros
  have h0 : x.natAbs ≠ 0 := by have := hx.1; omega
  obtain ⟨k, hk⟩ : ∃ k, x.natAbs = k + 1 := ⟨x.natAbs - 1, by omega⟩
  cases vals with
  | nil => simp at hg
  | cons a r =>
    rw [hk] at hg ⊢
    simp only [List.getElem?_cons_succ, List.set_cons_succ, List.drop_succ_cons, List.drop_zero] at hg ⊢
    exact count_set hg (by split <;> omega)
theorem StAt.mono {σ' : St} {vars : Int} {cls : List (List Int)} {vals : List Int} {b bv : Nat} (h : StAt σ vars cls vals b bv) (hle : ∀ b c, σ b = some c → σ' b = some c) : StAt σ' vars cls vals b bv :=
  ⟨h.st'.imp fun cap hc => ⟨hc.1, hle _ _ hc.2⟩, hle _ _ h.vl, h.len, h.ne⟩
theorem StAt.set {vars : Int} {cls : List (List Int)} {vals vals' : List Int} {b bv : Nat} (h : StAt σ vars cls vals b bv) (hl : vals'.length = vals.length) : StAt (upd σ bv (ints vals')) vars cls vals' b bv :=
  ⟨h.st'.imp fun cap hc => ⟨by rw [hl]; exact hc.1, by rw [upd_ne _ _ h.ne.symm, hl]; exact hc.2⟩, upd_same _ _ _, by rw [hl]; exact h.len, h.ne⟩
/-- The clauses of a formula of some variables. -/
def ClsOK (vars : Int) (cls : List (List Int)) : Prop := Small cls ∧ ∀ c ∈ cls, ∀ x ∈ c, litOK vars x
theorem propagate_ok {vars : Int} {cls : List (List Int)} {vals : List Int} {b bv : Nat} (h : StAt σ vars cls vals b bv) (hv : vars ≤ 1000000) (hc : ClsOK vars cls) (ht : tri vals) :
    ACalls Try.prog Γ 61 [.ptr b 0] σ fun r σ' => ∃ rl, r = .tup [rl, .int .i64 (propGo cls (zeros vals + 1) vals []).2.1] ∧ OwnS (upd σ bv (ints (propGo cls (zeros vals + 1) vals []).2.2)) 1 (ints (propGo cls (zeros vals + 1) vals []).1) (propGo cls (zeros vals + 1) vals []).1.length rl σ' := by
  generalize hR : propGo cls (zeros vals + 1) vals [] = R
  refine acalls_W c61_ok rfl ?_
  simp only [c61, go_sem, stepW_iaddr_isl, stepW_iaddr_msl, stepW_idxs, stepK_iaddr_isl, stepK_iaddr_msl, stepK_idxs, ne_eq, ↓reduceIte]
  refine W_loopR (fun m T σ' => ∃ (v2 : List Int) (list : List Int), m = zeros v2 ∧ look T 0 = .ptr b 0 ∧ v2.length = vals.length ∧ tri v2 ∧ list.length ≤ vals.length ∧ list.length + zeros v2 ≤ vals.length ∧ propGo cls (zeros v2 + 1) v2 list = R ∧ OwnS (upd σ bv (ints v2)) 1 (ints list) list.length (look T 4) σ') (zeros vals) ?_ ?_
  · refine ⟨vals, [], rfl, rfl, rfl, ht, by simp, ?_, hR, ?_⟩
    · have : zeros vals ≤ (vals.drop 1).length := List.count_le_length
      simp at this ⊢; omega
    · rw [upd_self σ h.vl]; exact OwnS.nil _ _
  · rintro m T σ' ih ⟨v2, list, hm, h0, hlv, ht2, hll, hlz, hgo, ho⟩
    have hst : StAt σ' vars cls v2 b bv := (h.set hlv).mono ho.le
    have hlen := h.len
    obtain ⟨cap, hcap, hst0⟩ := hst.st'
    simp only [h0, hst0, stC, clsV_len, go_sem, stepW_iaddr_isl, stepW_iaddr_msl, stepW_idxs, stepK_iaddr_isl, stepK_iaddr_msl, stepK_idxs, ne_eq, ↓reduceIte]
    refine W_loopR (fun m2 T σ2 => ∃ (i : Nat) (next : Int), i + m2 = cls.length ∧ σ2 = σ' ∧ look T 0 = .ptr b 0 ∧ OwnS (upd σ bv (ints v2)) 1 (ints list) list.length (look T 4) σ' ∧ look T 5 = .int .i64 next ∧ look T 14 = .isl false 1 (clsV cls) ∧ look T 15 = .int .i64 cls.length ∧ look T 16 = .int .i64 i ∧ scanGo v2 cls 0 0 = scanGo v2 (cls.drop i) i next) cls.length ?_ ?_
    · exact ⟨0, 0, by omega, rfl, h0, ho, rfl, rfl, rfl, rfl, rfl⟩
    · rintro m2 T σ2 ih2 ⟨i, next, hm2, rfl, h0, ho, h5, h14, h15, h16, hsc⟩
      have hcl := hc.1.1
      simp only [h0, h5, h14, h15, h16, go_sem, stepW_iaddr_isl, stepW_iaddr_msl, stepW_idxs, stepK_iaddr_isl, stepK_iaddr_msl, stepK_idxs, ne_eq, ↓reduceIte]
      refine iteW_of (fun hq => ?_) (fun hq => ?_)
      · have h' := of_decide_eq_true hq
        have hlt : i < cls.length := by omega
        have hget : (clsV cls)[i]? = some (.isl false 1 (ints cls[i])) := by simp [clsV, intsV, hlt]
        have hdrop : cls.drop i = cls[i] :: cls.drop (i + 1) := List.drop_eq_getElem_cons hlt
        have hmem := List.getElem_mem hlt
        have hlit := hc.2 _ hmem
        have hsm := hc.1.2 _ hmem
        generalize cls[i] = c at hget hdrop hlit hsm
        have w1 := wrap64 (a := (i : Int) + 1) (by omega) (by omega)
        have h00 : (0 : Int) ≤ (i : Int) := by omega
        rw [hdrop] at hsc
        simp only [scanGo] at hsc
        simp only [h0, h5, h14, h15, h16, h00, hget, Int.toNat_natCast, go_sem, stepW_iaddr_isl, stepW_iaddr_msl, stepW_idxs, stepK_iaddr_isl, stepK_iaddr_msl, stepK_idxs, ne_eq, ↓reduceIte]
        refine SRun.callR (unit_ok hst hlit hv hsm) ⟨[], rfl, rfl⟩ rfl ?_
        simp only [List.getD_cons_zero, List.getD_cons_succ, go_sem, stepW_iaddr_isl, stepW_iaddr_msl, stepW_idxs, stepK_iaddr_isl, stepK_iaddr_msl, stepK_idxs, ne_eq, ↓reduceIte]
        refine iteW_of (fun hb => ?_) (fun hb => ?_)
        · rw [hb] at hsc
          simp only [cond_true] at hsc
          simp only [go_sem, stepW_iaddr_isl, stepW_iaddr_msl, stepW_idxs, stepK_iaddr_isl, stepK_iaddr_msl, stepK_idxs, ne_eq, ↓reduceIte]
          simp only [propGo, hsc] at hgo
          subst hgo
          exact W_retR c61_ok rfl ⟨_, rfl, ho⟩
        · rw [hb] at hsc
          simp only [cond_false] at hsc
          simp only [h5, go_sem, stepW_iaddr_isl, stepW_iaddr_msl, stepW_idxs, stepK_iaddr_isl, stepK_iaddr_msl, stepK_idxs, ne_eq, ↓reduceIte]
          refine iteW_of (fun hd => ?_) (fun hd => ?_)
          · rw [hd] at hsc
            simp only [cond_true] at hsc
            simp only [h16, w1, go_sem, stepW_iaddr_isl, stepW_iaddr_msl, stepW_idxs, stepK_iaddr_isl, stepK_iaddr_msl, stepK_idxs, ne_eq, ↓reduceIte]
            refine ih2 (m2 - 1) _ _ (by omega) ⟨i + 1, _, by omega, rfl, ?_, ?_, rfl, ?_, ?_, rfl, hsc⟩
            · simp only [go_sem, stepW_iaddr_isl, stepW_iaddr_msl, stepW_idxs, stepK_iaddr_isl, stepK_iaddr_msl, stepK_idxs, ne_eq, ↓reduceIte]; exact h0
            · simp only [go_sem, stepW_iaddr_isl, stepW_iaddr_msl, stepW_idxs, stepK_iaddr_isl, stepK_iaddr_msl, stepK_idxs, ne_eq, ↓reduceIte]; exact ho
            · simp only [go_sem, stepW_iaddr_isl, stepW_iaddr_msl, stepW_idxs, stepK_iaddr_isl, stepK_iaddr_msl, stepK_idxs, ne_eq, ↓reduceIte]; exact h14
            · simp only [go_sem, stepW_iaddr_isl, stepW_iaddr_msl, stepW_idxs, stepK_iaddr_isl, stepK_iaddr_msl, stepK_idxs, ne_eq, ↓reduceIte]; exact h15
          · rw [hd] at hsc
            simp only [cond_false] at hsc
            simp only [h16, w1, go_sem, stepW_iaddr_isl, stepW_iaddr_msl, stepW_idxs, stepK_iaddr_isl, stepK_iaddr_msl, stepK_idxs, ne_eq, ↓reduceIte]
            refine ih2 (m2 - 1) _ _ (by omega) ⟨i + 1, next, by omega, rfl, ?_, ?_, ?_, ?_, ?_, rfl, hsc⟩
            · simp only [go_sem, stepW_iaddr_isl, stepW_iaddr_msl, stepW_idxs, stepK_iaddr_isl, stepK_iaddr_msl, stepK_idxs, ne_eq, ↓reduceIte]; exact h0
            · simp only [go_sem, stepW_iaddr_isl, stepW_iaddr_msl, stepW_idxs, stepK_iaddr_isl, stepK_iaddr_msl, stepK_idxs, ne_eq, ↓reduceIte]; exact ho
            · simp only [go_sem, stepW_iaddr_isl, stepW_iaddr_msl, stepW_idxs, stepK_iaddr_isl, stepK_iaddr_msl, stepK_idxs, ne_eq, ↓reduceIte]; exact h5
            · simp only [go_sem, stepW_iaddr_isl, stepW_iaddr_msl, stepW_idxs, stepK_iaddr_isl, stepK_iaddr_msl, stepK_idxs, ne_eq, ↓reduceIte]; exact h14
            · simp only [go_sem, stepW_iaddr_isl, stepW_iaddr_msl, stepW_idxs, stepK_iaddr_isl, stepK_iaddr_msl, stepK_idxs, ne_eq, ↓reduceIte]; exact h15
      · have h' := of_decide_eq_false hq
        have : cls.drop i = [] := List.drop_eq_nil_of_le (by omega)
        rw [this] at hsc
        simp only [scanGo] at hsc
        simp only [h5, go_sem, stepW_iaddr_isl, stepW_iaddr_msl, stepW_idxs, stepK_iaddr_isl, stepK_iaddr_msl, stepK_idxs, ne_eq, ↓reduceIte]
        refine iteW_of (fun hd => ?_) (fun hd => ?_)
        · simp only [go_sem, stepW_iaddr_isl, stepW_iaddr_msl, stepW_idxs, stepK_iaddr_isl, stepK_iaddr_msl, stepK_idxs, ne_eq, ↓reduceIte]
          simp only [propGo, hsc, hd, cond_true] at hgo
          subst hgo
          exact W_retR c61_ok rfl ⟨_, rfl, ho⟩
        · have hfr := scanGo_free (vals := v2) (cls := cls) (i := 0) (next := 0) (.inl rfl)
          rw [hsc] at hfr
          have hne : next ≠ 0 := by simpa using hd
          obtain ⟨hf, hin⟩ := hfr.resolve_left hne
          obtain ⟨c, hcm, hnm⟩ := hin.resolve_right hne
          have hlo := hc.2 c hcm next hnm
          have hz := zeros_set (by rw [hlv]; exact h.len) ht2 hlo hf
          simp only [h0, h5, go_sem, stepW_iaddr_isl, stepW_iaddr_msl, stepW_idxs, stepK_iaddr_isl, stepK_iaddr_msl, stepK_idxs, ne_eq, ↓reduceIte]
          refine SRun.callR (set_ok hst hlo.2 hv) ⟨[], rfl, rfl⟩ rfl ?_
          simp only [go_sem, stepW_iaddr_isl, stepW_iaddr_msl, stepW_idxs, stepK_iaddr_isl, stepK_iaddr_msl, stepK_idxs, ne_eq, ↓reduceIte]
          have ho2 := ho.upd (c' := ints (setT v2 next)) (upd_same _ bv _)
          rw [upd_upd] at ho2
          simp only [h5, go_sem, stepW_iaddr_isl, stepW_iaddr_msl, stepW_idxs, stepK_iaddr_isl, stepK_iaddr_msl, stepK_idxs, ne_eq, ↓reduceIte]
          refine SRun.appO ho2 src_i rfl (by omega) ?_
          intro r σ4 ho4
          rw [ints_app] at ho4
          simp only [go_sem, stepW_iaddr_isl, stepW_iaddr_msl, stepW_idxs, stepK_iaddr_isl, stepK_iaddr_msl, stepK_idxs, ne_eq, ↓reduceIte]
          refine ih (m - 1) _ _ (by omega) ⟨setT v2 next, list ++ [next], by omega, ?_, by rw [setT_length]; exact hlv, tri_set ht2 _, by simp; omega, by simp; omega, ?_, by rw [List.length_append]; exact ho4⟩
          · simp only [go_sem, stepW_iaddr_isl, stepW_iaddr_msl, stepW_idxs, stepK_iaddr_isl, stepK_iaddr_msl, stepK_idxs, ne_eq, ↓reduceIte]; exact h0
          · rw [show zeros v2 + 1 = (zeros (setT v2 next) + 1) + 1 by omega] at hgo
            rw [propGo] at hgo
            simp only [hsc, hd, cond_false] at hgo
            exact hgo
/-- A state that has been made. -/
def StOwn (σ0 : St) (vars : Int) (cls : List (List Int)) (vals : List Int) (r : V) (σ : St) : Prop :=
  ∃ b bv cap, σ0 b = none ∧ σ0 bv = none ∧ bv ≠ b ∧ vals.length ≤ cap ∧ r = .ptr b 0 ∧ σ = upd (upd σ0 bv (ints vals)) b (stC vars cls bv vals.length cap)
theorem newState_ok {vars : Int} {cls : List (List Int)} (hv : 0 ≤ vars ∧ vars ≤ 1000000) : ACalls Try.prog Γ 37 [cnfV vars cls] σ fun r σ' => StOwn σ vars cls (List.replicate (vars + 1).toNat 0) r σ' := by
  refine acalls_W c37_ok rfl ?_
  obtain ⟨N, hN⟩ : ∃ N : Nat, vars + 1 = N := ⟨(vars + 1).toNat, by omega⟩
  have w1 := wrap64 (a := vars + 1) (by omega) (by omega)
  rw [hN] at w1
  simp only [c37, cnfV, go_sem, stepW_iaddr_isl, stepW_iaddr_msl, stepW_idxs, stepK_iaddr_isl, stepK_iaddr_msl, stepK_idxs, ne_eq, ↓reduceIte]
  refine SRun.boxR (by simp [ev, look, V.cells, V.one]) ?_
  intro b1 hb1
  simp only [go_sem, stepW_iaddr_isl, stepW_iaddr_msl, stepW_idxs, stepK_iaddr_isl, stepK_iaddr_msl, stepK_idxs, ne_eq, ↓reduceIte]
  rw [W_draw]
  refine DRun.start (DRun.mixR (upd_same _ _ _) rfl ?_)
  simp only [hN, w1, go_sem, stepW_iaddr_isl, stepW_iaddr_msl, stepW_idxs, stepK_iaddr_isl, stepK_iaddr_msl, stepK_idxs, ne_eq, ↓reduceIte]
  refine DS.wrQ (WrF.mksl (n' := N) (m := N) rfl rfl rfl (Nat.le_refl _) (by omega) (by omega)) rfl ?_
  rintro r s ⟨bv, hbv, rfl, rfl⟩ hd
  obtain ⟨e, hne⟩ := cup_upd_one (s := σ) (upd_same σ b1 _) hd
  rw [del_ne _ hne, upd_ne _ _ hne] at hbv
  simp only [e, go_sem, stepW_iaddr_isl, stepW_iaddr_msl, stepW_idxs, stepK_iaddr_isl, stepK_iaddr_msl, stepK_idxs, ne_eq, ↓reduceIte]
  refine DRun.boxR (by simp [ev, look, V.cells, V.one]) ?_
  intro b hb
  have hn := upd_none.1 hb
  have hn2 := upd_none.1 hn.2
  simp only [go_sem, stepW_iaddr_isl, stepW_iaddr_msl, stepW_idxs, stepK_iaddr_isl, stepK_iaddr_msl, stepK_idxs, ne_eq, ↓reduceIte]
  have hz : (List.replicate N [V.int IntKind.i64 0]).flatten = ints (List.replicate N 0) := by simp [ints]
  rw [Int.toNat_natCast, hz]
  refine W_retC c37_ok rfl (Conv.drop _ (σ' := upd (upd σ bv (ints (List.replicate N 0))) b (stC vars cls bv (List.replicate N 0).length N)) ?_) ⟨b, bv, N, hn2.2, hbv, fun e => hn.1 e.symm, by simp, rfl, rfl⟩
  intro c x hc
  by_cases hcb : c = b
  · subst hcb
    rw [upd_same] at hc
    simp only [ev, look, ↓reduceIte, upd_same, V.cells, Nat.reduceEqDiff]
    simpa [stC] using hc
  · rw [upd_ne _ _ hcb] at hc ⊢
    by_cases hcv : c = bv
    · subst hcv; rw [upd_same] at hc ⊢; exact hc
    · rw [upd_ne _ _ hcv] at hc ⊢
      exact le_upd hb1 _ _ hc
theorem open_ok {vars : Int} {cls : List (List Int)} {vals : List Int} {b bv : Nat} (h : StAt σ vars cls vals b bv) (hv : 0 ≤ vars ∧ vars ≤ 1000000) :
    Ret Try.prog Γ 62 [.ptr b 0] σ (.int .i64 (findZ (vals.drop 1) 0 + 1)) σ := by
  refine ret_of c62_ok rfl ?_
  have hlen := h.len
  obtain ⟨cap, hcap, hst⟩ := h.st'
  have h1 : (1 : Int) ≤ vals.length := by omega
  by_cases hc1 : (cap : Int) = 1
  case pos =>
    obtain rfl : cap = 1 := by omega
    obtain rfl : vars = 0 := by omega
    obtain ⟨a, rfl⟩ : ∃ a, vals = [a] := by
      match vals, hlen with
      | [a], _ => exact ⟨a, rfl⟩
      | [], h => simp at h
      | a :: b :: r, h => simp only [List.length_cons] at h; omega
    simp only [List.length_singleton] at hst h1 hcap
    simp only [c62, hst, stC, go_sem, stepW_iaddr_isl, stepW_iaddr_msl, stepW_idxs, stepK_iaddr_isl, stepK_iaddr_msl, stepK_idxs, ne_eq, ↓reduceIte]
    simp (config := { decide := true }) only [go_sem, stepW_iaddr_isl, stepW_iaddr_msl, stepW_idxs, stepK_iaddr_isl, stepK_iaddr_msl, stepK_idxs, ne_eq, ↓reduceIte]
    refine SRun.callR (indexI_ok (xs := []) h.vl rfl (by simp)) ⟨[], rfl, rfl⟩ rfl ?_
    simp (config := { decide := true }) only [go_sem, stepW_iaddr_isl, stepW_iaddr_msl, stepW_idxs, stepK_iaddr_isl, stepK_iaddr_msl, stepK_idxs, ne_eq, ↓reduceIte]
    exact W_retR c62_ok rfl ⟨rfl, rfl⟩
  have h2 : ((cap : Int) = 1) = False := eq_false hc1
  have h3 : (vals.length : Int) ≤ (cap : Int) := by omega
  simp only [c62, hst, stC, h1, h2, h3, go_sem, stepW_iaddr_isl, stepW_iaddr_msl, stepW_idxs, stepK_iaddr_isl, stepK_iaddr_msl, stepK_idxs, ne_eq, ↓reduceIte]
  obtain ⟨a, ys, rfl⟩ : ∃ a ys, vals = a :: ys := by
    cases vals with
    | nil => simp at hlen; omega
    | cons a ys => exact ⟨a, ys, rfl⟩
  simp only [List.length_cons] at hlen h1 h3 hcap ⊢
  have e1 : (((ys.length + 1 : Nat) : Int) - 1).toNat = ys.length := by omega
  simp only [e1]
  refine SRun.callR (indexI_ok (xs := ys) h.vl (by rw [List.take_of_length_le (by simp [ints])]; rfl) (by omega)) ⟨[], rfl, rfl⟩ rfl ?_
  have hb := findZ_in ys 0
  have w1 := wrap64 (a := findZ ys 0 + 1) (by omega) (by omega)
  simp only [w1, go_sem, stepW_iaddr_isl, stepW_iaddr_msl, stepW_idxs, stepK_iaddr_isl, stepK_iaddr_msl, stepK_idxs, ne_eq, ↓reduceIte]
  refine W_retR c62_ok rfl ⟨?_, rfl⟩
  simp only [look, ↓reduceIte, V.int.injEq, true_and, List.drop_succ_cons, List.drop_zero]
  split <;> omega
theorem stclone_ok {vars : Int} {cls : List (List Int)} {vals : List Int} {b bv : Nat} (h : StAt σ vars cls vals b bv) (hv : 0 ≤ vars ∧ vars ≤ 1000000) :
    ACalls Try.prog Γ 63 [.ptr b 0] σ fun r σ' => StOwn σ vars cls vals r σ' := by
  refine acalls_W c63_ok rfl ?_
  simp only [c63, go_sem, stepW_iaddr_isl, stepW_iaddr_msl, stepW_idxs, stepK_iaddr_isl, stepK_iaddr_msl, stepK_idxs, ne_eq, ↓reduceIte]
  rw [W_draw]
  obtain ⟨cap0, hcap0, hst⟩ := h.st'
  refine DRun.start (DRun.mixR hst rfl ?_)
  simp only [upd_same, stC, go_sem, stepW_iaddr_isl, stepW_iaddr_msl, stepW_idxs, stepK_iaddr_isl, stepK_iaddr_msl, stepK_idxs, ne_eq, ↓reduceIte]
  have hsrc : srcV (del σ b) 1 (.msl bv 1 0 vals.length cap0) = some (ints vals, (ints vals).length) := by
    simp only [srcV, if_true, del_ne _ h.ne, h.vl]
    rw [if_pos (by rw [ints_len]; omega)]
    simp [ints_len, List.take_of_length_le]
  have hlen := h.len
  refine DS.callQ (cloneI_ok (.inr ⟨_, _, _, _, _, rfl⟩) hsrc (by rw [ints_len]; omega)) ⟨[], rfl, rfl⟩ rfl ?_
  intro r s ho hd
  have ho2 := own_cupR ho hst hd
  rcases ho2 with ⟨h1, h2, _, _⟩ | ⟨b2, cap, h2, rfl, e, h4⟩
  · exfalso
    rw [ints_len] at h2; omega
  · have e2 : cup s (upd emp b [V.int IntKind.i64 vars, V.isl false 1 (clsV cls), V.msl bv 1 0 vals.length cap0]) = upd σ b2 (ints vals) := e
    simp only [e2, go_sem, stepW_iaddr_isl, stepW_iaddr_msl, stepW_idxs, stepK_iaddr_isl, stepK_iaddr_msl, stepK_idxs, ne_eq, ↓reduceIte]
    refine DRun.boxR (by simp [ev, look, V.cells, V.one]) ?_
    intro b3 hb3
    have hn := upd_none.1 hb3
    simp only [go_sem, stepW_iaddr_isl, stepW_iaddr_msl, stepW_idxs, stepK_iaddr_isl, stepK_iaddr_msl, stepK_idxs, ne_eq, ↓reduceIte]
    have hn2 : σ b3 = none := hn.2
    exact W_retR c63_ok rfl ⟨b3, b2, cap, hn2, h2, fun e => hn.1 e.symm, by have := h4.2; rw [ints_len] at this; exact this, rfl, by rw [ints_len]; rfl⟩
end
section
attribute [local irreducible] SRun DS DRun
variable {Γ : St} {σ σ0 : St}
theorem propGo_keeps {vars : Int} {cls : List (List Int)} (hc : ClsOK vars cls) : ∀ (f : Nat) (vals list : List Int), (vals.length : Int) = vars + 1 → tri vals → (propGo cls f vals list).2.2.length = vals.length ∧ tri (propGo cls f vals list).2.2 ∧ zeros (propGo cls f vals list).2.2 ≤ zeros vals := by
  intro f
  induction f with
  | zero => intro vals list _ ht; exact ⟨rfl, ht, Nat.le_refl _⟩
  | succ f ih =>
    intro vals list hl ht
    have hfr := scanGo_free (vals := vals) (cls := cls) (i := 0) (next := 0) (.inl rfl)
    simp only [propGo]
    generalize scanGo vals cls 0 0 = q at hfr
    obtain ⟨o, next⟩ := q
    cases o with
    | some i => exact ⟨rfl, ht, Nat.le_refl _⟩
    | none =>
      simp only
      cases hd : next == 0 with
      | true => exact ⟨rfl, ht, Nat.le_refl _⟩
      | false =>
        simp only [cond_false]
        have hne : next ≠ 0 := by simpa using hd
        obtain ⟨hf, hin⟩ := hfr.resolve_left hne
        obtain ⟨c, hcm, hnm⟩ := hin.resolve_right hne
        have hlo := hc.2 c hcm next hnm
        have hz := zeros_set hl ht hlo hf
        obtain ⟨h1, h2, h3⟩ := ih (setT vals next) (list ++ [next]) (by rw [setT_length]; exact hl) (tri_set ht _)
        exact ⟨h1.trans (setT_length _ _), h2, by omega⟩
def solveP (cls : List (List Int)) : Nat → List Int → Option (List Int)
  | 0, _ => none
  | f + 1, vals =>
    bif decide ((propGo cls (zeros vals + 1) vals []).2.1 ≥ 0) then none else
    bif findZ ((propGo cls (zeros vals + 1) vals []).2.2.drop 1) 0 + 1 == 0 then some (propGo cls (zeros vals + 1) vals []).2.2 else
    match solveP cls f (setT (propGo cls (zeros vals + 1) vals []).2.2 (-(findZ ((propGo cls (zeros vals + 1) vals []).2.2.drop 1) 0 + 1))) with
    | some r => some r
    | none => solveP cls f (setT (propGo cls (zeros vals + 1) vals []).2.2 (findZ ((propGo cls (zeros vals + 1) vals []).2.2.drop 1) 0 + 1))
theorem findZ_get {vals : List Int} {vars : Int} (hl : (vals.length : Int) = vars + 1) (h : findZ (vals.drop 1) 0 + 1 ≠ 0) : litOK vars (findZ (vals.drop 1) 0 + 1) ∧ vals[(findZ (vals.drop 1) 0 + 1).natAbs]? = some 0 ∧ free vals (findZ (vals.drop 1) 0 + 1) ∧ free vals (-(findZ (vals.drop 1) 0 + 1)) := by
  have hin := findZ_in (vals.drop 1) 0
  have hg : vals[(findZ (vals.drop 1) 0 + 1).natAbs]? = some 0 := by
    unfold findZ at h ⊢
    cases hf : (vals.drop 1).findIdx? (· == 0) with
    | none => rw [hf] at h; exact absurd rfl h
    | some i =>
      simp only
      obtain ⟨h1, h2, _⟩ := List.findIdx?_eq_some_iff_getElem.1 hf
      have h3 : (vals.drop 1)[i]? = some 0 := by
        rw [List.getElem?_eq_getElem h1]
        exact congrArg some (by simpa using h2)
      rw [List.getElem?_drop] at h3
      rw [show ((i : Int) + 1).natAbs = 1 + i by omega]
      exact h3
  generalize hv : findZ (vals.drop 1) 0 + 1 = v at h hg ⊢
  have hvl : v ≤ vars := by simp only [List.length_drop] at hin; omega
  have hfree : free vals v := by
    unfold free isT
    have hp : 0 < v := by omega
    have e1 : v.toNat = v.natAbs := by omega
    have e2 : (- -v).toNat = v.natAbs := by omega
    rw [if_neg (by omega), if_pos (by omega), e1, e2]
    simp [List.getD, hg]
  exact ⟨⟨h, by omega, hvl⟩, hg, hfree, hfree.2, by rw [Int.neg_neg]; exact hfree.1⟩
/-- A state that is owned over what is owned beside. -/
def StO (σ0 : St) (vars : Int) (cls : List (List Int)) (vals : List Int) (b bv : Nat) (σ : St) : Prop :=
  σ0 b = none ∧ σ0 bv = none ∧ bv ≠ b ∧ ∃ cap, vals.length ≤ cap ∧ σ = upd (upd σ0 bv (ints vals)) b (stC vars cls bv vals.length cap)
theorem StOwn.o {vars : Int} {cls : List (List Int)} {vals : List Int} {r : V} (h : StOwn σ0 vars cls vals r σ) : ∃ b bv, r = .ptr b 0 ∧ StO σ0 vars cls vals b bv σ := by
  obtain ⟨b, bv, cap, h1, h2, h3, h4, h5, h6⟩ := h
  exact ⟨b, bv, h5, h1, h2, h3, cap, h4, h6⟩
theorem StO.own {vars : Int} {cls : List (List Int)} {vals : List Int} {b bv : Nat} (h : StO σ0 vars cls vals b bv σ) : StOwn σ0 vars cls vals (.ptr b 0) σ := by
  obtain ⟨h1, h2, h3, cap, h4, h6⟩ := h
  exact ⟨b, bv, cap, h1, h2, h3, h4, rfl, h6⟩
theorem StO.at {vars : Int} {cls : List (List Int)} {vals : List Int} {b bv : Nat} (h : StO σ0 vars cls vals b bv σ) (hl : (vals.length : Int) = vars + 1) : StAt σ vars cls vals b bv := by
  obtain ⟨h1, h2, h3, cap, h4, rfl⟩ := h
  exact ⟨⟨cap, h4, upd_same _ _ _⟩, by rw [upd_ne _ _ h3, upd_same], hl, h3⟩
theorem StO.set {vars : Int} {cls : List (List Int)} {vals vals' : List Int} {b bv : Nat} (h : StO σ0 vars cls vals b bv σ) (hl : vals'.length = vals.length) : StO σ0 vars cls vals' b bv (upd σ bv (ints vals')) := by
  obtain ⟨h1, h2, h3, cap, h4, rfl⟩ := h
  refine ⟨h1, h2, h3, cap, by omega, ?_⟩
  rw [upd_comm _ h3.symm, upd_upd, hl]
theorem StO.le {vars : Int} {cls : List (List Int)} {vals : List Int} {b bv : Nat} (h : StO σ0 vars cls vals b bv σ) : ∀ c x, σ0 c = some x → σ c = some x := by
  obtain ⟨h1, h2, h3, cap, h4, rfl⟩ := h
  intro c x hc
  exact le_upd (by rw [upd_ne _ _ h3.symm]; exact h1) _ _ (le_upd h2 _ _ hc)
theorem StOwn.drop {τ : St} {vars : Int} {cls : List (List Int)} {vals : List Int} {r : V} (hle : ∀ c x, τ c = some x → σ0 c = some x) (h : StOwn σ0 vars cls vals r σ) : ∃ σ2, (∀ c x, σ2 c = some x → σ c = some x) ∧ StOwn τ vars cls vals r σ2 := by
  obtain ⟨b, bv, cap, h1, h2, h3, h4, rfl, rfl⟩ := h
  have hn : ∀ c, σ0 c = none → τ c = none := by
    intro c hc
    cases ht : τ c with
    | none => rfl
    | some x => rw [hle c x ht] at hc; cases hc
  refine ⟨upd (upd τ bv (ints vals)) b (stC vars cls bv vals.length cap), fun c x hc => ?_, b, bv, cap, hn _ h1, hn _ h2, h3, h4, rfl, rfl⟩
  by_cases hcb : c = b
  · subst hcb; rw [upd_same] at hc ⊢; exact hc
  · rw [upd_ne _ _ hcb] at hc ⊢
    by_cases hcv : c = bv
    · subst hcv; rw [upd_same] at hc ⊢; exact hc
    · rw [upd_ne _ _ hcv] at hc ⊢; exact hle _ _ hc
theorem propagate_frz {vars : Int} {cls : List (List Int)} {vals : List Int} {b bv : Nat} (h : StAt σ vars cls vals b bv) (hv : vars ≤ 1000000) (hc : ClsOK vars cls) (ht : tri vals) :
    Ret Try.prog Γ 61 [.ptr b 0] σ (.tup [intsV (propGo cls (zeros vals + 1) vals []).1, .int .i64 (propGo cls (zeros vals + 1) vals []).2.1]) (upd σ bv (ints (propGo cls (zeros vals + 1) vals []).2.2)) :=
  (propagate_ok h hv hc ht).conv fun r s ⟨rl, e, ho⟩ => by
    subst e
    have hcv := ho.conv (ints_one _)
    refine ⟨.tup [intsV (propGo cls (zeros vals + 1) vals []).1, .int .i64 (propGo cls (zeros vals + 1) vals []).2.1], _, ⟨hcv.1, .tup _ _ rfl fun i x y hy hx => ?_⟩, rfl, rfl⟩
    match i with
    | 0 => simp at hx hy; subst hx hy; exact hcv.2
    | 1 => simp at hx hy; subst hx hy; exact .refl _
    | i + 2 => simp at hx
theorem solve_ok {vars : Int} {cls : List (List Int)} (hv : 0 ≤ vars ∧ vars ≤ 1000000) (hc : ClsOK vars cls) : ∀ (fu : Nat) (σ σ0 : St) (vals : List Int) (b bv : Nat), zeros vals < fu → (vals.length : Int) = vars + 1 → tri vals → StO σ0 vars cls vals b bv σ →
    ACalls Try.prog Γ 38 [.ptr b 0] σ fun r σ' => (solveP cls fu vals = none ∧ r = .nilptr ∧ σ' = σ0) ∨ ∃ v, solveP cls fu vals = some v ∧ StOwn σ0 vars cls v r σ' := by
  intro fu
  induction fu with
  | zero => intro σ σ0 vals b bv hz; omega
  | succ fu ih =>
    intro σ σ0 vals b bv hz hl ht ho
    generalize hS : solveP cls (fu + 1) vals = S
    refine acalls_W c38_ok rfl ?_
    obtain ⟨k1, k2, k3⟩ := propGo_keeps hc (zeros vals + 1) vals [] hl ht
    simp only [c38, go_sem, stepW_iaddr_isl, stepW_iaddr_msl, stepW_idxs, stepK_iaddr_isl, stepK_iaddr_msl, stepK_idxs, ne_eq, ↓reduceIte]
    refine SRun.callR (propagate_frz (ho.at hl) hv.2 hc ht) ⟨[], rfl, rfl⟩ rfl ?_
    simp only [solveP] at hS
    generalize propGo cls (zeros vals + 1) vals [] = R at k1 k2 k3 hS
    obtain ⟨lst, ix, v2⟩ := R
    simp only at k1 k2 k3 hS
    have ho2 := ho.set (vals' := v2) k1
    simp only [List.getD_cons_zero, List.getD_cons_succ, go_sem, stepW_iaddr_isl, stepW_iaddr_msl, stepW_idxs, stepK_iaddr_isl, stepK_iaddr_msl, stepK_idxs, ne_eq, ↓reduceIte]
    refine iteW_of (fun hq => ?_) (fun hq => ?_)
    · simp only [hq, cond_true] at hS
      simp only [go_sem, stepW_iaddr_isl, stepW_iaddr_msl, stepW_idxs, stepK_iaddr_isl, stepK_iaddr_msl, stepK_idxs, ne_eq, ↓reduceIte]
      exact W_retC c38_ok rfl (Conv.drop _ ho2.le) (.inl ⟨hS.symm, rfl, rfl⟩)
    · simp only [hq, cond_false] at hS
      simp only [go_sem, stepW_iaddr_isl, stepW_iaddr_msl, stepW_idxs, stepK_iaddr_isl, stepK_iaddr_msl, stepK_idxs, ne_eq, ↓reduceIte]
      have hl2 : (v2.length : Int) = vars + 1 := by rw [k1]; exact hl
      have hst2 := ho2.at hl2
      refine SRun.callR (open_ok hst2 hv) ⟨[], rfl, rfl⟩ rfl ?_
      simp only [go_sem, stepW_iaddr_isl, stepW_iaddr_msl, stepW_idxs, stepK_iaddr_isl, stepK_iaddr_msl, stepK_idxs, ne_eq, ↓reduceIte]
      have hfz := findZ_get hl2
      have hin : 0 ≤ findZ (v2.drop 1) 0 + 1 := by have := findZ_in (v2.drop 1) 0; omega
      generalize findZ (v2.drop 1) 0 + 1 = z at hfz hS hin
      refine iteW_of (fun hd => ?_) (fun hd => ?_)
      · simp only [hd, cond_true] at hS
        simp only [go_sem, stepW_iaddr_isl, stepW_iaddr_msl, stepW_idxs, stepK_iaddr_isl, stepK_iaddr_msl, stepK_idxs, ne_eq, ↓reduceIte]
        exact W_retR c38_ok rfl (.inr ⟨v2, hS.symm, ho2.own⟩)
      · have hne : z ≠ 0 := by simpa using hd
        obtain ⟨hlit, hg, hf1, hf2⟩ := hfz hne
        simp only [hd, cond_false] at hS
        simp only [go_sem, stepW_iaddr_isl, stepW_iaddr_msl, stepW_idxs, stepK_iaddr_isl, stepK_iaddr_msl, stepK_idxs, ne_eq, ↓reduceIte]
        refine SRun.callQ (stclone_ok hst2 hv) ⟨[], rfl, rfl⟩ rfl ?_
        intro r s1 hr
        obtain ⟨b1, bv1, rfl, ho3⟩ := hr.o
        have w1 := wrap64 (a := -z) (by have := hlit.2; omega) (by have := hlit.2; omega)
        have hneg : (0 : Int) - z = -z := by omega
        simp only [hneg, w1, go_sem, stepW_iaddr_isl, stepW_iaddr_msl, stepW_idxs, stepK_iaddr_isl, stepK_iaddr_msl, stepK_idxs, ne_eq, ↓reduceIte]
        refine SRun.callR (set_ok (ho3.at hl2) (by have := hlit.2; omega) hv.2) ⟨[], rfl, rfl⟩ rfl ?_
        have ho4 := ho3.set (vals' := setT v2 (-z)) (setT_length _ _)
        have hlitn : litOK vars (-z) := ⟨by omega, by have := hlit.2; omega⟩
        have hz1 := zeros_set hl2 k2 hlitn hf2
        have hz2 := zeros_set hl2 k2 hlit hf1
        simp only [go_sem, stepW_iaddr_isl, stepW_iaddr_msl, stepW_idxs, stepK_iaddr_isl, stepK_iaddr_msl, stepK_idxs, ne_eq, ↓reduceIte]
        refine SRun.callQ (ih _ _ (setT v2 (-z)) b1 bv1 (by omega) (by rw [setT_length]; exact hl2) (tri_set k2 _) ho4) ⟨[], rfl, rfl⟩ rfl ?_
        rintro r s2 (⟨hn, rfl, rfl⟩ | ⟨v, hsome, hown⟩)
        · rw [hn] at hS
          simp only at hS
          simp only [go_sem, stepW_iaddr_isl, stepW_iaddr_msl, stepW_idxs, stepK_iaddr_isl, stepK_iaddr_msl, stepK_idxs, ne_eq, ↓reduceIte]
          refine SRun.callR (set_ok hst2 hlit.2 hv.2) ⟨[], rfl, rfl⟩ rfl ?_
          have ho5 := ho2.set (vals' := setT v2 z) (setT_length _ _)
          rw [upd_upd] at ho5
          simp only [go_sem, stepW_iaddr_isl, stepW_iaddr_msl, stepW_idxs, stepK_iaddr_isl, stepK_iaddr_msl, stepK_idxs, ne_eq, ↓reduceIte]
          refine SRun.callQ (ih _ _ (setT v2 z) b bv (by omega) (by rw [setT_length]; exact hl2) (tri_set k2 _) ho5) ⟨[], rfl, rfl⟩ rfl ?_
          intro r s3 hr
          simp only [go_sem, stepW_iaddr_isl, stepW_iaddr_msl, stepW_idxs, stepK_iaddr_isl, stepK_iaddr_msl, stepK_idxs, ne_eq, ↓reduceIte]
          rw [hS] at hr
          exact W_retR c38_ok rfl hr
        · obtain ⟨b5, bv5, rfl, ho5⟩ := hown.o
          rw [hsome] at hS
          simp only at hS
          simp only [go_sem, stepW_iaddr_isl, stepW_iaddr_msl, stepW_idxs, stepK_iaddr_isl, stepK_iaddr_msl, stepK_idxs, ne_eq, ↓reduceIte]
          obtain ⟨s3, hle3, hown3⟩ := hown.drop ho2.le
          exact W_retC c38_ok rfl (Conv.drop _ hle3) (.inr ⟨v, hS.symm, hown3⟩)
end
section
attribute [local irreducible] SRun DS DRun
variable {Γ : St} {σ σ0 : St}
theorem solveP_len {vars : Int} {cls : List (List Int)} (hc : ClsOK vars cls) : ∀ (fu : Nat) (vals v : List Int), (vals.length : Int) = vars + 1 → tri vals → solveP cls fu vals = some v → v.length = vals.length ∧ tri v := by
  intro fu
  induction fu with
  | zero => intro vals v _ _ h; simp [solveP] at h
  | succ fu ih =>
    intro vals v hl ht h
    obtain ⟨k1, k2, k3⟩ := propGo_keeps hc (zeros vals + 1) vals [] hl ht
    simp only [solveP] at h
    generalize propGo cls (zeros vals + 1) vals [] = R at k1 k2 k3 h
    have hl2 : (R.2.2.length : Int) = vars + 1 := by rw [k1]; exact hl
    cases hq : decide (R.2.1 ≥ 0) with
    | true => rw [hq] at h; simp at h
    | false =>
      rw [hq] at h
      simp only [cond_false] at h
      cases hd : findZ (R.2.2.drop 1) 0 + 1 == 0 with
      | true => rw [hd] at h; simp only [cond_true, Option.some.injEq] at h; subst h; exact ⟨k1, k2⟩
      | false =>
        rw [hd] at h
        simp only [cond_false] at h
        split at h
        · rename_i r hr
          obtain rfl := Option.some.inj h
          obtain ⟨a1, a2⟩ := ih _ _ (by rw [setT_length]; exact hl2) (tri_set k2 _) hr
          exact ⟨a1.trans ((setT_length _ _).trans k1), a2⟩
        · obtain ⟨a1, a2⟩ := ih _ _ (by rw [setT_length]; exact hl2) (tri_set k2 _) h
          exact ⟨a1.trans ((setT_length _ _).trans k1), a2⟩
def zeroVals (vars : Int) : List Int := List.replicate (vars + 1).toNat 0
def modelP (vars : Int) (cls : List (List Int)) : Option (List Int) := solveP cls (vars.toNat + 2) (zeroVals vars)
def bools (xs : List Bool) : List V := xs.map V.bool
def boolsV (xs : List Bool) : V := .isl false 1 (bools xs)
theorem bools_one (xs : List Bool) : ∀ c ∈ bools xs, c.one = true := by
  intro c hc; simp only [bools, List.mem_map] at hc; obtain ⟨x, _, rfl⟩ := hc; rfl
/-- What is known, as values. -/
def valsB (v : List Int) : List Bool := (v.drop 1).map (· == 1)
def partB (v : List Int) (N i : Nat) : List V := (List.range N).map fun j => V.bool (decide (j < i) && v.getD (j + 1) 0 == 1)
theorem partB_set {v : List Int} {N i : Nat} {y : Int} (hi : i < N) (hy : v[i + 1]? = some y) : (partB v N i).set i (.bool (y == 1)) = partB v N (i + 1) := by
  apply List.ext_getElem?
  intro j
  simp only [partB, List.getElem?_set, List.getElem?_map, List.length_map, List.length_range]
  by_cases hj : i = j
  · subst hj
    simp [hi, List.getD, hy]
  · rw [if_neg hj]
    rcases Nat.lt_or_ge j N with h | h
    · have : decide (j < i) = decide (j < i + 1) := by
        by_cases h2 : j < i
        · rw [decide_eq_true h2, decide_eq_true (by omega)]
        · rw [decide_eq_false h2, decide_eq_false (by omega)]
      simp [h, this]
    · simp [List.getElem?_eq_none, h]
theorem partB_all {v : List Int} {N : Nat} (hl : v.length = N + 1) : partB v N N = bools (valsB v) := by
  apply List.ext_getElem?
  intro j
  simp only [partB, bools, valsB, List.getElem?_map, List.getElem?_drop]
  rcases Nat.lt_or_ge j N with h | h
  · have h2 : j + 1 < v.length := by omega
    simp [h, h2, Nat.add_comm 1 j]
  · have h2 : v.length ≤ 1 + j := by omega
    simp [List.getElem?_eq_none, h, h2]
end
section
attribute [local irreducible] SRun DS DRun
variable {Γ : St} {σ σ0 : St}
theorem litB_iff {vars x : Int} : litB vars x = true ↔ litOK vars x := by simp [litB, litOK]
theorem clsOK_of {vars : Int} {cls : List (List Int)} (h : cnfB vars cls = true) : ClsOK vars cls ∧ 0 ≤ vars ∧ vars ≤ 40 ∧ cls.length ≤ 300 := by
  simp only [cnfB, Bool.and_eq_true, decide_eq_true_eq, List.all_eq_true, clauseB] at h
  exact ⟨⟨⟨by omega, fun c hc => by have := (h.2 c hc).1; omega⟩, fun c hc x hx => litB_iff.1 ((h.2 c hc).2 x hx)⟩, h.1.1.1, h.1.1.2, h.1.2⟩
end
section
attribute [local irreducible] SRun DS DRun
variable {Γ : St} {σ σ0 : St}
theorem l01In_ok (a b c : Int) : Ret Try.prog Γ 44 [.int .i64 a, .int .i64 b, .int .i64 c] σ (.bool (decide (b ≤ a) && decide (a ≤ c))) σ := by
  refine ret_of c44_ok rfl ?_
  simp only [c44, go_sem, stepW_iaddr_isl, stepW_iaddr_msl, stepW_idxs, stepK_iaddr_isl, stepK_iaddr_msl, stepK_idxs, ne_eq, ↓reduceIte]
  refine guardW_of (fun h => ?_) (fun h => ?_)
  · simp only [h, go_sem, stepW_iaddr_isl, stepW_iaddr_msl, stepW_idxs, stepK_iaddr_isl, stepK_iaddr_msl, stepK_idxs, ne_eq, ↓reduceIte]
    exact W_retR c44_ok rfl ⟨rfl, rfl⟩
  · simp only [h, go_sem, stepW_iaddr_isl, stepW_iaddr_msl, stepW_idxs, stepK_iaddr_isl, stepK_iaddr_msl, stepK_idxs, ne_eq, ↓reduceIte]
    exact W_retR c44_ok rfl ⟨rfl, rfl⟩
theorem l01Abs_ok {x : Int} (hx : -1000000 ≤ x ∧ x ≤ 1000000) : Ret Try.prog Γ 89 [.int .i64 x] σ (.int .i64 x.natAbs) σ := by
  refine ret_of c89_ok rfl ?_
  have w1 := wrap64 (a := 0 - x) (by omega) (by omega)
  simp only [c89, w1, go_sem, stepW_iaddr_isl, stepW_iaddr_msl, stepW_idxs, stepK_iaddr_isl, stepK_iaddr_msl, stepK_idxs, ne_eq, ↓reduceIte]
  refine W_retR c89_ok rfl ⟨?_, rfl⟩
  simp only [look, ↓reduceIte, V.int.injEq, true_and]
  split <;> omega
theorem all_take {α : Type} {p : α → Bool} {xs : List α} {i : Nat} {x : α} (h : (xs.take i).all p = true) (hx : xs[i]? = some x) (hp : p x = true) : (xs.take (i + 1)).all p = true := by
  rw [List.take_add_one, hx]
  simp only [Option.toList_some, List.all_append, List.all_cons, List.all_nil, Bool.and_true, h, hp, Bool.and_self]
theorem all_false {α : Type} {p : α → Bool} {xs : List α} {i : Nat} {x : α} (hx : xs[i]? = some x) (hp : p x = false) : xs.all p = false := by
  rw [List.all_eq_false]
  exact ⟨x, List.mem_of_getElem? hx, by simp [hp]⟩
theorem l01Clause_ok {ex : Bool} {xs : List Int} {vars : Int} (hl : xs.length ≤ 1000000) (hv : 0 ≤ vars ∧ vars ≤ 1000000) : Ret Try.prog Γ 51 [.isl ex 1 (ints xs), .int .i64 vars] σ (.bool (clauseB vars xs)) σ := by
  refine ret_of c51_ok rfl ?_
  simp only [c51, ints_len, go_sem, stepW_iaddr_isl, stepW_iaddr_msl, stepW_idxs, stepK_iaddr_isl, stepK_iaddr_msl, stepK_idxs, ne_eq, ↓reduceIte]
  refine iteW_of (fun h => ?_) (fun h => ?_)
  · have h' := of_decide_eq_true h
    simp only [go_sem, stepW_iaddr_isl, stepW_iaddr_msl, stepW_idxs, stepK_iaddr_isl, stepK_iaddr_msl, stepK_idxs, ne_eq, ↓reduceIte]
    refine W_retR c51_ok rfl ⟨?_, rfl⟩
    have : decide (xs.length ≤ 12) = false := decide_eq_false (by omega)
    simp only [look, ↓reduceIte, clauseB, this, Bool.false_and]
  · have h' := of_decide_eq_false h
    have h12 : decide (xs.length ≤ 12) = true := decide_eq_true (by omega)
    simp only [go_sem, stepW_iaddr_isl, stepW_iaddr_msl, stepW_idxs, stepK_iaddr_isl, stepK_iaddr_msl, stepK_idxs, ne_eq, ↓reduceIte]
    refine W_loopR (fun m T σ' => ∃ i : Nat, i + m = xs.length ∧ look T 0 = .isl ex 1 (ints xs) ∧ look T 1 = .int .i64 vars ∧ look T 5 = .int .i64 i ∧ σ' = σ ∧ (xs.take i).all (litB vars) = true) xs.length ?_ ?_
    · exact ⟨0, by omega, rfl, rfl, rfl, rfl, rfl⟩
    · rintro m T σ' ih ⟨i, hm, h0, h1, h5, rfl, hall⟩
      simp only [h0, h1, h5, ints_len, go_sem, stepW_iaddr_isl, stepW_iaddr_msl, stepW_idxs, stepK_iaddr_isl, stepK_iaddr_msl, stepK_idxs, ne_eq, ↓reduceIte]
      refine iteW_of (fun hq => ?_) (fun hq => ?_)
      · have hq' := of_decide_eq_true hq
        have hlt : i < xs.length := by omega
        have hxi : xs[i]? = some xs[i] := by simp [hlt]
        generalize xs[i] = x at hxi
        have hget := ints_get hxi
        have w1 := wrap64 (a := (i : Int) + 1) (by omega) (by omega)
        have w2 := wrap64 (a := 0 - vars) (by omega) (by omega)
        have c3 : (0 : Int) ≤ (i : Int) := by omega
        simp only [h0, h1, h5, hget, c3, Int.toNat_natCast, go_sem, stepW_iaddr_isl, stepW_iaddr_msl, stepW_idxs, stepK_iaddr_isl, stepK_iaddr_msl, stepK_idxs, ne_eq, ↓reduceIte]
        have done : litB vars x = true → ∀ T, look T 0 = .isl ex 1 (ints xs) → True := fun _ _ _ => trivial
        refine guardW_of (fun hg => ?_) (fun hg => ?_)
        · simp only [hg, go_sem, stepW_iaddr_isl, stepW_iaddr_msl, stepW_idxs, stepK_iaddr_isl, stepK_iaddr_msl, stepK_idxs, ne_eq, ↓reduceIte]
          refine W_retR c51_ok rfl ⟨?_, rfl⟩
          have hx0 : x = 0 := by simpa using hg
          simp only [look, ↓reduceIte, clauseB, all_false hxi (show litB vars x = false by simp [litB, hx0]), Bool.and_false]
        · simp only [hg, h0, h1, h5, hget, c3, w2, Int.toNat_natCast, go_sem, stepW_iaddr_isl, stepW_iaddr_msl, stepW_idxs, stepK_iaddr_isl, stepK_iaddr_msl, stepK_idxs, ne_eq, ↓reduceIte]
          refine SRun.callR (l01In_ok _ _ _) ⟨[], rfl, rfl⟩ (by simp only [guardV, go_sem, stepW_iaddr_isl, stepW_iaddr_msl, stepW_idxs, stepK_iaddr_isl, stepK_iaddr_msl, stepK_idxs, ne_eq, ↓reduceIte, hg]; rfl) ?_
          simp only [hg, go_sem, stepW_iaddr_isl, stepW_iaddr_msl, stepW_idxs, stepK_iaddr_isl, stepK_iaddr_msl, stepK_idxs, ne_eq, ↓reduceIte]
          have hx0 : x ≠ 0 := by simpa using hg
          have hneg : (0 : Int) - vars = -vars := by omega
          simp only [hneg]
          have hlit : litB vars x = (decide (-vars ≤ x) && decide (x ≤ vars)) := by simp [litB, hx0]
          refine iteW_of (fun hb => ?_) (fun hb => ?_)
          · simp only [go_sem, stepW_iaddr_isl, stepW_iaddr_msl, stepW_idxs, stepK_iaddr_isl, stepK_iaddr_msl, stepK_idxs, ne_eq, ↓reduceIte]
            refine W_retR c51_ok rfl ⟨?_, rfl⟩
            have : litB vars x = false := by rw [hlit]; generalize (decide (-vars ≤ x) && decide (x ≤ vars)) = q at hb; cases q <;> simp_all
            simp only [look, ↓reduceIte, clauseB, all_false hxi this, Bool.and_false]
          · simp only [h5, w1, go_sem, stepW_iaddr_isl, stepW_iaddr_msl, stepW_idxs, stepK_iaddr_isl, stepK_iaddr_msl, stepK_idxs, ne_eq, ↓reduceIte]
            have : litB vars x = true := by rw [hlit]; generalize (decide (-vars ≤ x) && decide (x ≤ vars)) = q at hb; cases q <;> simp_all
            refine ih (m - 1) _ _ (by omega) ⟨i + 1, by omega, ?_, ?_, rfl, rfl, all_take hall hxi this⟩
            · simp only [go_sem, stepW_iaddr_isl, stepW_iaddr_msl, stepW_idxs, stepK_iaddr_isl, stepK_iaddr_msl, stepK_idxs, ne_eq, ↓reduceIte]; exact h0
            · simp only [go_sem, stepW_iaddr_isl, stepW_iaddr_msl, stepW_idxs, stepK_iaddr_isl, stepK_iaddr_msl, stepK_idxs, ne_eq, ↓reduceIte]; exact h1
      · have hq' := of_decide_eq_false hq
        simp only [go_sem, stepW_iaddr_isl, stepW_iaddr_msl, stepW_idxs, stepK_iaddr_isl, stepK_iaddr_msl, stepK_idxs, ne_eq, ↓reduceIte]
        refine W_retR c51_ok rfl ⟨?_, rfl⟩
        rw [List.take_of_length_le (by omega)] at hall
        simp only [look, ↓reduceIte, clauseB, h12, hall, Bool.and_self]
/-- Of formulas that are right: the other answers are not asked here. -/
theorem cnfOK_ok {cls : List (List Int)} {vars : Int} (hb : cnfB vars cls = true) : Ret Try.prog Γ 32 [cnfV vars cls] σ (.bool true) σ := by
  obtain ⟨hc, hv0, hv40, hcl⟩ := clsOK_of hb
  refine ret_of c32_ok rfl ?_
  simp only [c32, cnfV, go_sem, stepW_iaddr_isl, stepW_iaddr_msl, stepW_idxs, stepK_iaddr_isl, stepK_iaddr_msl, stepK_idxs, ne_eq, ↓reduceIte]
  refine SRun.boxR (by simp [ev, look, V.cells, V.one]) ?_
  intro b1 hb1
  simp only [go_sem, stepW_iaddr_isl, stepW_iaddr_msl, stepW_idxs, stepK_iaddr_isl, stepK_iaddr_msl, stepK_idxs, ne_eq, ↓reduceIte]
  refine SRun.callR (l01In_ok _ _ _) ⟨[], rfl, rfl⟩ rfl ?_
  have e1 : (decide ((0 : Int) ≤ vars) && decide (vars ≤ 40)) = true := by simp [hv0, hv40]
  have e2 : decide ((cls.length : Int) > 300) = false := decide_eq_false (by omega)
  simp only [e1, e2, clsV_len, go_sem, stepW_iaddr_isl, stepW_iaddr_msl, stepW_idxs, stepK_iaddr_isl, stepK_iaddr_msl, stepK_idxs, ne_eq, ↓reduceIte]
  refine W_loopR (fun m T σ' => ∃ i : Nat, i + m = cls.length ∧ look T 1 = .ptr b1 0 ∧ look T 3 = .int .i64 i ∧ σ' = upd σ b1 [.int .i64 vars, .isl false 1 (clsV cls)]) cls.length ?_ ?_
  · exact ⟨0, by omega, rfl, rfl, rfl⟩
  · rintro m T σ' ih ⟨i, hm, h1, h3, rfl⟩
    simp only [h1, h3, clsV_len, go_sem, stepW_iaddr_isl, stepW_iaddr_msl, stepW_idxs, stepK_iaddr_isl, stepK_iaddr_msl, stepK_idxs, ne_eq, ↓reduceIte]
    refine iteW_of (fun hq => ?_) (fun hq => ?_)
    · have hq' := of_decide_eq_true hq
      have hlt : i < cls.length := by omega
      have hget : (clsV cls)[i]? = some (.isl false 1 (ints cls[i])) := by simp [clsV, intsV, hlt]
      have hmem := List.getElem_mem hlt
      have hcB : clauseB vars cls[i] = true := by
        simp only [cnfB, Bool.and_eq_true, List.all_eq_true] at hb
        exact hb.2 _ hmem
      have hsm := hc.1.2 _ hmem
      generalize cls[i] = c at hget hcB hsm
      have w1 := wrap64 (a := (i : Int) + 1) (by omega) (by omega)
      have c3 : (0 : Int) ≤ (i : Int) := by omega
      simp only [go_sem, stepW_iaddr_isl, stepW_iaddr_msl, stepW_idxs, stepK_iaddr_isl, stepK_iaddr_msl, stepK_idxs, ne_eq, ↓reduceIte]
      refine W_drawW ?_
      simp only [h1, h3, hget, c3, Int.toNat_natCast, go_sem, stepW_iaddr_isl, stepW_iaddr_msl, stepW_idxs, stepK_iaddr_isl, stepK_iaddr_msl, stepK_idxs, ne_eq, ↓reduceIte]
      refine DRun.callQ (l01Clause_ok hsm (by omega)) ⟨[], rfl, rfl⟩ ?_
      rintro r s ⟨rfl, rfl⟩
      simp only [hcB, go_sem, stepW_iaddr_isl, stepW_iaddr_msl, stepW_idxs, stepK_iaddr_isl, stepK_iaddr_msl, stepK_idxs, ne_eq, ↓reduceIte]
      simp only [h3, w1, go_sem, stepW_iaddr_isl, stepW_iaddr_msl, stepW_idxs, stepK_iaddr_isl, stepK_iaddr_msl, stepK_idxs, ne_eq, ↓reduceIte]
      refine ih (m - 1) _ _ (by omega) ⟨i + 1, by omega, ?_, rfl, rfl⟩
      simp only [go_sem, stepW_iaddr_isl, stepW_iaddr_msl, stepW_idxs, stepK_iaddr_isl, stepK_iaddr_msl, stepK_idxs, ne_eq, ↓reduceIte]; exact h1
    · simp only [go_sem, stepW_iaddr_isl, stepW_iaddr_msl, stepW_idxs, stepK_iaddr_isl, stepK_iaddr_msl, stepK_idxs, ne_eq, ↓reduceIte]
      exact W_retC c32_ok rfl (Conv.drop _ (le_upd hb1)) ⟨rfl, rfl⟩
def litV (bs : List Bool) (x : Int) : Bool := bs.getD (x.natAbs - 1) false == decide (x > 0)
def evalB (cls : List (List Int)) (bs : List Bool) : Bool := cls.all fun c => c.any (litV bs)
theorem bools_len (bs : List Bool) : (bools bs).length = bs.length := by simp [bools]
end
section
theorem litV_neg {bs : List Bool} {x : Int} (h : x ≠ 0) : litV bs (-x) = !litV bs x := by
  unfold litV
  rw [Int.natAbs_neg]
  by_cases hx : x > 0
  · rw [decide_eq_true hx, decide_eq_false (by omega)]
    cases bs.getD (x.natAbs - 1) false <;> rfl
  · rw [decide_eq_false hx, decide_eq_true (by omega)]
    cases bs.getD (x.natAbs - 1) false <;> rfl
/-- Values in which all that is known is so. -/
def agrees (vars : Int) (vals : List Int) (bs : List Bool) : Prop := ∀ x, litOK vars x → isT vals x = true → litV bs x = true
theorem litOK_neg {vars x : Int} (h : litOK vars x) : litOK vars (-x) := ⟨by have := h.1; omega, by have := h.2; omega⟩
theorem agrees_false {vars : Int} {vals : List Int} {bs : List Bool} (ha : agrees vars vals bs) {x : Int} (hx : litOK vars x) (h : isT vals (-x) = true) : litV bs x = false := by
  have := ha (-x) (litOK_neg hx) h
  rw [litV_neg hx.1] at this
  simpa using this
theorem isT_val {vals : List Int} {x : Int} (h : x ≠ 0) : isT vals x = (vals.getD x.natAbs 0 == if x < 0 then -1 else 1) := by
  unfold isT
  split
  · rw [show (-x).toNat = x.natAbs by omega]
  · rw [show x.toNat = x.natAbs by omega]
theorem isT_setT {vars : Int} {vals : List Int} {x y : Int} (hl : (vals.length : Int) = vars + 1) (hx : litOK vars x) (hy : litOK vars y) : isT (setT vals y) x = if x = y then true else if x = -y then false else isT vals x := by
  have hylt : y.natAbs < vals.length := by have := hy.2; omega
  rw [isT_val hx.1, isT_val hx.1, setT_eq]
  by_cases h : y.natAbs = x.natAbs
  · have hg : (vals.set y.natAbs (if y < 0 then -1 else 1)).getD x.natAbs 0 = if y < 0 then -1 else 1 := by
      rw [← h]; simp [List.getD, hylt]
    rw [hg]
    by_cases hxy : x = y
    · subst hxy; simp
    · have hxn : x = -y := by omega
      rw [if_neg hxy, if_pos hxn]
      have := hy.1
      by_cases hyn : y < 0
      · rw [if_pos hyn, if_neg (by omega)]; rfl
      · rw [if_neg hyn, if_pos (by omega)]; rfl
  · have hg : (vals.set y.natAbs (if y < 0 then -1 else 1)).getD x.natAbs 0 = vals.getD x.natAbs 0 := by
      simp [List.getD, List.getElem?_set_ne h]
    have n1 : ¬ x = y := fun e => h (by rw [e])
    have n2 : ¬ x = -y := fun e => h (by rw [e, Int.natAbs_neg])
    rw [if_neg n1, if_neg n2, hg]
theorem isT_zero {vars x : Int} (hx : litOK vars x) : isT (zeroVals vars) x = false := by
  rw [isT_val hx.1]
  have : (zeroVals vars).getD x.natAbs 0 = 0 := by
    unfold zeroVals
    rw [List.getD_eq_getElem?_getD, List.getElem?_replicate]
    split <;> rfl
  rw [this]
  split <;> rfl
theorem unit_false {vals : List Int} : ∀ {c : List Int} {one : Int}, (∀ x ∈ c, x ≠ 0) → (unitGo vals c one).2 = true → one = 0 ∧ ∀ x ∈ c, isT vals (-x) = true := by
  intro c
  induction c with
  | nil => intro one _ h; simp [unitGo] at h; exact ⟨h, fun x hx => by cases hx⟩
  | cons x r ih =>
    intro one hne h
    simp only [unitGo] at h
    cases h1 : isT vals x with
    | true => rw [h1] at h; simp at h
    | false =>
      rw [h1] at h
      simp only [cond_false] at h
      cases h2 : (isT vals (-x) || x == one) with
      | true =>
        rw [h2] at h
        simp only [cond_true] at h
        obtain ⟨a, b⟩ := ih (fun y hy => hne y (by simp [hy])) h
        refine ⟨a, fun y hy => ?_⟩
        rcases List.mem_cons.1 hy with rfl | hy
        · have hx0 := hne y (by simp)
          rw [a] at h2
          simpa [hx0] using h2
        · exact b y hy
      | false =>
        rw [h2] at h
        simp only [cond_false] at h
        cases h3 : one != 0 with
        | true => rw [h3] at h; simp at h
        | false =>
          rw [h3] at h
          simp only [cond_false] at h
          have := (ih (fun y hy => hne y (by simp [hy])) h).1
          exact absurd this (hne x (by simp))
theorem unit_one {vals : List Int} : ∀ {c : List Int} {one : Int}, (∀ x ∈ c, x ≠ 0) → (unitGo vals c one).1 ≠ 0 → (one = 0 ∨ one = (unitGo vals c one).1) ∧ ∀ x ∈ c, isT vals (-x) = true ∨ x = (unitGo vals c one).1 := by
  intro c
  induction c with
  | nil => intro one _ h; exact ⟨.inr rfl, fun x hx => by cases hx⟩
  | cons x r ih =>
    intro one hne h
    have hx0 := hne x (by simp)
    have hne' : ∀ y ∈ r, y ≠ 0 := fun y hy => hne y (by simp [hy])
    simp only [unitGo] at h ⊢
    cases h1 : isT vals x with
    | true => rw [h1] at h; simp at h
    | false =>
      rw [h1] at h
      simp only [cond_false] at h ⊢
      cases h2 : (isT vals (-x) || x == one) with
      | true =>
        rw [h2] at h
        simp only [cond_true] at h ⊢
        obtain ⟨a, b⟩ := ih hne' h
        refine ⟨a, fun y hy => ?_⟩
        rcases List.mem_cons.1 hy with rfl | hy
        · rw [Bool.or_eq_true] at h2
          rcases h2 with h3 | h3
          · exact .inl h3
          · have h3 : y = one := by simpa using h3
            rcases a with a | a
            · exact absurd (h3.trans a) hx0
            · exact .inr (h3.trans a)
        · exact b y hy
      | false =>
        rw [h2] at h
        simp only [cond_false] at h ⊢
        cases h3 : one != 0 with
        | true => rw [h3] at h; simp at h
        | false =>
          rw [h3] at h
          simp only [cond_false] at h ⊢
          obtain ⟨a, b⟩ := ih hne' h
          refine ⟨.inl (by simpa using h3), fun y hy => ?_⟩
          rcases List.mem_cons.1 hy with rfl | hy
          · exact .inr (a.resolve_left hx0)
          · exact b y hy
/-- Of every variable it is known. -/
def total (vars : Int) (vals : List Int) : Prop := ∀ x, litOK vars x → isT vals x = true ∨ isT vals (-x) = true
theorem unit_total {vars : Int} {vals : List Int} (ht : total vars vals) : ∀ {c : List Int}, (∀ x ∈ c, litOK vars x) → (unitGo vals c 0).2 = false → ∃ x ∈ c, isT vals x = true := by
  intro c
  induction c with
  | nil => intro _ h; simp [unitGo] at h
  | cons x r ih =>
    intro hlit h
    have hx := hlit x (by simp)
    cases h1 : isT vals x with
    | true => exact ⟨x, by simp, h1⟩
    | false =>
      have h2 : isT vals (-x) = true := (ht x hx).resolve_left (by simp [h1])
      simp only [unitGo, h1, h2, cond_false, Bool.true_or, cond_true] at h
      obtain ⟨y, hy, hyt⟩ := ih (fun y hy => hlit y (by simp [hy])) h
      exact ⟨y, by simp [hy], hyt⟩
theorem scan_some {vals : List Int} : ∀ {cls : List (List Int)} {i : Nat} {next : Int} {j : Nat}, (scanGo vals cls i next).1 = some j → ∃ c ∈ cls, (unitGo vals c 0).2 = true := by
  intro cls
  induction cls with
  | nil => intro i next j h; simp [scanGo] at h
  | cons c r ih =>
    intro i next j h
    simp only [scanGo] at h
    cases h1 : (unitGo vals c 0).2 with
    | true => exact ⟨c, by simp, h1⟩
    | false =>
      rw [h1] at h
      obtain ⟨c2, hc2, h2⟩ := ih h
      exact ⟨c2, by simp [hc2], h2⟩
theorem scan_none {vals : List Int} : ∀ {cls : List (List Int)} {i : Nat} {next : Int}, (scanGo vals cls i next).1 = none → (∀ c ∈ cls, (unitGo vals c 0).2 = false) ∧ ((scanGo vals cls i next).2 = next ∨ ∃ c ∈ cls, (unitGo vals c 0).1 = (scanGo vals cls i next).2) := by
  intro cls
  induction cls with
  | nil => intro i next _; exact ⟨fun c hc => (by cases hc), .inl rfl⟩
  | cons c r ih =>
    intro i next h
    simp only [scanGo] at h ⊢
    cases h1 : (unitGo vals c 0).2 with
    | true => rw [h1] at h; simp at h
    | false =>
      rw [h1] at h
      simp only [cond_false] at h ⊢
      obtain ⟨a, b⟩ := ih h
      refine ⟨fun c2 hc2 => ?_, ?_⟩
      · rcases List.mem_cons.1 hc2 with rfl | hc2
        · exact h1
        · exact a c2 hc2
      · rcases b with b | ⟨c2, hc2, b⟩
        · cases hn : next == 0 with
          | true => rw [hn] at b; exact .inr ⟨c, by simp, b.symm⟩
          | false => rw [hn] at b; exact .inl b
        · exact .inr ⟨c2, by simp [hc2], b⟩
theorem eval_mem {cls : List (List Int)} {bs : List Bool} (h : evalB cls bs = true) {c : List Int} (hc : c ∈ cls) : ∃ x ∈ c, litV bs x = true := by
  simp only [evalB, List.all_eq_true, List.any_eq_true] at h
  exact h c hc
/-- What follows is so. -/
theorem propGo_spec {vars : Int} {cls : List (List Int)} (hc : ClsOK vars cls) : ∀ (f : Nat) (vals list : List Int), zeros vals < f → (vals.length : Int) = vars + 1 → tri vals →
    (∀ x, litOK vars x → isT vals x = true → isT (propGo cls f vals list).2.2 x = true) ∧
    (∀ bs, agrees vars vals bs → evalB cls bs = true → (propGo cls f vals list).2.1 < 0 ∧ agrees vars (propGo cls f vals list).2.2 bs) ∧
    ((propGo cls f vals list).2.1 < 0 → ∀ c ∈ cls, (unitGo (propGo cls f vals list).2.2 c 0).2 = false) := by
  intro f
  induction f with
  | zero => intro vals list h; omega
  | succ f ih =>
    intro vals list hz hl ht
    have hfr := scanGo_free (vals := vals) (cls := cls) (i := 0) (next := 0) (.inl rfl)
    have hs1 := fun j => scan_some (vals := vals) (cls := cls) (i := 0) (next := 0) (j := j)
    have hs2 := scan_none (vals := vals) (cls := cls) (i := 0) (next := 0)
    simp only [propGo]
    generalize scanGo vals cls 0 0 = q at hfr hs1 hs2
    obtain ⟨o, next⟩ := q
    cases o with
    | some i =>
      refine ⟨fun x _ h => h, fun bs ha he => ?_, fun h => by simp only at h; omega⟩
      exfalso
      obtain ⟨c, hcm, hu⟩ := hs1 i rfl
      obtain ⟨x, hx, hxt⟩ := eval_mem he hcm
      have hlit := hc.2 c hcm x hx
      have := agrees_false ha hlit ((unit_false (fun y hy => (hc.2 c hcm y hy).1) hu).2 x hx)
      rw [this] at hxt; cases hxt
    | none =>
      simp only
      obtain ⟨hall, hnx⟩ := hs2 rfl
      cases hd : next == 0 with
      | true => exact ⟨fun x _ h => h, fun bs ha he => ⟨by simp only [cond_true]; omega, ha⟩, fun _ => hall⟩
      | false =>
        simp only [cond_false]
        have hne : next ≠ 0 := by simpa using hd
        obtain ⟨hf, hin⟩ := hfr.resolve_left hne
        obtain ⟨c0, hcm0, hnm⟩ := hin.resolve_right hne
        have hlo := hc.2 c0 hcm0 next hnm
        have hzs := zeros_set hl ht hlo hf
        obtain ⟨i1, i2, i3⟩ := ih (setT vals next) (list ++ [next]) (by omega) (by rw [setT_length]; exact hl) (tri_set ht _)
        refine ⟨fun x hx h => i1 x hx ?_, fun bs ha he => i2 bs ?_ he, i3⟩
        · rw [isT_setT hl hx hlo]
          split
          · rfl
          · rename_i hxy
            split
            · rename_i hxn; subst hxn; rw [hf.2] at h; exact h
            · exact h
        · have hnt : litV bs next = true := by
            obtain ⟨c, hcm, hu⟩ := hnx.resolve_left hne
            simp only at hu
            obtain ⟨x, hx, hxt⟩ := eval_mem he hcm
            rcases (unit_one (fun y hy => (hc.2 c hcm y hy).1) (by rw [hu]; exact hne)).2 x hx with h | h
            · rw [agrees_false ha (hc.2 c hcm x hx) h] at hxt; cases hxt
            · rw [← hu, ← h]; exact hxt
          intro x hx hxt
          rw [isT_setT hl hx hlo] at hxt
          split at hxt
          · rename_i e; rw [e]; exact hnt
          · split at hxt
            · cases hxt
            · exact ha x hx hxt
theorem findZ_total {vars : Int} {vals : List Int} (hl : (vals.length : Int) = vars + 1) (ht : tri vals) (h : findZ (vals.drop 1) 0 + 1 = 0) : total vars vals := by
  intro x hx
  have hn : (vals.drop 1).findIdx? (· == 0) = none := by
    unfold findZ at h
    cases hf : (vals.drop 1).findIdx? (· == 0) with
    | none => rfl
    | some i => rw [hf] at h; simp only at h; omega
  rw [List.findIdx?_eq_none_iff] at hn
  have hlt : x.natAbs < vals.length := by have := hx.2; omega
  have h0 : x.natAbs ≠ 0 := by have := hx.1; omega
  have hg : vals[x.natAbs]? = some vals[x.natAbs] := by simp [hlt]
  have hm : vals[x.natAbs] ∈ vals.drop 1 := by
    have : (vals.drop 1)[x.natAbs - 1]? = some vals[x.natAbs] := by rw [List.getElem?_drop, show 1 + (x.natAbs - 1) = x.natAbs by omega]; exact hg
    exact List.mem_of_getElem? this
  have hne := hn _ hm
  have htr := ht _ (List.getElem_mem hlt)
  have e : vals.getD x.natAbs 0 = vals[x.natAbs] := by simp [List.getD, hlt]
  rw [isT_val hx.1, isT_val (litOK_neg hx).1, Int.natAbs_neg, e]
  have hx0 := hx.1
  rcases htr with h | h | h
  · by_cases hneg : x < 0
    · left; rw [if_pos hneg, h]; rfl
    · right; rw [if_pos (by omega), h]; rfl
  · rw [h] at hne; simp at hne
  · by_cases hneg : x < 0
    · right; rw [if_neg (by omega), h]; rfl
    · left; rw [if_neg hneg, h]; rfl
theorem litV_valsB {vars : Int} {vals : List Int} (hl : (vals.length : Int) = vars + 1) (ht : total vars vals) {x : Int} (hx : litOK vars x) : litV (valsB vals) x = isT vals x := by
  have hx0 := hx.1
  have hlt : x.natAbs < vals.length := by have := hx.2; omega
  have hb : (valsB vals).getD (x.natAbs - 1) false = (vals.getD x.natAbs 0 == 1) := by
    have : x.natAbs - 1 + 1 = x.natAbs := by omega
    simp [valsB, List.getD, this, hlt]
  unfold litV
  rw [hb, isT_val hx0]
  have h2 := ht x hx
  rw [isT_val hx0, isT_val (litOK_neg hx).1, Int.natAbs_neg] at h2
  generalize vals.getD x.natAbs 0 = v at h2 ⊢
  by_cases hneg : x < 0
  · rw [if_pos hneg] at h2 ⊢
    rw [if_neg (by omega)] at h2
    rw [decide_eq_false (by omega : ¬ x > 0)]
    rcases h2 with h2 | h2
    · have : v = -1 := by simpa using h2
      subst this; rfl
    · have : v = 1 := by simpa using h2
      subst this; rfl
  · rw [if_neg hneg] at h2 ⊢
    rw [decide_eq_true (by omega : x > 0)]
    cases v == 1 <;> rfl
/-- By cases: a model is found just when there is one. -/
theorem solveP_spec {vars : Int} {cls : List (List Int)} (hv : 0 ≤ vars) (hc : ClsOK vars cls) : ∀ (f : Nat) (vals : List Int), zeros vals < f → (vals.length : Int) = vars + 1 → tri vals →
    (solveP cls f vals = none → ∀ bs, agrees vars vals bs → evalB cls bs = false) ∧ (∀ v, solveP cls f vals = some v → agrees vars vals (valsB v) ∧ evalB cls (valsB v) = true) := by
  intro f
  induction f with
  | zero => intro vals h; omega
  | succ f ih =>
    intro vals hz hl ht
    obtain ⟨k1, k2, k3⟩ := propGo_keeps hc (zeros vals + 1) vals [] hl ht
    obtain ⟨s1, s2, s3⟩ := propGo_spec hc (zeros vals + 1) vals [] (Nat.lt_succ_self _) hl ht
    simp only [solveP]
    generalize propGo cls (zeros vals + 1) vals [] = R at k1 k2 k3 s1 s2 s3
    have hl2 : (R.2.2.length : Int) = vars + 1 := by rw [k1]; exact hl
    cases hq : decide (R.2.1 ≥ 0) with
    | true =>
      have hq' := of_decide_eq_true hq
      simp only [cond_true]
      refine ⟨fun _ bs ha => ?_, fun v h => by cases h⟩
      cases he : evalB cls bs with
      | false => rfl
      | true => have := (s2 bs ha he).1; omega
    | false =>
      have hq' := of_decide_eq_false hq
      have hneg : R.2.1 < 0 := by omega
      have hfz := findZ_get hl2
      simp only [cond_false]
      cases hd : findZ (R.2.2.drop 1) 0 + 1 == 0 with
      | true =>
        have hz0 : findZ (R.2.2.drop 1) 0 + 1 = 0 := by simpa using hd
        have htot := findZ_total hl2 k2 hz0
        simp only [cond_true]
        refine ⟨fun h => (by cases h), fun v h => ?_⟩
        obtain rfl := Option.some.inj h
        refine ⟨fun x hx hxt => by rw [litV_valsB hl2 htot hx]; exact s1 x hx hxt, ?_⟩
        simp only [evalB, List.all_eq_true, List.any_eq_true]
        intro c hcm
        obtain ⟨x, hx, hxt⟩ := unit_total htot (hc.2 c hcm) (s3 hneg c hcm)
        exact ⟨x, hx, by rw [litV_valsB hl2 htot (hc.2 c hcm x hx)]; exact hxt⟩
      | false =>
        have hne : findZ (R.2.2.drop 1) 0 + 1 ≠ 0 := by simpa using hd
        obtain ⟨hlit, hg, hf1, hf2⟩ := hfz hne
        generalize findZ (R.2.2.drop 1) 0 + 1 = z at hlit hg hf1 hf2
        simp only [cond_false]
        have hlitn := litOK_neg hlit
        have hz1 := zeros_set hl2 k2 hlitn hf2
        have hz2 := zeros_set hl2 k2 hlit hf1
        obtain ⟨a1, a2⟩ := ih (setT R.2.2 (-z)) (by omega) (by rw [setT_length]; exact hl2) (tri_set k2 _)
        obtain ⟨b1, b2⟩ := ih (setT R.2.2 z) (by omega) (by rw [setT_length]; exact hl2) (tri_set k2 _)
        -- what is set is so, or its opposite
        have step : ∀ (y : Int), litOK vars y → ∀ bs, agrees vars R.2.2 bs → litV bs y = true → agrees vars (setT R.2.2 y) bs := by
          intro y hy bs ha hyt x hx hxt
          rw [isT_setT hl2 hx hy] at hxt
          split at hxt
          · rename_i e; rw [e]; exact hyt
          · split at hxt
            · cases hxt
            · exact ha x hx hxt
        have back : ∀ (y : Int), litOK vars y → free R.2.2 y → ∀ bs, agrees vars (setT R.2.2 y) bs → agrees vars vals bs := by
          intro y hy hfy bs ha x hx hxt
          refine ha x hx ?_
          rw [isT_setT hl2 hx hy]
          have h3 := s1 x hx hxt
          split
          · rfl
          · split
            · rename_i e; subst e; rw [hfy.2] at h3; cases h3
            · exact h3
        cases hs : solveP cls f (setT R.2.2 (-z)) with
        | some r =>
          simp only
          refine ⟨fun h => (by cases h), fun v h => ?_⟩
          obtain rfl := Option.some.inj h
          obtain ⟨c1, c2⟩ := a2 r hs
          exact ⟨back _ hlitn hf2 _ c1, c2⟩
        | none =>
          simp only
          refine ⟨fun h bs ha => ?_, fun v h => ?_⟩
          · cases he : evalB cls bs with
            | false => rfl
            | true =>
              have hag := (s2 bs ha he).2
              cases hzt : litV bs z with
              | true =>
                have := b1 h bs (step z hlit bs hag hzt)
                rw [this] at he; cases he
              | false =>
                have hzn : litV bs (-z) = true := by rw [litV_neg hlit.1, hzt]; rfl
                have := a1 hs bs (step (-z) hlitn bs hag hzn)
                rw [this] at he; cases he
          · obtain ⟨c1, c2⟩ := b2 v h
            exact ⟨back _ hlit hf1 _ c1, c2⟩
theorem modelP_spec {vars : Int} {cls : List (List Int)} (hv : 0 ≤ vars) (hc : ClsOK vars cls) : (modelP vars cls = none → ∀ bs, evalB cls bs = false) ∧ (∀ v, modelP vars cls = some v → evalB cls (valsB v) = true ∧ ((valsB v).length : Int) = vars) := by
  have hz0 : zeros (zeroVals vars) < vars.toNat + 2 := by
    have : zeros (zeroVals vars) ≤ ((zeroVals vars).drop 1).length := List.count_le_length
    simp only [zeroVals, List.length_drop, List.length_replicate] at this ⊢
    omega
  have hl0 : ((zeroVals vars).length : Int) = vars + 1 := by simp only [zeroVals, List.length_replicate]; omega
  have ht0 : tri (zeroVals vars) := fun x hx => by have := List.eq_of_mem_replicate hx; omega
  obtain ⟨h1, h2⟩ := solveP_spec hv hc _ _ hz0 hl0 ht0
  refine ⟨fun h bs => h1 h bs fun x hx hxt => (by rw [isT_zero hx] at hxt; cases hxt), fun v h => ⟨(h2 v h).2, ?_⟩⟩
  have := (solveP_len hc _ _ _ hl0 ht0 h).1
  simp only [valsB, List.length_map, List.length_drop]
  omega
end
end Go.Proofs.Ytdenfjbhkdhlkaa.Lg
