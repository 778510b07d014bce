/- The program's functions, one by one: formulas and what is known of variables. -/
import Derived.Test.YtlojopaebdnacaaDa
import Derived.Test.YtlojopaebdnacaaLgR
set_option linter.unusedSimpArgs false
set_option linter.unusedVariables false
namespace Go.Proofs.Ytlojopaebdnacaa.Lg
open Go
attribute [local irreducible] SRun DS DRun
variable {Γ : St} {σ : St}
theorem within_ok (a b c : Int) : Ret Try.prog Γ 69 [.int .i64 a, .int .i64 b, .int .i64 c] σ (.bool (decide (b ≤ a) && decide (a ≤ c))) σ := by
  refine ret_of c69_ok rfl ?_
  simp only [c69, go_sem, stepW_iaddr_isl, stepW_iaddr_msl, stepW_idxs, stepK_iaddr_isl, stepK_iaddr_msl, stepK_idxs, ne_eq, ↓reduceIte]
  refine guardW_of (fun h => ?_) (fun h => ?_)
  · have h' := of_decide_eq_true h
    simp only [h, go_sem, stepW_iaddr_isl, stepW_iaddr_msl, stepW_idxs, stepK_iaddr_isl, stepK_iaddr_msl, stepK_idxs, ne_eq, ↓reduceIte]
    exact W_retR c69_ok rfl ⟨rfl, rfl⟩
  · have h' := of_decide_eq_false h
    simp only [h, go_sem, stepW_iaddr_isl, stepW_iaddr_msl, stepW_idxs, stepK_iaddr_isl, stepK_iaddr_msl, stepK_idxs, ne_eq, ↓reduceIte]
    exact W_retR c69_ok rfl ⟨rfl, rfl⟩
def litB (vars x : Int) : Bool := x != 0 && (decide (-vars ≤ x) && decide (x ≤ vars))
theorem isLiteral_ok (x vars : Int) (hv : 0 ≤ vars ∧ vars ≤ 1000000) : Ret Try.prog Γ 54 [.int .i64 x, .int .i64 vars] σ (.bool (litB vars x)) σ := by
  refine ret_of c54_ok rfl ?_
  have w1 := wrap64 (a := 0 - vars) (by omega) (by omega)
  simp only [c54, w1, go_sem, stepW_iaddr_isl, stepW_iaddr_msl, stepW_idxs, stepK_iaddr_isl, stepK_iaddr_msl, stepK_idxs, ne_eq, ↓reduceIte]
  refine guardW_of (fun h => ?_) (fun h => ?_)
  · simp only [h, w1, go_sem, stepW_iaddr_isl, stepW_iaddr_msl, stepW_idxs, stepK_iaddr_isl, stepK_iaddr_msl, stepK_idxs, ne_eq, ↓reduceIte]
    refine SRun.callR (within_ok _ _ _) ⟨[], rfl, rfl⟩ rfl ?_
    simp only [h, go_sem, stepW_iaddr_isl, stepW_iaddr_msl, stepW_idxs, stepK_iaddr_isl, stepK_iaddr_msl, stepK_idxs, ne_eq, ↓reduceIte]
    refine W_retR c54_ok rfl ⟨?_, rfl⟩
    simp [litB, h, look]
  · simp only [h, go_sem, stepW_iaddr_isl, stepW_iaddr_msl, stepW_idxs, stepK_iaddr_isl, stepK_iaddr_msl, stepK_idxs, ne_eq, ↓reduceIte]
    refine W_retR c54_ok rfl ⟨?_, rfl⟩
    simp [litB, h, look]
/-- The first of which it is true. -/
theorem indexFuncI_ok {ex : Bool} {xs : List V} {F : FuncId} {caps : List V} {p : V → Bool} (h1 : ∀ x ∈ xs, x.cells = [x]) (hl : xs.length ≤ 140737488355328) (hp : ∀ x ∈ xs, Ret Try.prog Γ F (x :: caps) σ (.bool (p x)) σ) :
    Ret Try.prog Γ 126 [.isl ex 1 xs, .fn F caps] σ (.int .i64 (match xs.findIdx? p with | some i => (i : Int) | none => -1)) σ := by
  refine ret_of c126_ok rfl ?_
  simp only [c126, go_sem, stepW_iaddr_isl, stepW_iaddr_msl, stepW_idxs, stepK_iaddr_isl, stepK_iaddr_msl, stepK_idxs, ne_eq, ↓reduceIte]
  refine W_loopR (fun m T σ' => ∃ i : Nat, i + m = xs.length ∧ look T 0 = .isl ex 1 xs ∧ look T 1 = .fn F caps ∧ look T 7 = .int .i64 xs.length ∧ look T 8 = .int .i64 i ∧ σ' = σ ∧ (∀ j x, j < i → xs[j]? = some x → p x = false)) xs.length ?_ ?_
  · exact ⟨0, by omega, rfl, rfl, rfl, rfl, rfl, fun j x hj => by omega⟩
  · rintro m T σ' ih ⟨i, hm, h0, h1', h7, h8, rfl, hno⟩
    simp only [h0, h1', h7, h8, go_sem, stepW_iaddr_isl, stepW_iaddr_msl, stepW_idxs, stepK_iaddr_isl, stepK_iaddr_msl, stepK_idxs, ne_eq, ↓reduceIte]
    refine iteW_of (fun h => ?_) (fun h => ?_)
    · have h' := of_decide_eq_true h
      have hlt : i < xs.length := by omega
      have hget : xs[i]? = some xs[i] := by simp [hlt]
      have hmem : xs[i] ∈ xs := List.getElem_mem hlt
      have hcell := h1 _ hmem
      have w1 := wrap64 (a := (i : Int) + 1) (by omega) (by omega)
      have h00 : (0 : Int) ≤ (i : Int) := by omega
      simp only [h0, h1', h7, h8, Int.toNat_natCast, hget, h00, hcell, go_sem, stepW_iaddr_isl, stepW_iaddr_msl, stepW_idxs, stepK_iaddr_isl, stepK_iaddr_msl, stepK_idxs, ne_eq, ↓reduceIte]
      refine SRun.callR (hp _ hmem) ⟨caps, rfl, rfl⟩ rfl ?_
      simp only [go_sem, stepW_iaddr_isl, stepW_iaddr_msl, stepW_idxs, stepK_iaddr_isl, stepK_iaddr_msl, stepK_idxs, ne_eq, ↓reduceIte]
      refine iteW_of (fun hb => ?_) (fun hb => ?_)
      · simp only [go_sem, stepW_iaddr_isl, stepW_iaddr_msl, stepW_idxs, stepK_iaddr_isl, stepK_iaddr_msl, stepK_idxs, ne_eq, ↓reduceIte]
        refine W_retR c126_ok rfl ⟨?_, rfl⟩
        have : xs.findIdx? p = some i := by
          rw [List.findIdx?_eq_some_iff_getElem]
          exact ⟨hlt, hb, fun j hj => by simpa using hno j xs[j] hj (by simp)⟩
        rw [this]; rfl
      · simp only [h8, w1, go_sem, stepW_iaddr_isl, stepW_iaddr_msl, stepW_idxs, stepK_iaddr_isl, stepK_iaddr_msl, stepK_idxs, ne_eq, ↓reduceIte]
        refine ih (m - 1) _ _ (by omega) ⟨i + 1, by omega, ?_, ?_, ?_, rfl, rfl, fun j x hj hx => ?_⟩
        · simp only [go_sem, stepW_iaddr_isl, stepW_iaddr_msl, stepW_idxs, stepK_iaddr_isl, stepK_iaddr_msl, stepK_idxs, ne_eq, ↓reduceIte]; exact h0
        · simp only [go_sem, stepW_iaddr_isl, stepW_iaddr_msl, stepW_idxs, stepK_iaddr_isl, stepK_iaddr_msl, stepK_idxs, ne_eq, ↓reduceIte]; exact h1'
        · simp only [go_sem, stepW_iaddr_isl, stepW_iaddr_msl, stepW_idxs, stepK_iaddr_isl, stepK_iaddr_msl, stepK_idxs, ne_eq, ↓reduceIte]; exact h7
        · by_cases hji : j = i
          · subst hji; rw [hget] at hx; obtain rfl := Option.some.inj hx; exact hb
          · exact hno j x (by omega) hx
    · have h' := of_decide_eq_false h
      simp only [go_sem, stepW_iaddr_isl, stepW_iaddr_msl, stepW_idxs, stepK_iaddr_isl, stepK_iaddr_msl, stepK_idxs, ne_eq, ↓reduceIte]
      refine W_retR c126_ok rfl ⟨?_, rfl⟩
      have : xs.findIdx? p = none := by
        rw [List.findIdx?_eq_none_iff]
        intro x hx
        obtain ⟨j, hj, rfl⟩ := List.getElem_of_mem hx
        exact hno j _ (by omega) (by simp)
      rw [this]; rfl
/-- The first of which it is true. -/
theorem indexFuncL_ok {ex : Bool} {xs : List V} {F : FuncId} {caps : List V} {p : V → Bool} (h1 : ∀ x ∈ xs, x.cells = [x]) (hl : xs.length ≤ 140737488355328) (hp : ∀ x ∈ xs, Ret Try.prog Γ F (x :: caps) σ (.bool (p x)) σ) :
    Ret Try.prog Γ 125 [.isl ex 1 xs, .fn F caps] σ (.int .i64 (match xs.findIdx? p with | some i => (i : Int) | none => -1)) σ := by
  refine ret_of c125_ok rfl ?_
  simp only [c125, go_sem, stepW_iaddr_isl, stepW_iaddr_msl, stepW_idxs, stepK_iaddr_isl, stepK_iaddr_msl, stepK_idxs, ne_eq, ↓reduceIte]
  refine W_loopR (fun m T σ' => ∃ i : Nat, i + m = xs.length ∧ look T 0 = .isl ex 1 xs ∧ look T 1 = .fn F caps ∧ look T 7 = .int .i64 xs.length ∧ look T 8 = .int .i64 i ∧ σ' = σ ∧ (∀ j x, j < i → xs[j]? = some x → p x = false)) xs.length ?_ ?_
  · exact ⟨0, by omega, rfl, rfl, rfl, rfl, rfl, fun j x hj => by omega⟩
  · rintro m T σ' ih ⟨i, hm, h0, h1', h7, h8, rfl, hno⟩
    simp only [h0, h1', h7, h8, go_sem, stepW_iaddr_isl, stepW_iaddr_msl, stepW_idxs, stepK_iaddr_isl, stepK_iaddr_msl, stepK_idxs, ne_eq, ↓reduceIte]
    refine iteW_of (fun h => ?_) (fun h => ?_)
    · have h' := of_decide_eq_true h
      have hlt : i < xs.length := by omega
      have hget : xs[i]? = some xs[i] := by simp [hlt]
      have hmem : xs[i] ∈ xs := List.getElem_mem hlt
      have hcell := h1 _ hmem
      have w1 := wrap64 (a := (i : Int) + 1) (by omega) (by omega)
      have h00 : (0 : Int) ≤ (i : Int) := by omega
      simp only [h0, h1', h7, h8, Int.toNat_natCast, hget, h00, hcell, go_sem, stepW_iaddr_isl, stepW_iaddr_msl, stepW_idxs, stepK_iaddr_isl, stepK_iaddr_msl, stepK_idxs, ne_eq, ↓reduceIte]
      refine SRun.callR (hp _ hmem) ⟨caps, rfl, rfl⟩ rfl ?_
      simp only [go_sem, stepW_iaddr_isl, stepW_iaddr_msl, stepW_idxs, stepK_iaddr_isl, stepK_iaddr_msl, stepK_idxs, ne_eq, ↓reduceIte]
      refine iteW_of (fun hb => ?_) (fun hb => ?_)
      · simp only [go_sem, stepW_iaddr_isl, stepW_iaddr_msl, stepW_idxs, stepK_iaddr_isl, stepK_iaddr_msl, stepK_idxs, ne_eq, ↓reduceIte]
        refine W_retR c125_ok rfl ⟨?_, rfl⟩
        have : xs.findIdx? p = some i := by
          rw [List.findIdx?_eq_some_iff_getElem]
          exact ⟨hlt, hb, fun j hj => by simpa using hno j xs[j] hj (by simp)⟩
        rw [this]; rfl
      · simp only [h8, w1, go_sem, stepW_iaddr_isl, stepW_iaddr_msl, stepW_idxs, stepK_iaddr_isl, stepK_iaddr_msl, stepK_idxs, ne_eq, ↓reduceIte]
        refine ih (m - 1) _ _ (by omega) ⟨i + 1, by omega, ?_, ?_, ?_, rfl, rfl, fun j x hj hx => ?_⟩
        · simp only [go_sem, stepW_iaddr_isl, stepW_iaddr_msl, stepW_idxs, stepK_iaddr_isl, stepK_iaddr_msl, stepK_idxs, ne_eq, ↓reduceIte]; exact h0
        · simp only [go_sem, stepW_iaddr_isl, stepW_iaddr_msl, stepW_idxs, stepK_iaddr_isl, stepK_iaddr_msl, stepK_idxs, ne_eq, ↓reduceIte]; exact h1'
        · simp only [go_sem, stepW_iaddr_isl, stepW_iaddr_msl, stepW_idxs, stepK_iaddr_isl, stepK_iaddr_msl, stepK_idxs, ne_eq, ↓reduceIte]; exact h7
        · by_cases hji : j = i
          · subst hji; rw [hget] at hx; obtain rfl := Option.some.inj hx; exact hb
          · exact hno j x (by omega) hx
    · have h' := of_decide_eq_false h
      simp only [go_sem, stepW_iaddr_isl, stepW_iaddr_msl, stepW_idxs, stepK_iaddr_isl, stepK_iaddr_msl, stepK_idxs, ne_eq, ↓reduceIte]
      refine W_retR c125_ok rfl ⟨?_, rfl⟩
      have : xs.findIdx? p = none := by
        rw [List.findIdx?_eq_none_iff]
        intro x hx
        obtain ⟨j, hj, rfl⟩ := List.getElem_of_mem hx
        exact hno j _ (by omega) (by simp)
      rw [this]; rfl
theorem any_find {α : Type} (xs : List α) (p : α → Bool) : decide ((match xs.findIdx? p with | some i => (i : Int) | none => -1) ≥ 0) = xs.any p := by
  cases h : xs.findIdx? p with
  | some i =>
    rw [List.findIdx?_eq_some_iff_getElem] at h
    obtain ⟨hi, hp, _⟩ := h
    have : xs.any p = true := List.any_eq_true.2 ⟨_, List.getElem_mem hi, hp⟩
    rw [this]; exact decide_eq_true (by simp only; omega)
  | none =>
    rw [List.findIdx?_eq_none_iff] at h
    have : xs.any p = false := by rw [List.any_eq_false]; intro x hx; simp [h x hx]
    rw [this]; rfl
theorem containsFuncI_ok {ex : Bool} {xs : List V} {F : FuncId} {caps : List V} {p : V → Bool} (h1 : ∀ x ∈ xs, x.cells = [x]) (hl : xs.length ≤ 140737488355328) (hp : ∀ x ∈ xs, Ret Try.prog Γ F (x :: caps) σ (.bool (p x)) σ) :
    Ret Try.prog Γ 96 [.isl ex 1 xs, .fn F caps] σ (.bool (xs.any p)) σ := by
  refine ret_of c96_ok rfl ?_
  simp only [c96, go_sem, stepW_iaddr_isl, stepW_iaddr_msl, stepW_idxs, stepK_iaddr_isl, stepK_iaddr_msl, stepK_idxs, ne_eq, ↓reduceIte]
  refine SRun.callR (indexFuncI_ok h1 hl hp) ⟨[], rfl, rfl⟩ rfl ?_
  simp only [go_sem, stepW_iaddr_isl, stepW_iaddr_msl, stepW_idxs, stepK_iaddr_isl, stepK_iaddr_msl, stepK_idxs, ne_eq, ↓reduceIte]
  refine W_retR c96_ok rfl ⟨?_, rfl⟩
  simp only [look, ↓reduceIte, any_find]
theorem containsFuncL_ok {ex : Bool} {xs : List V} {F : FuncId} {caps : List V} {p : V → Bool} (h1 : ∀ x ∈ xs, x.cells = [x]) (hl : xs.length ≤ 140737488355328) (hp : ∀ x ∈ xs, Ret Try.prog Γ F (x :: caps) σ (.bool (p x)) σ) :
    Ret Try.prog Γ 94 [.isl ex 1 xs, .fn F caps] σ (.bool (xs.any p)) σ := by
  refine ret_of c94_ok rfl ?_
  simp only [c94, go_sem, stepW_iaddr_isl, stepW_iaddr_msl, stepW_idxs, stepK_iaddr_isl, stepK_iaddr_msl, stepK_idxs, ne_eq, ↓reduceIte]
  refine SRun.callR (indexFuncL_ok h1 hl hp) ⟨[], rfl, rfl⟩ rfl ?_
  simp only [go_sem, stepW_iaddr_isl, stepW_iaddr_msl, stepW_idxs, stepK_iaddr_isl, stepK_iaddr_msl, stepK_idxs, ne_eq, ↓reduceIte]
  refine W_retR c94_ok rfl ⟨?_, rfl⟩
  simp only [look, ↓reduceIte, any_find]
theorem isClause1_ok {x vars : Int} {b : Nat} (hb : σ b = some [.int .i64 vars]) (hv : 0 ≤ vars ∧ vars ≤ 1000000) : Ret Try.prog Γ 97 [.int .i64 x, .ptr b 0] σ (.bool (!litB vars x)) σ := by
  refine ret_of c97_ok rfl ?_
  simp only [c97, hb, go_sem, stepW_iaddr_isl, stepW_iaddr_msl, stepW_idxs, stepK_iaddr_isl, stepK_iaddr_msl, stepK_idxs, ne_eq, ↓reduceIte]
  refine SRun.callR (isLiteral_ok x vars hv) ⟨[], rfl, rfl⟩ rfl ?_
  simp only [go_sem, stepW_iaddr_isl, stepW_iaddr_msl, stepW_idxs, stepK_iaddr_isl, stepK_iaddr_msl, stepK_idxs, ne_eq, ↓reduceIte]
  exact W_retR c97_ok rfl ⟨rfl, rfl⟩
def clauseB (vars : Int) (xs : List Int) : Bool := decide (xs.length ≤ 12) && xs.all (litB vars)
theorem cell_ints (xs : List Int) : ∀ x ∈ ints xs, x.cells = [x] := by
  intro c hc; simp only [ints, List.mem_map] at hc; obtain ⟨x, _, rfl⟩ := hc; rfl
theorem any_ints (xs : List Int) (p : V → Bool) : (ints xs).any p = xs.any fun x => p (.int .i64 x) := by simp [ints, List.any_map, Function.comp_def]
theorem isClause_ok {ex : Bool} {xs : List Int} {vars : Int} (hl : xs.length ≤ 140737488355328) (hv : 0 ≤ vars ∧ vars ≤ 1000000) : Ret Try.prog Γ 47 [.isl ex 1 (ints xs), .int .i64 vars] σ (.bool (clauseB vars xs)) σ := by
  refine ret_of c47_ok rfl ?_
  simp only [c47, go_sem, stepW_iaddr_isl, stepW_iaddr_msl, stepW_idxs, stepK_iaddr_isl, stepK_iaddr_msl, stepK_idxs, ne_eq, ↓reduceIte]
  refine SRun.boxR (by simp [ev, look, V.cells, V.one]) ?_
  intro b hb
  simp only [go_sem, stepW_iaddr_isl, stepW_iaddr_msl, stepW_idxs, stepK_iaddr_isl, stepK_iaddr_msl, stepK_idxs, ne_eq, ↓reduceIte]
  refine guardW_of (fun h => ?_) (fun h => ?_)
  · simp only [h, go_sem, stepW_iaddr_isl, stepW_iaddr_msl, stepW_idxs, stepK_iaddr_isl, stepK_iaddr_msl, stepK_idxs, ne_eq, ↓reduceIte]
    refine SRun.callR (containsFuncI_ok (p := fun v => match v with | .int _ x => !litB vars x | _ => false) (cell_ints xs) (by rw [ints_len]; exact hl) ?_) ⟨[], rfl, rfl⟩ (by simp only [guardV, go_sem, stepW_iaddr_isl, stepW_iaddr_msl, stepW_idxs, stepK_iaddr_isl, stepK_iaddr_msl, stepK_idxs, ne_eq, ↓reduceIte, h]; rfl) ?_
    · intro x hx
      simp only [ints, List.mem_map] at hx
      obtain ⟨y, _, rfl⟩ := hx
      exact isClause1_ok (upd_same _ _ _) hv
    · simp only [h, go_sem, stepW_iaddr_isl, stepW_iaddr_msl, stepW_idxs, stepK_iaddr_isl, stepK_iaddr_msl, stepK_idxs, ne_eq, ↓reduceIte]
      refine W_retC c47_ok rfl (Conv.drop _ (le_upd hb)) ⟨?_, rfl⟩
      have h' := of_decide_eq_true h
      rw [ints_len] at h'
      have h2 : decide (xs.length ≤ 12) = true := decide_eq_true (by omega)
      simp only [look, ↓reduceIte, any_ints, clauseB, h2, Bool.true_and, V.bool.injEq]
      rw [List.all_eq_not_any_not]
  · simp only [h, go_sem, stepW_iaddr_isl, stepW_iaddr_msl, stepW_idxs, stepK_iaddr_isl, stepK_iaddr_msl, stepK_idxs, ne_eq, ↓reduceIte]
    refine W_retC c47_ok rfl (Conv.drop _ (le_upd hb)) ⟨?_, rfl⟩
    have h' := of_decide_eq_false h
    rw [ints_len] at h'
    have h2 : decide (xs.length ≤ 12) = false := decide_eq_false (by omega)
    simp only [look, ↓reduceIte, clauseB, h2, Bool.false_and]
def cnfB (vars : Int) (cls : List (List Int)) : Bool := decide (0 ≤ vars) && decide (vars ≤ 40) && decide (cls.length ≤ 300) && cls.all (clauseB vars)
theorem cell_cls (cls : List (List Int)) : ∀ x ∈ clsV cls, x.cells = [x] := by
  intro c hc; simp only [clsV, List.mem_map] at hc; obtain ⟨x, _, rfl⟩ := hc; rfl
theorem any_cls (cls : List (List Int)) (p : V → Bool) : (clsV cls).any p = cls.any fun x => p (intsV x) := by simp [clsV, List.any_map, Function.comp_def]
theorem clsV_len (cls : List (List Int)) : (clsV cls).length = cls.length := by simp [clsV]
def unInt : V → Int
  | .int _ x => x
  | _ => 0
def unInts : V → List Int
  | .isl _ _ xs => xs.map unInt
  | _ => []
theorem unInts_intsV (xs : List Int) : unInts (intsV xs) = xs := by simp [unInts, intsV, ints, List.map_map, Function.comp_def, unInt]
theorem isCnf1_ok {xs : List Int} {vars : Int} {r : V} {b : Nat} (hb : σ b = some [.int .i64 vars, r]) (hv : 0 ≤ vars ∧ vars ≤ 1000000) (hl : xs.length ≤ 140737488355328) : Ret Try.prog Γ 95 [intsV xs, .ptr b 0] σ (.bool (!clauseB vars xs)) σ := by
  refine ret_of c95_ok rfl ?_
  simp only [c95, hb, go_sem, stepW_iaddr_isl, stepW_iaddr_msl, stepW_idxs, stepK_iaddr_isl, stepK_iaddr_msl, stepK_idxs, ne_eq, ↓reduceIte]
  refine SRun.callR (isClause_ok hl hv) ⟨[], rfl, rfl⟩ rfl ?_
  simp only [go_sem, stepW_iaddr_isl, stepW_iaddr_msl, stepW_idxs, stepK_iaddr_isl, stepK_iaddr_msl, stepK_idxs, ne_eq, ↓reduceIte]
  exact W_retR c95_ok rfl ⟨rfl, rfl⟩
/-- Its slices are of a length that memory bears. -/
def Small (cls : List (List Int)) : Prop := cls.length ≤ 1000000 ∧ ∀ c ∈ cls, c.length ≤ 1000000
theorem isCnf_ok {cls : List (List Int)} {vars : Int} (hs : Small cls) : Ret Try.prog Γ 46 [cnfV vars cls] σ (.bool (cnfB vars cls)) σ := by
  refine ret_of c46_ok rfl ?_
  simp only [c46, cnfV, go_sem, stepW_iaddr_isl, stepW_iaddr_msl, stepW_idxs, stepK_iaddr_isl, stepK_iaddr_msl, stepK_idxs, ne_eq, ↓reduceIte]
  refine SRun.boxR (by simp [ev, look, V.cells, V.one]) ?_
  intro b hb
  simp only [go_sem, stepW_iaddr_isl, stepW_iaddr_msl, stepW_idxs, stepK_iaddr_isl, stepK_iaddr_msl, stepK_idxs, ne_eq, ↓reduceIte]
  refine SRun.callR (within_ok _ _ _) ⟨[], rfl, rfl⟩ rfl ?_
  simp only [go_sem, stepW_iaddr_isl, stepW_iaddr_msl, stepW_idxs, stepK_iaddr_isl, stepK_iaddr_msl, stepK_idxs, ne_eq, ↓reduceIte]
  have w : ∀ (q : Bool) T, look T 2 = .bool q → q = cnfB vars cls → W Try.prog Γ 46 19 (fun x s => x = .bool (cnfB vars cls) ∧ s = σ) [.code .ret] T (upd σ b [.int .i64 vars, .isl false 1 (clsV cls)]) := by
    intro q T h2 hq
    exact W_retC c46_ok (r := .bool q) (by simp only [c46, resV, resV1, h2]) (Conv.drop _ (le_upd hb)) ⟨by rw [hq], rfl⟩
  refine guardW_of (fun h => ?_) (fun h => ?_)
  · simp only [h, go_sem, stepW_iaddr_isl, stepW_iaddr_msl, stepW_idxs, stepK_iaddr_isl, stepK_iaddr_msl, stepK_idxs, ne_eq, ↓reduceIte]
    refine guardW_of (fun h3 => ?_) (fun h3 => ?_)
    · simp only [h3, go_sem, stepW_iaddr_isl, stepW_iaddr_msl, stepW_idxs, stepK_iaddr_isl, stepK_iaddr_msl, stepK_idxs, ne_eq, ↓reduceIte]
      have hv : 0 ≤ vars ∧ vars ≤ 40 := by simpa using h
      refine SRun.callR (containsFuncL_ok (p := fun v => !clauseB vars (unInts v)) (cell_cls cls) (by rw [clsV_len]; have := hs.1; omega) ?_) ⟨[], rfl, rfl⟩ (by simp only [guardV, go_sem, stepW_iaddr_isl, stepW_iaddr_msl, stepW_idxs, stepK_iaddr_isl, stepK_iaddr_msl, stepK_idxs, ne_eq, ↓reduceIte, h3]; rfl) ?_
      · intro x hx
        simp only [clsV, List.mem_map] at hx
        obtain ⟨y, hy, rfl⟩ := hx
        rw [unInts_intsV]
        exact isCnf1_ok (upd_same _ _ _) (by omega) (by have := hs.2 y hy; omega)
      · simp only [h3, go_sem, stepW_iaddr_isl, stepW_iaddr_msl, stepW_idxs, stepK_iaddr_isl, stepK_iaddr_msl, stepK_idxs, ne_eq, ↓reduceIte]
        refine w _ _ rfl ?_
        rw [any_cls]
        simp only [unInts_intsV]
        have h4 := of_decide_eq_true h3
        rw [clsV_len] at h4
        have h5 : decide (cls.length ≤ 300) = true := decide_eq_true (by omega)
        simp only [cnfB, h, h5, Bool.true_and]
        rw [List.all_eq_not_any_not]
    · simp only [h3, go_sem, stepW_iaddr_isl, stepW_iaddr_msl, stepW_idxs, stepK_iaddr_isl, stepK_iaddr_msl, stepK_idxs, ne_eq, ↓reduceIte]
      refine w _ _ rfl ?_
      have h4 := of_decide_eq_false h3
      rw [clsV_len] at h4
      have h5 : decide (cls.length ≤ 300) = false := decide_eq_false (by omega)
      simp only [cnfB, h5, Bool.and_false, Bool.false_and]
  · simp only [h, go_sem, stepW_iaddr_isl, stepW_iaddr_msl, stepW_idxs, stepK_iaddr_isl, stepK_iaddr_msl, stepK_idxs, ne_eq, ↓reduceIte]
    refine w _ _ rfl ?_
    simp only [cnfB, h, Bool.false_and]
end Go.Proofs.Ytlojopaebdnacaa.Lg
