/- Literals in order: plain. -/
import Derived.Test.YtlojopaebdnacaaLgL
set_option linter.unusedSimpArgs false
set_option linter.unusedVariables false
namespace Go.Proofs.Ytlojopaebdnacaa.Lg
open Go
def rankP (x : Int) : Int := if x < 0 then 1 - 2 * x else 2 * x
theorem rankP_inj {x y : Int} (h : rankP x = rankP y) : x = y := by
  unfold rankP at h
  split at h <;> split at h <;> omega
def strictP (ys : List Int) : Prop := ys.Pairwise fun a b => rankP a < rankP b
/-- The second has the first's numbers, in order, each once. -/
def OrdOf (xs ys : List Int) : Prop := strictP ys ∧ ∀ x, x ∈ ys ↔ x ∈ xs
theorem strict_ext : ∀ {ys zs : List Int}, strictP ys → strictP zs → (∀ x, x ∈ ys ↔ x ∈ zs) → ys = zs := by
  intro ys
  induction ys with
  | nil =>
    intro zs _ _ h
    cases zs with
    | nil => rfl
    | cons b zs => exact absurd ((h b).2 (by simp)) (by simp)
  | cons a ys ih =>
    intro zs hy hz h
    cases zs with
    | nil => exact absurd ((h a).1 (by simp)) (by simp)
    | cons b zs =>
      obtain ⟨ha, hy2⟩ := List.pairwise_cons.1 hy
      obtain ⟨hb, hz2⟩ := List.pairwise_cons.1 hz
      have hab : a = b := by
        rcases List.mem_cons.1 ((h a).1 (by simp)) with e | e
        · exact e
        rcases List.mem_cons.1 ((h b).2 (by simp)) with e2 | e2
        · exact e2.symm
        have h1 := hb a e
        have h2 := ha b e2
        omega
      subst hab
      have e : ys = zs := ih hy2 hz2 fun x => by
        constructor
        · intro hx
          rcases List.mem_cons.1 ((h x).1 (List.mem_cons_of_mem _ hx)) with e | e
          · subst e; have := ha x hx; omega
          · exact e
        · intro hx
          rcases List.mem_cons.1 ((h x).2 (List.mem_cons_of_mem _ hx)) with e | e
          · subst e; have := hb x hx; omega
          · exact e
      rw [e]
theorem OrdOf.same {xs ys zs : List Int} (h : OrdOf xs ys) (h' : OrdOf xs zs) : ys = zs := strict_ext h.1 h'.1 fun x => (h.2 x).trans (h'.2 x).symm
theorem strict_len {ys : List Int} : ∀ {xs : List Int}, strictP ys → (∀ x, x ∈ ys → x ∈ xs) → ys.length ≤ xs.length := by
  induction ys with
  | nil => intro xs _ _; simp
  | cons a ys ih =>
    intro xs hy h
    obtain ⟨ha, hy⟩ := List.pairwise_cons.1 hy
    have h1 := h a (by simp)
    have := ih (xs := xs.erase a) hy fun x hx => by
      have hne : x ≠ a := fun e => by subst e; have := ha x hx; omega
      exact (List.mem_erase_of_ne hne).2 (h x (List.mem_cons_of_mem _ hx))
    rw [List.length_erase_of_mem h1] at this
    have : 0 < xs.length := List.length_pos_of_mem h1
    simp only [List.length_cons]; omega
/-- Sorted, as far as i. -/
def upTo (ys : List Int) (i : Nat) : Prop := ∀ p q, p < q → q < i → rankP (ys.getD p 0) ≤ rankP (ys.getD q 0)
/-- Neighbours that are the same, once. -/
def cmpTo (xs : List Int) : Nat → List Int
  | 0 => []
  | i + 1 => if 0 < i ∧ xs.getD i 0 = xs.getD (i - 1) 0 then cmpTo xs i else cmpTo xs i ++ [xs.getD i 0]
theorem cmpTo_mem {xs : List Int} : ∀ {i : Nat}, i ≤ xs.length → ∀ x, x ∈ cmpTo xs i ↔ x ∈ xs.take i := by
  intro i
  induction i with
  | zero => intro _ x; simp [cmpTo]
  | succ i ih =>
    intro hi x
    have ih := ih (by omega) x
    rw [take_succ 0 (by omega)]
    unfold cmpTo
    split
    · rename_i h
      rw [ih, List.mem_append]
      refine ⟨.inl, fun e => ?_⟩
      rcases e with e | e
      · exact e
      · rw [List.mem_singleton.1 e, h.2]
        have : (xs.take i).getD (i - 1) 0 = xs.getD (i - 1) 0 := by simp [List.getD, List.getElem?_take, show i - 1 < i by omega]
        rw [← this]
        exact getD_mem 0 (by rw [List.length_take]; omega)
    · rw [List.mem_append, List.mem_append, ih]
theorem cmpTo_strict {xs : List Int} (hs : upTo xs xs.length) : ∀ {i : Nat}, i ≤ xs.length → strictP (cmpTo xs i) := by
  intro i
  induction i with
  | zero => intro _; exact List.Pairwise.nil
  | succ i ih =>
    intro hi
    have ih := ih (by omega)
    unfold cmpTo
    split
    · exact ih
    · rename_i h
      refine List.pairwise_append.2 ⟨ih, List.pairwise_singleton _ _, fun a ha b hb => ?_⟩
      rw [List.mem_singleton.1 hb]
      rw [cmpTo_mem (by omega)] at ha
      obtain ⟨p, hp, rfl⟩ := List.getElem_of_mem ha
      rw [List.length_take] at hp
      have e : (xs.take i)[p] = xs.getD p 0 := by simp [List.getD, show p < xs.length by omega]
      rw [e]
      have hi1 : xs.getD i 0 ≠ xs.getD (i - 1) 0 := fun e2 => h ⟨by omega, e2⟩
      have h1 : rankP (xs.getD (i - 1) 0) ≤ rankP (xs.getD i 0) := hs _ _ (by omega) (by omega)
      have h2 : rankP (xs.getD (i - 1) 0) ≠ rankP (xs.getD i 0) := fun e2 => hi1 (rankP_inj e2).symm
      have h3 : rankP (xs.getD p 0) ≤ rankP (xs.getD (i - 1) 0) := by
        rcases Nat.lt_or_ge p (i - 1) with h4 | h4
        · exact hs _ _ h4 (by omega)
        · rw [show p = i - 1 by omega]; exact Int.le_refl _
      omega
theorem ordOf_compact {xs ys : List Int} (hs : upTo ys ys.length) (hm : ∀ x, x ∈ ys ↔ x ∈ xs) : OrdOf xs (cmpTo ys ys.length) :=
  ⟨cmpTo_strict hs (Nat.le_refl _), fun x => by rw [cmpTo_mem (Nat.le_refl _), List.take_length]; exact hm x⟩
/-- Two neighbours changed. -/
def swapAt (ys : List Int) (j : Nat) : List Int := (ys.set j (ys.getD (j - 1) 0)).set (j - 1) (ys.getD j 0)
theorem swapAt_get {ys : List Int} {j : Nat} (hj : 0 < j ∧ j < ys.length) (p : Nat) : (swapAt ys j).getD p 0 = if p = j - 1 then ys.getD j 0 else if p = j then ys.getD (j - 1) 0 else ys.getD p 0 := by
  unfold swapAt
  simp only [List.getD, List.getElem?_set, List.length_set]
  by_cases h1 : p = j - 1
  · subst h1; simp [show j - 1 < ys.length by omega]
  · by_cases h2 : p = j
    · subst h2; simp [show ¬ p - 1 = p by omega, hj.2]; intro e; omega
    · simp [h1, h2, Ne.symm h1, Ne.symm h2, fun e : j - 1 = p => h1 e.symm, fun e : j = p => h2 e.symm]
/-- Sorted as far as i, but for what is at j. -/
def upBut (ys : List Int) (i j : Nat) : Prop := (∀ p q, p < q → q ≤ i → p ≠ j → q ≠ j → rankP (ys.getD p 0) ≤ rankP (ys.getD q 0)) ∧ ∀ q, j < q → q ≤ i → rankP (ys.getD j 0) ≤ rankP (ys.getD q 0)
theorem upBut.start {ys : List Int} {i : Nat} (h : upTo ys i) : upBut ys i i := ⟨fun p q h1 h2 _ h4 => h p q h1 (by omega), fun q h1 h2 => by omega⟩
theorem upBut.step {ys : List Int} {i j : Nat} (h : upBut ys i j) (h0 : 0 < j) (hji : j ≤ i) (hi : i < ys.length) (hlt : rankP (ys.getD j 0) < rankP (ys.getD (j - 1) 0)) : upBut (swapAt ys j) i (j - 1) := by
  have g := fun q => swapAt_get (ys := ys) (j := j) ⟨h0, by omega⟩ q
  refine ⟨fun p q hpq hq e1 e2 => ?_, fun q hq1 hq2 => ?_⟩
  · rw [g, g, if_neg e1, if_neg e2]
    by_cases e3 : p = j
    · subst e3
      rw [if_pos rfl, if_neg (by omega)]
      exact h.1 (p - 1) q (by omega) hq (by omega) (by omega)
    rw [if_neg e3]
    by_cases e4 : q = j
    · subst e4
      rw [if_pos rfl]
      exact h.1 p (q - 1) (by omega) (by omega) (by omega) (by omega)
    · rw [if_neg e4]
      exact h.1 p q hpq hq e3 e4
  · rw [g, g, if_pos rfl, if_neg (by omega)]
    by_cases e4 : q = j
    · rw [if_pos e4]; omega
    · rw [if_neg e4]
      exact h.2 q (by omega) hq2
/-- A literal and its opposite, in order, are neighbours. -/
def tautP (ys : List Int) : Bool := ys.any fun x => ys.contains (-x)
theorem taut_next {ys : List Int} (hs : strictP ys) (h0 : ∀ x ∈ ys, x ≠ 0) : tautP ys = true ↔ ∃ i, 1 ≤ i ∧ i < ys.length ∧ ys.getD (i - 1) 0 = - ys.getD i 0 := by
  have hlt : ∀ p q, p < q → q < ys.length → rankP (ys.getD p 0) < rankP (ys.getD q 0) := fun p q h1 h2 => by
    have := List.pairwise_iff_getElem.1 hs p q (by omega) h2 h1
    simpa [List.getD, h2, show p < ys.length by omega] using this
  constructor
  · intro h
    simp only [tautP, List.any_eq_true, List.contains_iff_mem] at h
    have key : ∀ x : Int, 0 < x → x ∈ ys → -x ∈ ys → ∃ i, 1 ≤ i ∧ i < ys.length ∧ ys.getD (i - 1) 0 = - ys.getD i 0 := fun x hx h1 h2 => by
      obtain ⟨p, hp, e1⟩ := List.getElem_of_mem h1
      obtain ⟨q, hq, e2⟩ := List.getElem_of_mem h2
      have e1 : ys.getD p 0 = x := by simp [List.getD, hp, e1]
      have e2 : ys.getD q 0 = -x := by simp [List.getD, hq, e2]
      have r1 : rankP x = 2 * x := by unfold rankP; rw [if_neg (by omega)]
      have r2 : rankP (-x) = 2 * x + 1 := by unfold rankP; rw [if_pos (by omega)]; omega
      have hpq : p < q := by
        rcases Nat.lt_trichotomy p q with h | h | h
        · exact h
        · subst h; omega
        · have := hlt q p h hp
          rw [e1, e2, r1, r2] at this; omega
      have hq1 : q = p + 1 := by
        rcases Nat.lt_or_ge (p + 1) q with h | h
        · have a := hlt p (p + 1) (by omega) (by omega)
          have b := hlt (p + 1) q h hq
          rw [e1, r1] at a
          rw [e2, r2] at b
          omega
        · omega
      subst hq1
      exact ⟨p + 1, by omega, hq, by rw [Nat.add_sub_cancel, e1, e2]; omega⟩
    obtain ⟨x, hx, hy⟩ := h
    have := h0 x hx
    rcases Int.lt_or_gt_of_ne this with h | h
    · exact key (-x) (by omega) hy (by rw [Int.neg_neg]; exact hx)
    · exact key x h hx hy
  · rintro ⟨i, h1, h2, h3⟩
    simp only [tautP, List.any_eq_true, List.contains_iff_mem]
    exact ⟨ys.getD i 0, getD_mem 0 h2, by rw [← h3]; exact getD_mem 0 (by omega)⟩
end Go.Proofs.Ytlojopaebdnacaa.Lg
