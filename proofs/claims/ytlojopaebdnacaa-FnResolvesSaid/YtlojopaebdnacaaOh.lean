/- Literals put in order one by one: plain. -/
import Derived.Test.YtlojopaebdnacaaOa
set_option linter.unusedSimpArgs false
set_option linter.unusedVariables false
namespace Go.Proofs.Ytlojopaebdnacaa.Lg
open Go
/-- Where a literal belongs. -/
def insKR (x : Int) : List Int → Nat
  | [] => 0
  | y :: ys => if rankP y < rankP x then insKR x ys + 1 else 0
def insR (ys : List Int) (x : Int) : List Int := if insKR x ys < ys.length ∧ ys.getD (insKR x ys) 0 = x then ys else ys.take (insKR x ys) ++ [x] ++ ys.drop (insKR x ys)
theorem insKR_le (x : Int) : ∀ ys : List Int, insKR x ys ≤ ys.length := by
  intro ys
  induction ys with
  | nil => exact Nat.le_refl _
  | cons y ys ih => unfold insKR; split <;> simp <;> omega
theorem insKR_before (x : Int) : ∀ {ys : List Int} {i : Nat}, i < insKR x ys → rankP (ys.getD i 0) < rankP x := by
  intro ys
  induction ys with
  | nil => intro i h; exact absurd h (Nat.not_lt_zero _)
  | cons y ys ih =>
    intro i h
    unfold insKR at h
    split at h
    · rename_i h1
      cases i with
      | zero => exact h1
      | succ i => exact ih (i := i) (by omega)
    · exact absurd h (Nat.not_lt_zero _)
theorem insKR_stop (x : Int) : ∀ {ys : List Int}, insKR x ys < ys.length → ¬ rankP (ys.getD (insKR x ys) 0) < rankP x := by
  intro ys
  induction ys with
  | nil => intro h; exact absurd h (Nat.not_lt_zero _)
  | cons y ys ih =>
    intro h
    by_cases h1 : rankP y < rankP x
    · have e : insKR x (y :: ys) = insKR x ys + 1 := by simp [insKR, h1]
      rw [e] at h ⊢
      exact ih (by simpa using h)
    · have e : insKR x (y :: ys) = 0 := by simp [insKR, h1]
      rw [e]; exact h1
theorem insR_ord {c ys : List Int} {x : Int} (h : OrdOf c ys) : OrdOf (c ++ [x]) (insR ys x) := by
  have hk := insKR_le x ys
  have hb := fun i => insKR_before x (ys := ys) (i := i)
  have hs := insKR_stop x (ys := ys)
  have hlt : ∀ p q, p < q → q < ys.length → rankP (ys.getD p 0) < rankP (ys.getD q 0) := fun p q h1 h2 => by
    have := List.pairwise_iff_getElem.1 h.1 p q (by omega) h2 h1
    simpa [List.getD, h2, show p < ys.length by omega] using this
  unfold insR
  generalize insKR x ys = k at *
  split
  · rename_i he
    refine ⟨h.1, fun z => ?_⟩
    rw [List.mem_append, h.2 z, List.mem_singleton]
    constructor
    · exact .inl
    · rintro (e | rfl)
      · exact e
      · rw [← h.2, ← he.2]; exact getD_mem 0 he.1
  · rename_i he
    have hA : ∀ y ∈ ys.take k, rankP y < rankP x := fun y hy => by
      obtain ⟨p, hp, rfl⟩ := List.getElem_of_mem hy
      rw [List.length_take] at hp
      have e : (ys.take k)[p] = ys.getD p 0 := by simp [List.getD, show p < ys.length by omega]
      rw [e]; exact hb p (by omega)
    have hB : ∀ y ∈ ys.drop k, rankP x < rankP y := fun y hy => by
      obtain ⟨p, hp, rfl⟩ := List.getElem_of_mem hy
      rw [List.length_drop] at hp
      have e : (ys.drop k)[p] = ys.getD (k + p) 0 := by simp [List.getD, show k + p < ys.length by omega]
      rw [e]
      have h1 := hs (by omega)
      have h2 : ys.getD k 0 ≠ x := fun e => he ⟨by omega, e⟩
      have h3 : rankP (ys.getD k 0) ≠ rankP x := fun e => h2 (rankP_inj e)
      rcases Nat.eq_zero_or_pos p with e0 | e0
      · subst e0; rw [Nat.add_zero]; omega
      · have := hlt k (k + p) (by omega) (by omega); omega
    have hp := h.1
    rw [strictP, ← List.take_append_drop k ys] at hp
    obtain ⟨p1, p2, p3⟩ := List.pairwise_append.1 hp
    refine ⟨?_, fun z => ?_⟩
    · refine List.pairwise_append.2 ⟨List.pairwise_append.2 ⟨p1, List.pairwise_singleton _ _, fun a ha b hb => ?_⟩, p2, fun a ha b hb => ?_⟩
      · rw [List.mem_singleton.1 hb]; exact hA a ha
      · rcases List.mem_append.1 ha with ha | ha
        · exact p3 a ha b hb
        · rw [List.mem_singleton.1 ha]; exact hB b hb
    · have hz : z ∈ ys ↔ z ∈ ys.take k ∨ z ∈ ys.drop k := by
        rw [← List.mem_append, List.take_append_drop]
      rw [List.mem_append, List.mem_append, List.mem_append, List.mem_singleton, ← h.2 z, hz]
      constructor
      · rintro ((e | e) | e)
        · exact .inl (.inl e)
        · exact .inr e
        · exact .inl (.inr e)
      · rintro ((e | e) | e)
        · exact .inl (.inl e)
        · exact .inr e
        · exact .inl (.inr e)
end Go.Proofs.Ytlojopaebdnacaa.Lg
