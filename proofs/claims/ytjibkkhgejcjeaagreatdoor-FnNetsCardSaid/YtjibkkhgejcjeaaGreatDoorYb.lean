/- A question's reader, method by method. -/
import Derived.Test.YtjibkkhgejcjeaaGreatDoorKn3
import Derived.Test.YtjibkkhgejcjeaaGreatDoorYa
import Derived.Test.YtjibkkhgejcjeaaGreatDoorBc
set_option linter.unusedSimpArgs false
set_option linter.unusedVariables false
namespace Go.Proofs.YtjibkkhgejcjeaaGreatDoor.Lg
open Go Go.Lib
attribute [local irreducible] SRun DS DRun
variable {Γ : St} {σ σ0 : St}
theorem bounded_ok (hg : NumG Γ) {t : List UInt8} {lo hi : Int} (hl : t.length ≤ 1000000) : Ret Tryz.prog Γ 116 [.str t, .int .i64 lo, .int .i64 hi] σ (.tup [.int .i64 (boundP t lo hi).1, .int .i64 (boundP t lo hi).2]) σ := by
  unfold boundP
  refine ret_of c116_ok rfl ?_
  simp (disch := omega) only [c116, go_sem]
  refine SRun.callQ (number_ok hg (by omega)) ⟨[], rfl, rfl⟩ rfl ?_
  rintro _ s ⟨hs, n, rfl, hn1⟩
  obtain rfl := hs.symm
  cases hP : numP t with
  | none =>
    have hs : (none : Option Int).isSome = false := rfl
    simp (disch := omega) only [hs, go_sem]
    exact W_retR c116_ok rfl ⟨rfl, rfl⟩
  | some v =>
    obtain rfl := hn1 v hP
    have hs : (some n : Option Int).isSome = true := rfl
    simp (disch := omega) only [hs, go_sem]
    refine SRun.callR (within_ok n lo hi) ⟨[], rfl, rfl⟩ rfl ?_
    by_cases h : lo ≤ n ∧ n ≤ hi
    · have dl : (!(decide (lo ≤ n) && decide (n ≤ hi))) = false := by simp [h.1, h.2]
      simp only [if_pos h]
      simp (disch := omega) only [dl, go_sem]
      exact W_retR c116_ok rfl ⟨rfl, rfl⟩
    · have dl : (!(decide (lo ≤ n) && decide (n ≤ hi))) = true := by
        rcases Classical.not_and_iff_not_or_not.1 h with h | h
        · rw [decide_eq_false h]; rfl
        · rw [decide_eq_false h, Bool.and_false]; rfl
      simp only [if_neg h]
      simp (disch := omega) only [dl, go_sem]
      exact W_retR c116_ok rfl ⟨rfl, rfl⟩
end Go.Proofs.YtjibkkhgejcjeaaGreatDoor.Lg
