/- The program's functions, one by one: the least model. -/
import Derived.Test.YtlojopaebdnacaaMb
set_option linter.unusedSimpArgs false
set_option linter.unusedVariables false
namespace Go.Proofs.Ytlojopaebdnacaa.Lg
open Go
attribute [local irreducible] SRun DS DRun
variable {Γ : St} {σ σ0 : St}
/-- A state that is owned over what is owned beside. -/
def StO (σ0 : St) (vars : Int) (cls : List (List Int)) (vals : List Int) (b bv : Nat) (σ : St) : Prop :=
  σ0 b = none ∧ σ0 bv = none ∧ bv ≠ b ∧ ∃ cap, vals.length ≤ cap ∧ σ = upd (upd σ0 bv (ints vals)) b (stC vars cls bv vals.length cap)
theorem StOwn.o {vars : Int} {cls : List (List Int)} {vals : List Int} {r : V} (h : StOwn σ0 vars cls vals r σ) : ∃ b bv, r = .ptr b 0 ∧ StO σ0 vars cls vals b bv σ := by
  obtain ⟨b, bv, cap, h1, h2, h3, h4, h5, h6⟩ := h
  exact ⟨b, bv, h5, h1, h2, h3, cap, h4, h6⟩
theorem StO.own {vars : Int} {cls : List (List Int)} {vals : List Int} {b bv : Nat} (h : StO σ0 vars cls vals b bv σ) : StOwn σ0 vars cls vals (.ptr b 0) σ := by
  obtain ⟨h1, h2, h3, cap, h4, h6⟩ := h
  exact ⟨b, bv, cap, h1, h2, h3, h4, rfl, h6⟩
theorem StO.at {vars : Int} {cls : List (List Int)} {vals : List Int} {b bv : Nat} (h : StO σ0 vars cls vals b bv σ) (hl : (vals.length : Int) = vars + 1) : StAt σ vars cls vals b bv := by
  obtain ⟨h1, h2, h3, cap, h4, rfl⟩ := h
  exact ⟨⟨cap, h4, upd_same _ _ _⟩, by rw [upd_ne _ _ h3, upd_same], hl, h3⟩
theorem StO.set {vars : Int} {cls : List (List Int)} {vals vals' : List Int} {b bv : Nat} (h : StO σ0 vars cls vals b bv σ) (hl : vals'.length = vals.length) : StO σ0 vars cls vals' b bv (upd σ bv (ints vals')) := by
  obtain ⟨h1, h2, h3, cap, h4, rfl⟩ := h
  refine ⟨h1, h2, h3, cap, by omega, ?_⟩
  rw [upd_comm _ h3.symm, upd_upd, hl]
theorem StO.le {vars : Int} {cls : List (List Int)} {vals : List Int} {b bv : Nat} (h : StO σ0 vars cls vals b bv σ) : ∀ c x, σ0 c = some x → σ c = some x := by
  obtain ⟨h1, h2, h3, cap, h4, rfl⟩ := h
  intro c x hc
  exact le_upd (by rw [upd_ne _ _ h3.symm]; exact h1) _ _ (le_upd h2 _ _ hc)
theorem StOwn.drop {τ : St} {vars : Int} {cls : List (List Int)} {vals : List Int} {r : V} (hle : ∀ c x, τ c = some x → σ0 c = some x) (h : StOwn σ0 vars cls vals r σ) : ∃ σ2, (∀ c x, σ2 c = some x → σ c = some x) ∧ StOwn τ vars cls vals r σ2 := by
  obtain ⟨b, bv, cap, h1, h2, h3, h4, rfl, rfl⟩ := h
  have hn : ∀ c, σ0 c = none → τ c = none := by
    intro c hc
    cases ht : τ c with
    | none => rfl
    | some x => rw [hle c x ht] at hc; cases hc
  refine ⟨upd (upd τ bv (ints vals)) b (stC vars cls bv vals.length cap), fun c x hc => ?_, b, bv, cap, hn _ h1, hn _ h2, h3, h4, rfl, rfl⟩
  by_cases hcb : c = b
  · subst hcb; rw [upd_same] at hc ⊢; exact hc
  · rw [upd_ne _ _ hcb] at hc ⊢
    by_cases hcv : c = bv
    · subst hcv; rw [upd_same] at hc ⊢; exact hc
    · rw [upd_ne _ _ hcv] at hc ⊢; exact hle _ _ hc
end Go.Proofs.Ytlojopaebdnacaa.Lg
