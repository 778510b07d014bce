/- The program's functions, one by one: the least model as values, and what is implied. -/
import Derived.Test.YtlojopaebdnacaaMc
set_option linter.unusedSimpArgs false
set_option linter.unusedVariables false
namespace Go.Proofs.Ytlojopaebdnacaa.Lg
open Go
attribute [local irreducible] SRun DS DRun
variable {Γ : St} {σ σ0 : St}
theorem solveP_len {vars : Int} {cls : List (List Int)} (hc : ClsOK vars cls) : ∀ (fu : Nat) (vals v : List Int), (vals.length : Int) = vars + 1 → tri vals → solveP cls fu vals = some v → v.length = vals.length ∧ tri v := by
  intro fu
  induction fu with
  | zero => intro vals v _ _ h; simp [solveP] at h
  | succ fu ih =>
    intro vals v hl ht h
    obtain ⟨k1, k2, k3⟩ := propGo_keeps hc (zeros vals + 1) vals [] hl ht
    simp only [solveP] at h
    generalize propGo cls (zeros vals + 1) vals [] = R at k1 k2 k3 h
    have hl2 : (R.2.2.length : Int) = vars + 1 := by rw [k1]; exact hl
    cases hq : decide (R.2.1 ≥ 0) with
    | true => rw [hq] at h; simp at h
    | false =>
      rw [hq] at h
      simp only [cond_false] at h
      cases hd : findZ (R.2.2.drop 1) 0 + 1 == 0 with
      | true => rw [hd] at h; simp only [cond_true, Option.some.injEq] at h; subst h; exact ⟨k1, k2⟩
      | false =>
        rw [hd] at h
        simp only [cond_false] at h
        split at h
        · rename_i r hr
          obtain rfl := Option.some.inj h
          obtain ⟨a1, a2⟩ := ih _ _ (by rw [setT_length]; exact hl2) (tri_set k2 _) hr
          exact ⟨a1.trans ((setT_length _ _).trans k1), a2⟩
        · obtain ⟨a1, a2⟩ := ih _ _ (by rw [setT_length]; exact hl2) (tri_set k2 _) h
          exact ⟨a1.trans ((setT_length _ _).trans k1), a2⟩
def zeroVals (vars : Int) : List Int := List.replicate (vars + 1).toNat 0
def modelP (vars : Int) (cls : List (List Int)) : Option (List Int) := solveP cls (vars.toNat + 2) (zeroVals vars)
def bools (xs : List Bool) : List V := xs.map V.bool
def boolsV (xs : List Bool) : V := .isl false 1 (bools xs)
/-- What is known, as values. -/
def valsB (v : List Int) : List Bool := (v.drop 1).map (· == 1)
end Go.Proofs.Ytlojopaebdnacaa.Lg
