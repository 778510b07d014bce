/- What is told of formulas and their least models, as far as it is asked here. -/
import Derived.Test.YtlidjjjpjndneaaLm
import Derived.Test.YtlidjjjpjndneaaEq
set_option linter.unusedSimpArgs false
set_option linter.unusedVariables false
namespace Go.Proofs.Ytlidjjjpjndneaa.Lg
open Go
section
attribute [local irreducible] SRun DS DRun
variable {Γ : St} {σ : St}
end
section
attribute [local irreducible] SRun DS DRun
variable {Γ : St} {σ σ0 : St}
end
section
attribute [local irreducible] SRun DS DRun
variable {Γ : St} {σ σ0 : St}
end
section
attribute [local irreducible] SRun DS DRun
variable {Γ : St} {σ σ0 : St}
end
section
attribute [local irreducible] SRun DS DRun
variable {Γ : St} {σ σ0 : St}
end
section
attribute [local irreducible] SRun DS DRun
variable {Γ : St} {σ σ0 : St}
end
section
attribute [local irreducible] SRun DS DRun
variable {Γ : St} {σ σ0 : St}
end
section
theorem bitP_small : ((List.range 64).all fun j => (List.range 6).all fun i => bitP (j : Int) i == j.testBit i) = true := by kernel_rfl
theorem bitP_eq {j i : Nat} (hj : j < 64) (hi : i < 6) : bitP (j : Int) i = j.testBit i := by
  have := bitP_small
  simp only [List.all_eq_true, List.mem_range, beq_iff_eq] at this
  exact this j hj i hi
theorem numB_bit (bs : List Bool) : ∀ i, i < bs.length → (numB bs).testBit i = bs.getD i false := by
  induction bs with
  | nil => intro i h; simp at h
  | cons b r ih =>
    intro i h
    cases i with
    | zero => simp only [numB, Nat.testBit_zero]; cases b <;> simp <;> omega
    | succ i =>
      simp only [numB, Nat.testBit_succ]
      have : (2 * numB r + b.toNat) / 2 = numB r := by cases b <;> simp <;> omega
      rw [this, ih i (by simpa using h)]; simp [List.getD]
end
section
/-- A number's values, the first variable counting most. -/
def hiP (i N : Nat) : List Bool := (List.range N).map fun j => bitP (i : Nat) (N - 1 - j)
theorem hiP_rev (i N : Nat) : hiP i N = (valuesP i N).reverse := by
  apply List.ext_getElem
  · simp [hiP, valuesP]
  · intro j h1 h2
    simp [hiP, valuesP]
theorem numB_values {i N : Nat} (hN : N ≤ 6) (hi : i < 2 ^ N) : numB (valuesP i N) = i := by
  have hl : (valuesP i N).length = N := by simp [valuesP]
  have hp : 2 ^ N ≤ 64 := Nat.pow_le_pow_right (n := 2) (by omega) hN
  apply Nat.eq_of_testBit_eq
  intro j
  rcases Nat.lt_or_ge j N with h | h
  · rw [numB_bit _ j (by omega)]
    simp only [valuesP, List.getD, List.getElem?_map, List.getElem?_range h, Option.map_some, Option.getD_some]
    exact bitP_eq (by omega) (by omega)
  · have h1 : numB (valuesP i N) < 2 ^ j := Nat.lt_of_lt_of_le (numB_lt _) (by rw [hl]; exact Nat.pow_le_pow_right (by omega) h)
    have h2 : i < 2 ^ j := Nat.lt_of_lt_of_le hi (Nat.pow_le_pow_right (by omega) h)
    rw [Nat.testBit_lt_two_pow h1, Nat.testBit_lt_two_pow h2]
theorem values_numB {N : Nat} (hN : N ≤ 6) {bs : List Bool} (hl : bs.length = N) : valuesP (numB bs : Nat) N = bs := by
  apply List.ext_getElem?
  intro i
  have hp : 2 ^ N ≤ 64 := Nat.pow_le_pow_right (n := 2) (by omega) hN
  have hlt := numB_lt bs
  rw [hl] at hlt
  simp only [valuesP, List.getElem?_map]
  rcases Nat.lt_or_ge i N with h | h
  · rw [List.getElem?_range h, Option.map_some, bitP_eq (by omega) (by omega), numB_bit bs i (by omega)]
    simp [List.getD, hl, h]
  · rw [List.getElem?_eq_none (by simpa using h), List.getElem?_eq_none (by omega)]; rfl
theorem numH_hi {i N : Nat} (hN : N ≤ 6) (hi : i < 2 ^ N) : numH (hiP i N) = i := by rw [hiP_rev, numH, List.reverse_reverse]; exact numB_values hN hi
theorem hi_numH {N : Nat} (hN : N ≤ 6) {bs : List Bool} (hl : bs.length = N) : hiP (numH bs) N = bs := by
  rw [hiP_rev, numH, values_numB hN (by simpa using hl), List.reverse_reverse]

end
section
attribute [local irreducible] SRun DS DRun
variable {Γ : St} {σ σ0 : St}
end
section
attribute [local irreducible] SRun DS DRun
variable {Γ : St} {σ σ0 : St}
section
variable {P : Program} {f : FuncId} {n : Nat} {Q : V → St → Prop} {k : List It} {T : Ts} {g : GI} {l : List GI}
end
attribute [go_sem] stepW_iaddr_cls stepK_iaddr_cls clsV_len
end
section
attribute [local irreducible] SRun DS DRun
variable {Γ : St} {σ σ0 : St}
end
section
end
end Go.Proofs.Ytlidjjjpjndneaa.Lg
