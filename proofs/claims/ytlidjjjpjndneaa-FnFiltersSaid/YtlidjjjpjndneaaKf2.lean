/- What is told of the functions that are reached, as far as it is asked here. -/
import Derived.Test.YtlidjjjpjndneaaKf1
import Derived.KernelRfl
set_option linter.unusedSimpArgs false
set_option linter.unusedVariables false
namespace Go.Proofs.Ytlidjjjpjndneaa.Lg
open Go
section
attribute [local irreducible] SRun DS DRun
variable {Γ : St} {σ σ0 : St}
theorem stepK_eqa2 {σ : St} {K : V → St → Prop} (a b c d : Int) : stepK (.eqa false [0, 0] (.c (.agg [.int .i64 a, .int .i64 b])) (.c (.agg [.int .i64 c, .int .i64 d]))) σ K = K (.bool (decide (a = c ∧ b = d))) σ := by
  rw [stepK_eqa]
  have : (a == c && (b == d && true)) = decide (a = c ∧ b = d) := by rw [Bool.eq_iff_iff]; simp
  simp [pureK, pureI, ev, eqK]
  exact Iff.rfl
attribute [go_sem] stepK_eqa2
end
section
attribute [local irreducible] SRun DS DRun
variable {Γ : St} {σ σ0 : St}
end
section
attribute [local irreducible] SRun DS DRun
variable {Γ : St} {σ σ0 : St}
end
section
attribute [local irreducible] SRun DS DRun
variable {Γ : St} {σ σ0 : St}
section
variable {A : St} {b : Nat} {inp : Int} {gs : List (Int × Int)}
end
end
section
attribute [local irreducible] SRun DS DRun
variable {Γ : St} {σ σ0 : St}
section
variable {A : St} {b : Nat} {inp : Int} {gs : List (Int × Int)} {L : List Int} {t : V} {s : St}
end
end
section
attribute [local irreducible] SRun DS DRun
variable {Γ : St} {σ σ0 : St}
section
variable {A : St} {b : Nat} {inp : Int} {gs : List (Int × Int)} {L : List Int} {t : V} {s : St}
end
end
section
attribute [local irreducible] SRun DS DRun
variable {Γ : St} {σ σ0 : St}
end
section
attribute [local irreducible] SRun DS DRun
variable {Γ : St} {σ σ0 : St}
theorem bools_ok (xs : List Bool) : ∀ y ∈ bools xs, y.cells.length = 1 ∧ ∀ c ∈ y.cells, c.one = true := by
  intro y hy; simp only [bools, List.mem_map] at hy; obtain ⟨b, _, rfl⟩ := hy; simp [V.cells, V.one]
end
section
attribute [local irreducible] SRun DS DRun
variable {Γ : St} {σ σ0 : St}
end
section
attribute [local irreducible] SRun DS DRun
variable {Γ : St} {σ σ0 : St}
/-- The bits of a number, as the program has them. -/
def bitP (a : Int) (i : Nat) : Bool := decide (bitsV .and .i64 (a.fdiv (2 ^ min i 64)) 1 = 1)
def valuesP (a : Int) (many : Nat) : List Bool := (List.range many).map (bitP a)
theorem valuesP_len (a : Int) (many : Nat) : (valuesP a many).length = many := by simp [valuesP]
theorem values_ok {a : Int} {many : Nat} (hm : many ≤ 1000) : Ret Try.prog Γ 25 [.int .i64 a, .int .i64 many] σ (boolsV (valuesP a many)) σ := by
  refine ret_of c25_ok rfl ?_
  simp (disch := omega) only [c25, go_sem, ↓if_pos, ne_eq, ↓reduceIte]
  refine W_loopC (α := Nat × V × St) (fun p => p.1 ≤ many ∧ OwnL σ 1 (bools (valuesP a p.1)) p.2.1 p.2.2) (fun p => [(0, .int .i64 a), (1, .int .i64 many), (5, p.2.1), (6, .int .i64 (p.1 : Nat))]) (fun p => p.2.2) (fun p => many - p.1) (0, .isl true 1 [], σ) ⟨by simp, OwnL.nil _ _⟩ (by simp (disch := omega) only [subT, Int.natCast_add, Int.cast_ofNat_Int, go_sem, ↓if_pos, ne_eq, ↓reduceIte] <;> (repeat' apply And.intro) <;> first | rfl | (congr 1; omega) | assumption) rfl ?_
  rintro ⟨i, t, s⟩ ⟨hi, ho⟩ ih
  dsimp only at hi ho
  simp (disch := omega) only [go_sem, ↓if_pos, ne_eq, ↓reduceIte]
  first | refine iteW_dec (fun hq => ?_) (fun hq => ?_) | refine iteW_of (fun hq => ?_) (fun hq => ?_)
  · have w2 := wrapU64 (a := (i : Int)) (by omega) (by omega)
    simp (disch := omega) only [w2, go_sem, ↓if_pos, ne_eq, ↓reduceIte]
    refine SRun.appL ho rfl (bools_ok [bitP a i]) (by rw [bools_len, valuesP_len]; simp only [List.length_singleton]; omega) ?_
    intro t2 s2 ho2
    have hap : bools (valuesP a i) ++ [V.bool (decide (bitsV .and .i64 (a.fdiv (2 ^ min i 64)) 1 = 1))] = bools (valuesP a (i + 1)) := by simp [valuesP, List.range_succ, bools, bitP]
    rw [hap] at ho2
    simp (disch := omega) only [go_sem, ↓if_pos, ne_eq, ↓reduceIte]
    exact ih (i + 1, t2, s2) _ _ ⟨by simp only; omega, ho2⟩ (by simp only; omega) (by simp (disch := omega) only [subT, Int.natCast_add, Int.cast_ofNat_Int, go_sem, ↓if_pos, ne_eq, ↓reduceIte] <;> (repeat' apply And.intro) <;> first | rfl | (congr 1; omega) | assumption) rfl
  · obtain rfl : i = many := by omega
    simp (disch := omega) only [go_sem, ↓if_pos, ne_eq, ↓reduceIte]
    exact W_retC c25_ok (r := t) (r' := boolsV (valuesP a i)) (σ' := σ) rfl ho.conv ⟨rfl, rfl⟩
end
end Go.Proofs.Ytlidjjjpjndneaa.Lg
