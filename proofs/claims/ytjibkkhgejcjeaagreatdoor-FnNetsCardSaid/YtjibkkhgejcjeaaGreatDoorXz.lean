/- A number written by the reference. -/
import Derived.Test.YtjibkkhgejcjeaaGreatDoorYc
set_option linter.unusedSimpArgs false
set_option linter.unusedVariables false
namespace Go.Proofs.YtjibkkhgejcjeaaGreatDoor.Lg
open Go Go.Lib
attribute [local irreducible] SRun DS DRun
variable {Γ : St} {σ σ0 : St}
theorem digit_chr {m : Nat} (h : m < 10) : IntKind.u8.wrap (48 + (m : Int)) = ((UInt8.ofNat (48 + m)).toNat : Int) := by
  have h1 : (UInt8.ofNat (48 + m)).toNat = 48 + m := by rw [UInt8.toNat_ofNat']; omega
  rw [h1]
  have h2 : IntKind.u8.wrap (48 + (m : Int)) = (48 + (m : Int)) % 256 := by simp [IntKind.wrap, IntKind.signed, IntKind.bits]
  rw [h2]; omega
section
variable {P : Program} {f : FuncId} {n : Nat} {Q : V → St → Prop} {k : List It} {T : Ts} {g : GI} {l : List GI}
theorem stepW_b2s_one {ex : Bool} (c : UInt8) : stepW P Γ f n Q (.b2s (.c (.isl ex 1 [.int .u8 (c.toNat : Int)]))) g l k T σ = W P Γ f n Q (.ops l :: k) (putT T g.d (.str [c])) σ := by
  have h : u8of [V.int .u8 (c.toNat : Int)] = some [c] := u8of_u8s [c]
  simp [stepW, insW, pureI, ev, h]
end
set_option maxRecDepth 8000 in
theorem digits_pos : ∀ (m : Nat) (σ : St), m ≤ 1000000 → Ret Tryz.prog Γ 89 [.int .i64 (m : Int)] σ (.str (decDigits m)) σ := by
  intro m
  induction m using Nat.strongRecOn with
  | _ m ih =>
    intro σ hm
    have d0 : decide ((m : Int) = -9223372036854775808) = false := decide_eq_false (by omega)
    have d1 : decide ((m : Int) < 0) = false := decide_eq_false (by omega)
    have h10 : m % 10 < 10 := Nat.mod_lt _ (by omega)
    have hq : (m : Int).tdiv 10 = ((m / 10 : Nat) : Int) := by rw [Int.tdiv_eq_ediv_of_nonneg (by omega)]; omega
    have hr : (m : Int).tmod 10 = ((m % 10 : Nat) : Int) := by rw [Int.tmod_eq_emod_of_nonneg (by omega)]; omega
    by_cases h : m < 10
    · have d2 : decide ((m : Int) < 10) = true := decide_eq_true (by omega)
      rw [decDigits_small h]
      have hc := digit_chr h
      generalize UInt8.ofNat (48 + m) = dc at *
      refine ret_of c89_ok rfl ?_
      simp (disch := omega) only [c89, d0, d1, d2, hc, go_sem]
      rw [stepW_b2s_one]
      simp (disch := omega) only [go_sem]
      exact W_retR c89_ok rfl ⟨rfl, rfl⟩
    · have d2 : decide ((m : Int) < 10) = false := decide_eq_false (by omega)
      rw [decDigits_big h]
      have hc := digit_chr h10
      generalize UInt8.ofNat (48 + m % 10) = dc at *
      generalize m % 10 = m1 at *
      have ihm := ih (m / 10) (by omega)
      have hm2 : m / 10 ≤ 1000000 := by omega
      have hml := decDigits_len 6 (m / 10) (by have : (10:Nat) ^ (6 + 1) = 10000000 := by decide
                                               omega)
      generalize m / 10 = m2 at *
      refine ret_of c89_ok rfl ?_
      simp (disch := omega) only [c89, d0, d1, d2, go_sem]
      refine W_drawW ?_
      refine DRun.mixE rfl ?_
      simp (disch := omega) only [hq, hr, hc, go_sem]
      refine DS.callB (ihm _ hm2) ⟨[], rfl, rfl⟩ rfl rfl ?_
      simp (disch := omega) only [List.length_singleton, go_sem]
      exact W_retR c89_ok rfl ⟨rfl, rfl⟩
theorem digits_ok {n : Int} (h0 : -1000000 ≤ n) (h1 : n ≤ 1000000) : Ret Tryz.prog Γ 89 [.int .i64 n] σ (.str (itoa n)) σ := by
  have hl := decDigits_len 6 n.natAbs (by have : (10:Nat) ^ (6 + 1) = 10000000 := by decide
                                          omega)
  by_cases hn : n < 0
  · have d0 : decide (n = -9223372036854775808) = false := decide_eq_false (by omega)
    have d1 : decide (n < 0) = true := decide_eq_true hn
    have hi : itoa n = 45 :: decDigits n.natAbs := by unfold itoa; rw [if_pos hn]
    have hneg : (0 : Int) - n = (n.natAbs : Int) := by omega
    rw [hi]
    refine ret_of c89_ok rfl ?_
    simp (disch := omega) only [c89, d0, d1, hneg, go_sem]
    refine SRun.callR (digits_pos n.natAbs _ (by omega)) ⟨[], rfl, rfl⟩ rfl ?_
    simp (disch := omega) only [List.length_singleton, go_sem]
    exact W_retR c89_ok rfl ⟨rfl, rfl⟩
  · have hi : itoa n = decDigits n.natAbs := by unfold itoa; rw [if_neg hn]; congr 1; omega
    rw [hi]
    have := digits_pos (Γ := Γ) n.natAbs σ (by omega)
    rwa [show ((n.natAbs : Nat) : Int) = n by omega] at this
end Go.Proofs.YtjibkkhgejcjeaaGreatDoor.Lg
