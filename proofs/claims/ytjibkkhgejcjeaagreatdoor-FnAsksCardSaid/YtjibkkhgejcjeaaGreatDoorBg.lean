/- Numbers' texts read and written by the reference. -/
import Derived.Test.YtjibkkhgejcjeaaGreatDoorBd
set_option linter.unusedSimpArgs false
set_option linter.unusedVariables false
namespace Go.Proofs.YtjibkkhgejcjeaaGreatDoor.Lg
open Go Go.Lib
attribute [local irreducible] SRun DS DRun
variable {Γ : St} {σ σ0 : St}
theorem digitVal_none {b : UInt8} (h : (b.toNat : Int) < 48 ∨ 57 < (b.toNat : Int)) : digitVal b = none := by
  unfold digitVal; rw [if_neg (by omega)]
theorem digitVal_in {b : UInt8} (h0 : ¬ (b.toNat : Int) < 48) (h1 : ¬ (b.toNat : Int) > 57) : digitVal b = some (b.toNat - 48) := by
  unfold digitVal; rw [if_pos (by omega)]
def sgn (sg : Bool) : Int := if sg then -1 else 1
theorem numU_eq {sg : Bool} {u : List UInt8} (h1 : u ≠ []) (h2 : u.length ≤ 18) (h3 : ¬ (u.head? = some 48 ∧ (1 < u.length ∨ sg = true))) : numU sg u = (decFrom 0 u).map fun (m : Nat) => sgn sg * (m : Int) := by
  unfold numU
  rw [if_neg]
  · congr 1; funext m; cases sg <;> simp [sgn]
  · rintro (h | h | h)
    · exact h1 h
    · omega
    · exact h3 h
theorem head_is {u : List UInt8} (h : u ≠ []) (b : UInt8) : u.head? = some b ↔ ((u.getD 0 0).toNat : Int) = (b.toNat : Int) := by
  cases u with
  | nil => exact absurd rfl h
  | cons a r =>
    simp only [List.head?_cons, Option.some.injEq, List.getD_cons_zero]
    exact ⟨fun e => by rw [e], fun e => UInt8.toNat_inj.1 (by omega)⟩
theorem pow_lt {i : Nat} (h : i ≤ 18) : 10 ^ i ≤ 1000000000000000000 := by
  have : (10 : Nat) ^ i ≤ 10 ^ 18 := Nat.pow_le_pow_right (by omega) h
  have h18 : (10 : Nat) ^ 18 = 1000000000000000000 := by decide
  omega
set_option maxHeartbeats 1000000 in
theorem l00Number_neg {t u : List UInt8} (hl : t.length ≤ 1000000000) (hne : t ≠ []) (hm : ((t.getD 0 0).toNat : Int) = 45) (hu : u = t.drop 1) : Ret Tryz.prog Γ 60 [.str t] σ (.tup [.int .i64 ((numU true u).getD 0), .bool (numU true u).isSome]) σ := by
  have hpos : 0 < t.length := List.length_pos_iff.2 hne
  have d1 : decide ((t.length : Int) > 0) = true := decide_eq_true (by omega)
  have d2 : decide (((t.getD 0 0).toNat : Int) = 45) = true := decide_eq_true hm
  have hdr : (t.drop 1).length = t.length - 1 := List.length_drop
  have htk : (t.drop 1).take (t.length - 1) = t.drop 1 := List.take_of_length_le (by omega)
  have htn : ((t.length : Int) - 1).toNat = t.length - 1 := by omega
  refine ret_of c60_ok rfl ?_
  simp (disch := omega) only [c60, d1, d2, htn, htk, go_sem]
  rw [← hu] at *
  have hul : u.length ≤ 1000000000 := by omega
  by_cases h0 : u = []
  · have d3 : decide ((u.length : Int) = 0) = true := decide_eq_true (by rw [h0]; rfl)
    have hN : numU true u = none := by unfold numU; rw [if_pos (.inl h0)]
    simp (disch := omega) only [d3, go_sem]
    rw [hN]
    exact W_retR c60_ok rfl ⟨rfl, rfl⟩
  · have hup : 0 < u.length := List.length_pos_iff.2 h0
    have d3 : decide ((u.length : Int) = 0) = false := decide_eq_false (by omega)
    by_cases h18 : 18 < u.length
    · have d4 : decide ((u.length : Int) > 18) = true := decide_eq_true (by omega)
      have hN : numU true u = none := by unfold numU; rw [if_pos (.inr (.inl h18))]
      simp (disch := omega) only [d3, d4, go_sem]
      rw [hN]
      exact W_retR c60_ok rfl ⟨rfl, rfl⟩
    · have d4 : decide ((u.length : Int) > 18) = false := decide_eq_false (by omega)
      have h48 := head_is h0 48
      have e48 : ((48 : UInt8).toNat : Int) = 48 := rfl
      rw [e48] at h48
      have fin : ∀ (i : Nat), i < u.length → ((u.getD i 0).toNat : Int) < 48 ∨ 57 < ((u.getD i 0).toNat : Int) → ∀ n, decFrom 0 u = decFrom n (u.drop i) → decFrom 0 u = none := fun i hi hd n h => by
        rw [h, drop_cons0 hi]
        simp only [decFrom, digitVal_none hd]
      by_cases hh : ((u.getD 0 0).toNat : Int) = 48
      case pos =>
        have d5 : decide (((u.getD 0 0).toNat : Int) = 48) = true := decide_eq_true hh
        have hN : numU true u = none := by unfold numU; rw [if_pos (.inr (.inr ⟨h48.2 hh, .inr rfl⟩))]
        by_cases hl1 : 1 < u.length
        · have d6 : decide ((u.length : Int) > 1) = true := decide_eq_true (by omega)
          simp (disch := omega) only [d3, d4, d5, d6, go_sem]
          rw [hN]
          exact W_retR c60_ok rfl ⟨rfl, rfl⟩
        · have d6 : decide ((u.length : Int) > 1) = false := decide_eq_false (by omega)
          simp (disch := omega) only [d3, d4, d5, d6, go_sem]
          rw [hN]
          exact W_retR c60_ok rfl ⟨rfl, rfl⟩
      case neg =>
        have d5 : decide (((u.getD 0 0).toNat : Int) = 48) = false := decide_eq_false hh
        have hN : numU true u = (decFrom 0 u).map fun (m : Nat) => sgn true * (m : Int) := numU_eq h0 (by omega) (fun h => hh (h48.1 h.1))
        simp (disch := omega) only [d3, d4, d5, go_sem]
        refine W_loopC (α := Nat × Nat) (fun a => a.1 ≤ u.length ∧ decFrom 0 u = decFrom a.2 (u.drop a.1) ∧ a.2 + 1 ≤ 10 ^ a.1) (fun a => [(0, .str u), (4, .int .i64 (-1)), (5, .int .i64 (a.2 : Nat)), (6, .int .i64 (a.1 : Nat))]) (fun _ => σ) (fun a => u.length - a.1) (0, 0) ⟨by simp, by simp, by simp⟩ (by simp (disch := omega) only [subT, Int.natCast_add, Int.cast_ofNat_Int, go_sem] <;> (repeat' apply And.intro) <;> first | rfl | (congr 1; omega) | assumption) rfl ?_
        rintro ⟨i, n⟩ ⟨hi, hd, hb⟩ ih
        dsimp only at hi hd hb
        have hp := pow_lt (show i ≤ 18 by omega)
        simp (disch := omega) only [go_sem]
        first | refine iteW_dec (fun h1 => ?_) (fun h1 => ?_) | refine iteW_of (fun h1 => ?_) (fun h1 => ?_)
        · have hi' : i < u.length := by omega
          by_cases hlo : ((u.getD i 0).toNat : Int) < 48
          · have e1 : decide (((u.getD i 0).toNat : Int) < 48) = true := decide_eq_true hlo
            have hz := fin i hi' (.inl hlo) n hd
            rw [hz] at hN
            simp (disch := omega) only [e1, go_sem]
            rw [hN]
            exact W_retR c60_ok rfl ⟨rfl, rfl⟩
          · have e1 : decide (((u.getD i 0).toNat : Int) < 48) = false := decide_eq_false hlo
            by_cases hhi : ((u.getD i 0).toNat : Int) > 57
            · have e2 : decide (((u.getD i 0).toNat : Int) > 57) = true := decide_eq_true hhi
              have hz := fin i hi' (.inr hhi) n hd
              rw [hz] at hN
              simp (disch := omega) only [e1, e2, go_sem]
              rw [hN]
              exact W_retR c60_ok rfl ⟨rfl, rfl⟩
            · have e2 : decide (((u.getD i 0).toNat : Int) > 57) = false := decide_eq_false hhi
              have hps : 10 ^ (i + 1) = 10 ^ i * 10 := Nat.pow_succ 10 i
              have hp2 := pow_lt (show i + 1 ≤ 18 by omega)
              simp (disch := omega) only [e1, e2, go_sem]
              have hv := digitVal_in hlo hhi
              rw [drop_cons0 hi'] at hd
              simp only [decFrom, hv] at hd
              have ee : (n : Int) * 10 + ((u.getD i 0).toNat : Int) - 48 = ((n * 10 + ((u.getD i 0).toNat - 48) : Nat) : Int) := by omega
              rw [ee]
              exact ih (i + 1, n * 10 + ((u.getD i 0).toNat - 48)) _ _ ⟨by simp only; omega, hd, by simp only; omega⟩ (by simp only; omega) (by simp (disch := omega) only [subT, Int.natCast_add, Int.cast_ofNat_Int, go_sem] <;> (repeat' apply And.intro) <;> first | rfl | (congr 1; omega) | assumption) rfl
        · obtain rfl : i = u.length := by omega
          rw [List.drop_length] at hd
          simp only [decFrom] at hd
          rw [hd] at hN
          have ha : n ≤ 1000000000000000000 := by omega
          simp (disch := omega) only [go_sem]
          rw [hN]
          exact W_retR c60_ok rfl ⟨by simp [sgn, look], rfl⟩
set_option maxHeartbeats 1000000 in
theorem l00Number_pos {t u : List UInt8} (hl : t.length ≤ 1000000000) (hm : t = [] ∨ ¬ ((t.getD 0 0).toNat : Int) = 45) (hu : u = t) : Ret Tryz.prog Γ 60 [.str t] σ (.tup [.int .i64 ((numU false u).getD 0), .bool (numU false u).isSome]) σ := by
  subst hu
  have hul := hl
  have dd : ∀ Q : Prop, (decide ((u.length : Int) > 0) = false → Q) → (0 < u.length → decide ((u.length : Int) > 0) = true → decide (((u.getD 0 0).toNat : Int) = 45) = false → Q) → Q := fun Q h1 h2 => by
    by_cases h : u = []
    · exact h1 (by rw [h]; rfl)
    · exact h2 (List.length_pos_iff.2 h) (decide_eq_true (by have := List.length_pos_iff.2 h; omega)) (decide_eq_false (hm.resolve_left h))
  refine dd _ (fun d1 => ?_) (fun hps d1 d2 => ?_)
  case' refine_1 =>
    refine ret_of c60_ok rfl ?_
    simp (disch := omega) only [c60, d1, go_sem]
  case' refine_2 =>
    refine ret_of c60_ok rfl ?_
    simp (disch := omega) only [c60, d1, d2, go_sem]
  all_goals
    by_cases h0 : u = []
    · by_cases hz : 0 < u.length
      · rw [h0] at hz; exact absurd hz (by simp)
      first
      | exact absurd hps hz
      | skip
      all_goals clear hz
      all_goals
        have d3 : decide ((u.length : Int) = 0) = true := decide_eq_true (by rw [h0]; rfl)
        have hN : numU false u = none := by unfold numU; rw [if_pos (.inl h0)]
        simp (disch := omega) only [d3, go_sem]
        rw [hN]
        exact W_retR c60_ok rfl ⟨rfl, rfl⟩
    · have hup : 0 < u.length := List.length_pos_iff.2 h0
      have d3 : decide ((u.length : Int) = 0) = false := decide_eq_false (by omega)
      by_cases h18 : 18 < u.length
      · have d4 : decide ((u.length : Int) > 18) = true := decide_eq_true (by omega)
        have hN : numU false u = none := by unfold numU; rw [if_pos (.inr (.inl h18))]
        simp (disch := omega) only [d3, d4, go_sem]
        rw [hN]
        exact W_retR c60_ok rfl ⟨rfl, rfl⟩
      · have d4 : decide ((u.length : Int) > 18) = false := decide_eq_false (by omega)
        have h48 := head_is h0 48
        have e48 : ((48 : UInt8).toNat : Int) = 48 := rfl
        rw [e48] at h48
        have fin : ∀ (i : Nat), i < u.length → ((u.getD i 0).toNat : Int) < 48 ∨ 57 < ((u.getD i 0).toNat : Int) → ∀ n, decFrom 0 u = decFrom n (u.drop i) → decFrom 0 u = none := fun i hi hd n h => by
          rw [h, drop_cons0 hi]
          simp only [decFrom, digitVal_none hd]
        by_cases hh : ((u.getD 0 0).toNat : Int) = 48
        case' pos =>
          have d5 : decide (((u.getD 0 0).toNat : Int) = 48) = true := decide_eq_true hh
          by_cases hl1 : 1 < u.length
          case pos =>
            have d6 : decide ((u.length : Int) > 1) = true := decide_eq_true (by omega)
            have hN : numU false u = none := by unfold numU; rw [if_pos (.inr (.inr ⟨h48.2 hh, .inl hl1⟩))]
            simp (disch := omega) only [d3, d4, d5, d6, go_sem]
            rw [hN]
            exact W_retR c60_ok rfl ⟨rfl, rfl⟩
          case' neg =>
            have d6 : decide ((u.length : Int) > 1) = false := decide_eq_false (by omega)
            have hN : numU false u = (decFrom 0 u).map fun (m : Nat) => sgn false * (m : Int) := numU_eq h0 (by omega) (fun h => h.2.elim hl1 (by simp))
            simp (disch := omega) only [d3, d4, d5, d6, go_sem]
        case' neg =>
          have d5 : decide (((u.getD 0 0).toNat : Int) = 48) = false := decide_eq_false hh
          have hN : numU false u = (decFrom 0 u).map fun (m : Nat) => sgn false * (m : Int) := numU_eq h0 (by omega) (fun h => hh (h48.1 h.1))
          simp (disch := omega) only [d3, d4, d5, go_sem]
        all_goals
          refine W_loopC (α := Nat × Nat) (fun a => a.1 ≤ u.length ∧ decFrom 0 u = decFrom a.2 (u.drop a.1) ∧ a.2 + 1 ≤ 10 ^ a.1) (fun a => [(0, .str u), (4, .int .i64 (1)), (5, .int .i64 (a.2 : Nat)), (6, .int .i64 (a.1 : Nat))]) (fun _ => σ) (fun a => u.length - a.1) (0, 0) ⟨by simp, by simp, by simp⟩ (by simp (disch := omega) only [subT, Int.natCast_add, Int.cast_ofNat_Int, go_sem] <;> (repeat' apply And.intro) <;> first | rfl | (congr 1; omega) | assumption) rfl ?_
          rintro ⟨i, n⟩ ⟨hi, hd, hb⟩ ih
          dsimp only at hi hd hb
          have hp := pow_lt (show i ≤ 18 by omega)
          simp (disch := omega) only [go_sem]
          first | refine iteW_dec (fun h1 => ?_) (fun h1 => ?_) | refine iteW_of (fun h1 => ?_) (fun h1 => ?_)
          · have hi' : i < u.length := by omega
            by_cases hlo : ((u.getD i 0).toNat : Int) < 48
            · have e1 : decide (((u.getD i 0).toNat : Int) < 48) = true := decide_eq_true hlo
              have hz := fin i hi' (.inl hlo) n hd
              rw [hz] at hN
              simp (disch := omega) only [e1, go_sem]
              rw [hN]
              exact W_retR c60_ok rfl ⟨rfl, rfl⟩
            · have e1 : decide (((u.getD i 0).toNat : Int) < 48) = false := decide_eq_false hlo
              by_cases hhi : ((u.getD i 0).toNat : Int) > 57
              · have e2 : decide (((u.getD i 0).toNat : Int) > 57) = true := decide_eq_true hhi
                have hz := fin i hi' (.inr hhi) n hd
                rw [hz] at hN
                simp (disch := omega) only [e1, e2, go_sem]
                rw [hN]
                exact W_retR c60_ok rfl ⟨rfl, rfl⟩
              · have e2 : decide (((u.getD i 0).toNat : Int) > 57) = false := decide_eq_false hhi
                have hps : 10 ^ (i + 1) = 10 ^ i * 10 := Nat.pow_succ 10 i
                have hp2 := pow_lt (show i + 1 ≤ 18 by omega)
                simp (disch := omega) only [e1, e2, go_sem]
                have hv := digitVal_in hlo hhi
                rw [drop_cons0 hi'] at hd
                simp only [decFrom, hv] at hd
                have ee : (n : Int) * 10 + ((u.getD i 0).toNat : Int) - 48 = ((n * 10 + ((u.getD i 0).toNat - 48) : Nat) : Int) := by omega
                rw [ee]
                exact ih (i + 1, n * 10 + ((u.getD i 0).toNat - 48)) _ _ ⟨by simp only; omega, hd, by simp only; omega⟩ (by simp only; omega) (by simp (disch := omega) only [subT, Int.natCast_add, Int.cast_ofNat_Int, go_sem] <;> (repeat' apply And.intro) <;> first | rfl | (congr 1; omega) | assumption) rfl
          · obtain rfl : i = u.length := by omega
            rw [List.drop_length] at hd
            simp only [decFrom] at hd
            rw [hd] at hN
            have ha : n ≤ 1000000000000000000 := by omega
            simp (disch := omega) only [go_sem]
            rw [hN]
            exact W_retR c60_ok rfl ⟨by simp [sgn, look], rfl⟩
theorem l00Number_ok {t : List UInt8} (hl : t.length ≤ 1000000000) : Ret Tryz.prog Γ 60 [.str t] σ (.tup [.int .i64 ((numP t).getD 0), .bool (numP t).isSome]) σ := by
  have e45 : ((45 : UInt8).toNat : Int) = 45 := rfl
  by_cases h : t.head? = some 45
  · have hN : numP t = numU true (t.drop 1) := by unfold numP; rw [if_pos h]
    have hne : t ≠ [] := fun e => by rw [e] at h; cases h
    rw [hN]
    exact l00Number_neg hl hne (by rw [← e45]; exact (head_is hne 45).1 h) rfl
  · have hN : numP t = numU false t := by unfold numP; rw [if_neg h]
    rw [hN]
    refine l00Number_pos hl ?_ rfl
    by_cases hne : t = []
    · exact .inl hne
    · exact .inr fun g => h ((head_is hne 45).2 (by rw [e45]; exact g))
end Go.Proofs.YtjibkkhgejcjeaaGreatDoor.Lg
