/- Numbers' texts, plain: what the program takes for a number is what the reference takes for one. No program is in sight here. -/
import Derived.Lib.AtoiAll
import Derived.Lib.Atoi
import Derived.Lib.ItoaNum
import Derived.Lib.Strings
set_option linter.unusedSimpArgs false
set_option linter.unusedVariables false
namespace Go.Proofs.YtjibkkhgejcjeaaGreatDoor.Lg
open Go Go.Lib
theorem decFrom_app (l : List UInt8) : ∀ (acc : Nat) (b : UInt8), decFrom acc (l ++ [b]) = (decFrom acc l).bind fun m => (digitVal b).map fun d => m * 10 + d := by
  induction l with
  | nil =>
    intro acc b
    simp only [List.nil_append, decFrom, Option.bind_some]
    cases digitVal b <;> rfl
  | cons a t ih =>
    intro acc b
    simp only [List.cons_append, decFrom]
    cases digitVal a with
    | none => rfl
    | some d => exact ih _ _
theorem decFrom_le : ∀ (l : List UInt8) (acc m : Nat), decFrom acc l = some m → acc ≤ m := by
  intro l
  induction l with
  | nil => intro acc m h; simp only [decFrom, Option.some.injEq] at h; omega
  | cons a t ih =>
    intro acc m h
    simp only [decFrom] at h
    cases ha : digitVal a with
    | none => rw [ha] at h; cases h
    | some d => rw [ha] at h; have := ih _ _ h; omega
theorem digitVal_some {b : UInt8} {d : Nat} (h : digitVal b = some d) : 48 ≤ b.toNat ∧ b.toNat ≤ 57 ∧ d = b.toNat - 48 := by
  unfold digitVal at h
  split at h
  · rename_i h1; simp only [Option.some.injEq] at h; exact ⟨h1.1, h1.2, h.symm⟩
  · cases h
theorem digitVal_of (d : Nat) (h : d < 10) : digitVal (UInt8.ofNat (48 + d)) = some d := by
  have : (UInt8.ofNat (48 + d)).toNat = 48 + d := by rw [UInt8.toNat_ofNat']; omega
  unfold digitVal
  rw [this, if_pos (by omega)]; congr 1; omega
theorem decFrom_lt : ∀ (l : List UInt8) (acc m : Nat), decFrom acc l = some m → m + 1 ≤ (acc + 1) * 10 ^ l.length := by
  intro l
  induction l with
  | nil => intro acc m h; simp only [decFrom, Option.some.injEq] at h; simp; omega
  | cons a t ih =>
    intro acc m h
    simp only [decFrom] at h
    cases ha : digitVal a with
    | none => rw [ha] at h; cases h
    | some d =>
      rw [ha] at h
      have h1 := ih _ _ h
      obtain ⟨q1, q2, q3⟩ := digitVal_some ha
      have : (acc * 10 + d + 1) * 10 ^ t.length ≤ ((acc + 1) * 10) * 10 ^ t.length := Nat.mul_le_mul_right _ (by omega)
      rw [List.length_cons, Nat.pow_succ, Nat.mul_comm (10 ^ t.length) 10, ← Nat.mul_assoc]
      omega
theorem parse_dec : ∀ (l : List UInt8) (acc m : Nat), parseUint10 acc l = .ok m → decFrom acc l = some m := by
  intro l
  induction l with
  | nil => intro acc m h; simp only [parseUint10, NumEnd.ok.injEq] at h; simp [decFrom, h]
  | cons a t ih =>
    intro acc m h
    simp only [parseUint10] at h
    split at h
    · rename_i hd
      split at h
      · cases h
      · split at h
        · cases h
        · have hv : digitVal a = some (a.toNat - 48) := by unfold digitVal; rw [if_pos hd]
          simp only [decFrom, hv]
          exact ih _ _ h
    · cases h
theorem dec_parse : ∀ (l : List UInt8) (acc m : Nat), decFrom acc l = some m → m < 1000000000000000000 → parseUint10 acc l = .ok m := by
  intro l
  induction l with
  | nil => intro acc m h _; simp only [decFrom, Option.some.injEq] at h; simp [parseUint10, h]
  | cons a t ih =>
    intro acc m h hm
    simp only [decFrom] at h
    cases ha : digitVal a with
    | none => rw [ha] at h; cases h
    | some d =>
      rw [ha] at h
      obtain ⟨q1, q2, q3⟩ := digitVal_some ha
      have hle := decFrom_le _ _ _ h
      simp only [parseUint10]
      rw [if_pos ⟨q1, q2⟩, if_neg (by omega), if_neg (by omega), ← q3]
      exact ih _ _ h hm
theorem decDigits_small {n : Nat} (h : n < 10) : decDigits n = [UInt8.ofNat (48 + n)] := by rw [decDigits, dif_pos h]
theorem decDigits_big {n : Nat} (h : ¬ n < 10) : decDigits n = decDigits (n / 10) ++ [UInt8.ofNat (48 + n % 10)] := by rw [decDigits, dif_neg h]
theorem head_app {l r : List UInt8} (h : l ≠ []) : (l ++ r).head? = l.head? := by cases l <;> simp_all
theorem decDigits_ne (n : Nat) : decDigits n ≠ [] := by
  by_cases h : n < 10
  · rw [decDigits_small h]; simp
  · rw [decDigits_big h]; simp
theorem decFrom_digits : ∀ (n : Nat), decFrom 0 (decDigits n) = some n := by
  intro n
  induction n using Nat.strongRecOn with
  | _ n ih =>
    by_cases h : n < 10
    · rw [decDigits_small h]; simp only [decFrom, digitVal_of n h]; simp
    · rw [decDigits_big h, decFrom_app, ih (n / 10) (by omega), Option.bind_some, digitVal_of _ (by omega), Option.map_some]
      congr 1; omega
/-- The first digit is a nought of nought alone. -/
theorem decDigits_head : ∀ (n : Nat), (decDigits n).head? = some 48 → n = 0 := by
  intro n
  induction n using Nat.strongRecOn with
  | _ n ih =>
    intro hh
    by_cases h : n < 10
    · rw [decDigits_small h] at hh
      simp only [List.head?_cons, Option.some.injEq] at hh
      have := congrArg UInt8.toNat hh
      rw [UInt8.toNat_ofNat'] at this
      have h48 : (48 : UInt8).toNat = 48 := rfl
      rw [h48] at this
      omega
    · rw [decDigits_big h] at hh
      have hne := decDigits_ne (n / 10)
      rw [head_app hne] at hh
      have := ih (n / 10) (by omega) hh
      omega
theorem digits_canon : ∀ (k : Nat) (u : List UInt8) (m : Nat), u.length = k → u ≠ [] → (u.head? = some 48 → u.length = 1) → decFrom 0 u = some m → decDigits m = u := by
  intro k
  induction k with
  | zero => intro u m hl hne; exact absurd (List.eq_nil_of_length_eq_zero hl) hne
  | succ k ih =>
    intro u m hl hne hh hd
    obtain ⟨v, b, rfl⟩ : ∃ v b, u = v ++ [b] := ⟨u.dropLast, u.getLast hne, (List.dropLast_concat_getLast hne).symm⟩
    rw [List.length_append, List.length_singleton] at hl
    rw [decFrom_app] at hd
    cases hv : decFrom 0 v with
    | none => rw [hv] at hd; cases hd
    | some m' =>
      rw [hv, Option.bind_some] at hd
      cases hb : digitVal b with
      | none => rw [hb] at hd; cases hd
      | some d =>
        rw [hb, Option.map_some, Option.some.injEq] at hd
        obtain ⟨q1, q2, q3⟩ := digitVal_some hb
        have hbb : UInt8.ofNat (48 + d) = b := by
          apply UInt8.toNat_inj.1
          rw [UInt8.toNat_ofNat']; omega
        by_cases hv0 : v = []
        · subst hv0
          simp only [decFrom, Option.some.injEq] at hv
          subst hv
          have hm : m = d := by omega
          rw [hm, decDigits_small (by omega), hbb]; rfl
        · have hhd : v.head? ≠ some 48 := fun h => by
            have := hh (by rw [head_app hv0]; exact h)
            rw [List.length_append, List.length_singleton] at this
            exact hv0 (List.eq_nil_of_length_eq_zero (by omega))
          have hm1 : 1 ≤ m' := by
            cases v with
            | nil => exact absurd rfl hv0
            | cons a t =>
              simp only [decFrom] at hv
              cases ha : digitVal a with
              | none => rw [ha] at hv; cases hv
              | some e =>
                rw [ha] at hv
                have := decFrom_le _ _ _ hv
                obtain ⟨p1, p2, p3⟩ := digitVal_some ha
                have : e ≠ 0 := fun e0 => hhd (by
                  rw [List.head?_cons]; congr 1
                  apply UInt8.toNat_inj.1
                  have h48 : (48 : UInt8).toNat = 48 := rfl
                  omega)
                omega
          have hr := ih v m' (by omega) hv0 (fun h => absurd h hhd) hv
          rw [decDigits_big (by omega), show m / 10 = m' by omega, show m % 10 = d by omega, hr, hbb]
/-- What the reference takes for a number. -/
def numU (sg : Bool) (u : List UInt8) : Option Int := if u = [] ∨ 18 < u.length ∨ (u.head? = some 48 ∧ (1 < u.length ∨ sg = true)) then none else (decFrom 0 u).map fun (m : Nat) => if sg then -(m : Int) else (m : Int)
def numP (t : List UInt8) : Option Int := if t.head? = some 45 then numU true (t.drop 1) else numU false t
/-- What the program takes for one. -/
def numQ (t : List UInt8) : Option Int := match atoiAll t with
  | .ok n => if (trimPrefix t [45]).length ≤ 18 ∧ itoa n = t then some n else none
  | _ => none
theorem trim_minus (r : List UInt8) : trimPrefix (45 :: r) [45] = r := by simp [trimPrefix, hasPrefix]
theorem trim_other {t : List UInt8} (h : t.head? ≠ some 45) : trimPrefix t [45] = t := by
  unfold trimPrefix
  cases t with
  | nil => rfl
  | cons a r =>
    have : a ≠ 45 := fun e => h (by rw [e]; rfl)
    simp [hasPrefix, Ne.symm this]
theorem decDigits_first (n : Nat) : ∃ a r, decDigits n = a :: r ∧ 48 ≤ a.toNat ∧ a.toNat ≤ 57 := by
  have h1 := decFrom_digits n
  have h2 := decDigits_ne n
  cases h : decDigits n with
  | nil => exact absurd h h2
  | cons a r =>
    rw [h] at h1
    simp only [decFrom] at h1
    cases ha : digitVal a with
    | none => rw [ha] at h1; cases h1
    | some d => obtain ⟨q1, q2, _⟩ := digitVal_some ha; exact ⟨a, r, rfl, q1, q2⟩
theorem numU_some {sg : Bool} {u : List UInt8} {n : Int} (h : numU sg u = some n) : ∃ m : Nat, u ≠ [] ∧ u.length ≤ 18 ∧ (u.head? = some 48 → u.length = 1 ∧ sg = false) ∧ decFrom 0 u = some m ∧ m < 1000000000000000000 ∧ n = if sg then -(m : Int) else m := by
  unfold numU at h
  split at h
  · cases h
  · rename_i hc
    simp only [not_or, not_and] at hc
    obtain ⟨h1, h2, h3⟩ := hc
    cases hd : decFrom 0 u with
    | none => rw [hd] at h; cases h
    | some m =>
      rw [hd, Option.map_some, Option.some.injEq] at h
      have hlt := decFrom_lt u 0 m hd
      have hp : (10 : Nat) ^ u.length ≤ 10 ^ 18 := Nat.pow_le_pow_right (by omega) (by omega)
      have h18 : (10 : Nat) ^ 18 = 1000000000000000000 := by decide
      refine ⟨m, h1, by omega, fun hh => ?_, rfl, by omega, h.symm⟩
      have := h3 hh
      have hl : 0 < u.length := List.length_pos_iff.2 h1
      exact ⟨by omega, by cases sg <;> simp_all⟩
theorem numU_digits {sg : Bool} {m : Nat} (hl : (decDigits m).length ≤ 18) (hs : sg = true → m ≠ 0) : numU sg (decDigits m) = some (if sg then -(m : Int) else m) := by
  unfold numU
  rw [if_neg, decFrom_digits]
  · rfl
  · rintro (h | h | ⟨h, h2⟩)
    · exact decDigits_ne m h
    · omega
    · have h0 := decDigits_head m h
      subst h0
      rcases h2 with h2 | h2
      · rw [decDigits_small (by omega)] at h2; simp at h2
      · exact hs h2 rfl
theorem parseMag_of {u : List UInt8} {m : Nat} (h0 : u ≠ []) (h : decFrom 0 u = some m) (hm : m < 1000000000000000000) : parseMag u = .ok m := by
  unfold parseMag; rw [if_neg h0]; exact dec_parse u 0 m h hm
theorem numP_numQ {t : List UInt8} {n : Int} (h : numP t = some n) : atoiAll t = .ok n ∧ (trimPrefix t [45]).length ≤ 18 ∧ itoa n = t := by
  unfold numP at h
  split at h
  · rename_i hh
    obtain ⟨m, h1, h2, h3, h4, h5, rfl⟩ := numU_some h
    cases t with
    | nil => cases hh
    | cons a r =>
      simp only [List.head?_cons, Option.some.injEq] at hh
      subst hh
      simp only [List.drop_succ_cons, List.drop_zero] at h1 h2 h3 h4
      have hm1 : 1 ≤ m := by
        cases r with
        | nil => exact absurd rfl h1
        | cons b r =>
          simp only [decFrom] at h4
          cases hb : digitVal b with
          | none => rw [hb] at h4; cases h4
          | some d =>
            rw [hb] at h4
            have := decFrom_le _ _ _ h4
            obtain ⟨q1, q2, q3⟩ := digitVal_some hb
            have : d ≠ 0 := fun e0 => by
              have := (h3 (by rw [List.head?_cons]; congr 1; apply UInt8.toNat_inj.1; have h48 : (48 : UInt8).toNat = 48 := rfl; omega)).2
              cases this
            omega
      have hcan := digits_canon r.length r m rfl h1 (fun hh => (h3 hh).1) h4
      refine ⟨?_, by rw [trim_minus]; exact h2, ?_⟩
      · have h45 : (45 : UInt8).toNat = 45 := rfl
        simp only [atoiAll, h45, or_true, if_true, parseMag_of h1 h4 h5]
        rw [if_neg (by simp), if_neg (by omega)]
      · simp only [if_true]
        unfold itoa
        rw [if_pos (by omega), show (-(m : Int)).natAbs = m by omega, hcan]
  · rename_i hh
    obtain ⟨m, h1, h2, h3, h4, h5, rfl⟩ := numU_some h
    have hcan := digits_canon t.length t m rfl h1 (fun hh => (h3 hh).1) h4
    refine ⟨?_, by rw [trim_other hh]; exact h2, ?_⟩
    · cases t with
      | nil => exact absurd rfl h1
      | cons a r =>
        have ha : 48 ≤ a.toNat := by
          have h4' := h4
          simp only [decFrom] at h4'
          cases hb : digitVal a with
          | none => rw [hb] at h4'; cases h4'
          | some d => exact (digitVal_some hb).1
        have n1 : ¬ a.toNat = 43 := by omega
        have n2 : ¬ a.toNat = 45 := by omega
        simp only [atoiAll, n1, n2, or_self, if_false]
        rw [parseMag_of h1 h4 h5]
        simp
        omega
    · simp only [Bool.false_eq_true, if_false]
      unfold itoa
      rw [if_neg (by omega), Int.toNat_natCast, hcan]
theorem numQ_numP {t : List UInt8} {n : Int} (h2 : (trimPrefix t [45]).length ≤ 18) (h3 : itoa n = t) : numP t = some n := by
  unfold itoa at h3
  split at h3
  · rename_i hn
    subst h3
    rw [trim_minus] at h2
    unfold numP
    rw [if_pos (by rfl), List.drop_succ_cons, List.drop_zero, numU_digits h2 (fun _ => by omega)]
    simp; omega
  · rename_i hn
    obtain ⟨a, r, ha, q1, q2⟩ := decDigits_first n.toNat
    have hh : t.head? ≠ some 45 := fun h => by
      rw [← h3, ha, List.head?_cons, Option.some.injEq] at h
      rw [h] at q1
      have h45 : (45 : UInt8).toNat = 45 := rfl
      omega
    rw [trim_other hh] at h2
    unfold numP
    rw [if_neg hh, ← h3, numU_digits (by rw [h3]; exact h2) (fun h => by cases h)]
    simp; omega
theorem num_same (t : List UInt8) : numQ t = numP t := by
  unfold numQ
  rcases hA : atoiAll t with n | _ | _
  · simp only
    by_cases hc : (trimPrefix t [45]).length ≤ 18 ∧ itoa n = t
    · rw [if_pos hc, numQ_numP hc.1 hc.2]
    · rw [if_neg hc]
      cases hP : numP t with
      | none => rfl
      | some m =>
        obtain ⟨p1, p2, p3⟩ := numP_numQ hP
        rw [hA] at p1
        cases p1
        exact absurd ⟨p2, p3⟩ hc
  · simp only
    cases hP : numP t with
    | none => rfl
    | some m => obtain ⟨p1, _⟩ := numP_numQ hP; rw [hA] at p1; cases p1
  · simp only
    cases hP : numP t with
    | none => rfl
    | some m => obtain ⟨p1, _⟩ := numP_numQ hP; rw [hA] at p1; cases p1
end Go.Proofs.YtjibkkhgejcjeaaGreatDoor.Lg
