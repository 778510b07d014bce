/- What is told of formulas and their least models, as far as it is asked here. -/
import Derived.Test.YtlidjjjpjndneaaEp
set_option linter.unusedSimpArgs false
set_option linter.unusedVariables false
namespace Go.Proofs.Ytlidjjjpjndneaa.Lg
open Go
section
attribute [local irreducible] SRun DS DRun
variable {Γ : St} {σ : St}
end
section
attribute [local irreducible] SRun DS DRun
variable {Γ : St} {σ σ0 : St}
/-- The first place of a number, or -1. -/
def findZ (xs : List Int) (y : Int) : Int := match xs.findIdx? (· == y) with | some i => (i : Int) | none => -1
theorem findZ_in (xs : List Int) (y : Int) : -1 ≤ findZ xs y ∧ findZ xs y < xs.length := by
  unfold findZ
  cases hf : xs.findIdx? (· == y) with
  | none => simp only; omega
  | some i =>
    have := (List.findIdx?_eq_some_iff_getElem.1 hf).1
    simp only; omega
def isT (vals : List Int) (x : Int) : Bool := if x < 0 then vals.getD (-x).toNat 0 == -1 else vals.getD x.toNat 0 == 1
def setT (vals : List Int) (x : Int) : List Int := if x < 0 then vals.set (-x).toNat (-1) else vals.set x.toNat 1
theorem setT_length (vals : List Int) (x : Int) : (setT vals x).length = vals.length := by unfold setT; split <;> simp
def litOK (vars x : Int) : Prop := x ≠ 0 ∧ -vars ≤ x ∧ x ≤ vars
def unitGo (vals : List Int) : List Int → Int → Int × Bool
  | [], one => (one, one == 0)
  | x :: r, one => bif isT vals x then (0, false) else bif isT vals (-x) || x == one then unitGo vals r one else bif one != 0 then (0, false) else unitGo vals r x
def scanGo (vals : List Int) : List (List Int) → Nat → Int → Option Nat × Int
  | [], _, next => (none, next)
  | c :: r, i, next => bif (unitGo vals c 0).2 then (some i, next) else scanGo vals r (i + 1) (bif next == 0 then (unitGo vals c 0).1 else next)
def propGo (cls : List (List Int)) : Nat → List Int → List Int → List Int × Int × List Int
  | 0, vals, list => (list, -1, vals)
  | f + 1, vals, list => match scanGo vals cls 0 0 with
    | (some i, _) => (list, i, vals)
    | (none, next) => bif next == 0 then (list, -1, vals) else propGo cls f (setT vals next) (list ++ [next])
def zeros (vals : List Int) : Nat := (vals.drop 1).count 0
def tri (vals : List Int) : Prop := ∀ v ∈ vals, v = -1 ∨ v = 0 ∨ v = 1
def free (vals : List Int) (x : Int) : Prop := isT vals x = false ∧ isT vals (-x) = false
theorem unitGo_free {vals : List Int} : ∀ {xs : List Int} {one : Int}, (one = 0 ∨ free vals one) → (unitGo vals xs one).1 = 0 ∨ (free vals (unitGo vals xs one).1 ∧ ((unitGo vals xs one).1 ∈ xs ∨ (unitGo vals xs one).1 = one)) := by
  intro xs
  induction xs with
  | nil => intro one h; exact h.imp id fun h => ⟨h, .inr rfl⟩
  | cons x r ih =>
    intro one h
    simp only [unitGo]
    cases h1 : isT vals x with
    | true => exact .inl rfl
    | false =>
      simp only [cond_false]
      cases h2 : isT vals (-x) || x == one with
      | true =>
        simp only [cond_true]
        exact (ih h).imp id fun ⟨a, b⟩ => ⟨a, b.imp (fun h => by simp [h]) id⟩
      | false =>
        simp only [cond_false]
        rw [Bool.or_eq_false_iff] at h2
        cases h3 : one != 0 with
        | true => exact .inl rfl
        | false =>
          simp only [cond_false]
          exact (ih (.inr ⟨h1, h2.1⟩)).imp id fun ⟨a, b⟩ => ⟨a, .inl (by rcases b with b | b <;> simp [b])⟩
theorem scanGo_free {vals : List Int} : ∀ {cls : List (List Int)} {i : Nat} {next : Int}, (next = 0 ∨ free vals next) → (scanGo vals cls i next).2 = 0 ∨ (free vals (scanGo vals cls i next).2 ∧ ((∃ c ∈ cls, (scanGo vals cls i next).2 ∈ c) ∨ (scanGo vals cls i next).2 = next)) := by
  intro cls
  induction cls with
  | nil => intro i next h; exact h.imp id fun h => ⟨h, .inr rfl⟩
  | cons c r ih =>
    intro i next h
    simp only [scanGo]
    cases h1 : (unitGo vals c 0).2 with
    | true => exact h.imp id fun h => ⟨h, .inr rfl⟩
    | false =>
      simp only [cond_false]
      cases h2 : next == 0 with
      | false =>
        simp only [cond_false]
        exact (ih h).imp id fun ⟨a, b⟩ => ⟨a, b.imp (fun ⟨c, hc, hm⟩ => ⟨c, by simp [hc], hm⟩) id⟩
      | true =>
        simp only [cond_true]
        have hu := unitGo_free (vals := vals) (xs := c) (one := 0) (.inl rfl)
        rcases ih (i := i + 1) (hu.imp id fun ⟨a, _⟩ => a) with hr | ⟨hr1, hr2⟩
        · exact .inl hr
        · rcases hr2 with ⟨c2, hc2, hm⟩ | hr2
          · exact .inr ⟨hr1, .inl ⟨c2, by simp [hc2], hm⟩⟩
          · rcases hu with hu | ⟨hu1, hu2⟩
            · exact .inl (hr2.trans hu)
            · rcases hu2 with hu2 | hu2
              · exact .inr ⟨hr1, .inl ⟨c, by simp, by rw [hr2]; exact hu2⟩⟩
              · exact .inl (hr2.trans hu2)
/-- A variable of which nothing is known is one less then. -/
theorem free_get {vars x : Int} {vals : List Int} (hl : (vals.length : Int) = vars + 1) (ht : tri vals) (hx : litOK vars x) (hf : free vals x) : vals[x.natAbs]? = some 0 := by
  have hlt : x.natAbs < vals.length := by have := hx.2; omega
  have hg : vals[x.natAbs]? = some vals[x.natAbs] := by simp [hlt]
  rw [hg]
  have hm := ht vals[x.natAbs] (List.getElem_mem hlt)
  have h1 := hf.1; have h2 := hf.2
  unfold isT at h1 h2
  by_cases hneg : x < 0
  · rw [if_pos hneg] at h1
    rw [if_neg (by omega)] at h2
    have e : (-x).toNat = x.natAbs := by omega
    rw [e] at h1 h2
    simp only [List.getD, hg, Option.getD_some, beq_eq_false_iff_ne, ne_eq] at h1 h2
    rcases hm with h | h | h
    · exact absurd h h1
    · rw [h]
    · exact absurd h h2
  · have hpos : 0 < x := by have := hx.1; omega
    rw [if_neg hneg] at h1
    rw [if_pos (by omega)] at h2
    have e : x.toNat = x.natAbs := by omega
    have e2 : (- -x).toNat = x.natAbs := by omega
    rw [e] at h1; rw [e2] at h2
    simp only [List.getD, hg, Option.getD_some, beq_eq_false_iff_ne, ne_eq] at h1 h2
    rcases hm with h | h | h
    · exact absurd h h2
    · rw [h]
    · exact absurd h h1
theorem setT_eq (vals : List Int) (x : Int) : setT vals x = vals.set x.natAbs (if x < 0 then -1 else 1) := by
  unfold setT
  split
  · rw [show (-x).toNat = x.natAbs by omega]
  · rw [show x.toNat = x.natAbs by omega]
theorem tri_set {vals : List Int} (ht : tri vals) (x : Int) : tri (setT vals x) := by
  intro v hv
  rw [setT_eq] at hv
  rcases List.mem_or_eq_of_mem_set hv with h | h
  · exact ht v h
  · split at h <;> omega
theorem count_set {l : List Int} {i : Nat} {v : Int} (h : l[i]? = some 0) (hv : v ≠ 0) : (l.set i v).count 0 + 1 = l.count 0 := by
  induction l generalizing i with
  | nil => simp at h
  | cons a r ih =>
    cases i with
    | zero =>
      simp at h; subst h
      simp [List.count_cons, hv]
    | succ i =>
      simp at h
      have := ih h
      simp only [List.set_cons_succ, List.count_cons]
      omega
theorem zeros_set {vars x : Int} {vals : List Int} (hl : (vals.length : Int) = vars + 1) (ht : tri vals) (hx : litOK vars x) (hf : free vals x) : zeros (setT vals x) + 1 = zeros vals := by
  have hg := free_get hl ht hx hf
  rw [setT_eq]
  unfold zeros
  have h0 : x.natAbs ≠ 0 := by have := hx.1; omega
  obtain ⟨k, hk⟩ : ∃ k, x.natAbs = k + 1 := ⟨x.natAbs - 1, by omega⟩
  cases vals with
  | nil => simp at hg
  | cons a r =>
    rw [hk] at hg ⊢
    simp only [List.getElem?_cons_succ, List.set_cons_succ, List.drop_succ_cons, List.drop_zero] at hg ⊢
    exact count_set hg (by split <;> omega)
/-- The clauses of a formula of some variables. -/
def ClsOK (vars : Int) (cls : List (List Int)) : Prop := Small cls ∧ ∀ c ∈ cls, ∀ x ∈ c, litOK vars x
end
section
attribute [local irreducible] SRun DS DRun
variable {Γ : St} {σ σ0 : St}
theorem propGo_keeps {vars : Int} {cls : List (List Int)} (hc : ClsOK vars cls) : ∀ (f : Nat) (vals list : List Int), (vals.length : Int) = vars + 1 → tri vals → (propGo cls f vals list).2.2.length = vals.length ∧ tri (propGo cls f vals list).2.2 ∧ zeros (propGo cls f vals list).2.2 ≤ zeros vals := by
  intro f
  induction f with
  | zero => intro vals list _ ht; exact ⟨rfl, ht, Nat.le_refl _⟩
  | succ f ih =>
    intro vals list hl ht
    have hfr := scanGo_free (vals := vals) (cls := cls) (i := 0) (next := 0) (.inl rfl)
    simp only [propGo]
    generalize scanGo vals cls 0 0 = q at hfr
    obtain ⟨o, next⟩ := q
    cases o with
    | some i => exact ⟨rfl, ht, Nat.le_refl _⟩
    | none =>
      simp only
      cases hd : next == 0 with
      | true => exact ⟨rfl, ht, Nat.le_refl _⟩
      | false =>
        simp only [cond_false]
        have hne : next ≠ 0 := by simpa using hd
        obtain ⟨hf, hin⟩ := hfr.resolve_left hne
        obtain ⟨c, hcm, hnm⟩ := hin.resolve_right hne
        have hlo := hc.2 c hcm next hnm
        have hz := zeros_set hl ht hlo hf
        obtain ⟨h1, h2, h3⟩ := ih (setT vals next) (list ++ [next]) (by rw [setT_length]; exact hl) (tri_set ht _)
        exact ⟨h1.trans (setT_length _ _), h2, by omega⟩
def solveP (cls : List (List Int)) : Nat → List Int → Option (List Int)
  | 0, _ => none
  | f + 1, vals =>
    bif decide ((propGo cls (zeros vals + 1) vals []).2.1 ≥ 0) then none else
    bif findZ ((propGo cls (zeros vals + 1) vals []).2.2.drop 1) 0 + 1 == 0 then some (propGo cls (zeros vals + 1) vals []).2.2 else
    match solveP cls f (setT (propGo cls (zeros vals + 1) vals []).2.2 (-(findZ ((propGo cls (zeros vals + 1) vals []).2.2.drop 1) 0 + 1))) with
    | some r => some r
    | none => solveP cls f (setT (propGo cls (zeros vals + 1) vals []).2.2 (findZ ((propGo cls (zeros vals + 1) vals []).2.2.drop 1) 0 + 1))
theorem findZ_get {vals : List Int} {vars : Int} (hl : (vals.length : Int) = vars + 1) (h : findZ (vals.drop 1) 0 + 1 ≠ 0) : litOK vars (findZ (vals.drop 1) 0 + 1) ∧ vals[(findZ (vals.drop 1) 0 + 1).natAbs]? = some 0 ∧ free vals (findZ (vals.drop 1) 0 + 1) ∧ free vals (-(findZ (vals.drop 1) 0 + 1)) := by
  have hin := findZ_in (vals.drop 1) 0
  have hg : vals[(findZ (vals.drop 1) 0 + 1).natAbs]? = some 0 := by
    unfold findZ at h ⊢
    cases hf : (vals.drop 1).findIdx? (· == 0) with
    | none => rw [hf] at h; exact absurd rfl h
    | some i =>
      simp only
      obtain ⟨h1, h2, _⟩ := List.findIdx?_eq_some_iff_getElem.1 hf
      have h3 : (vals.drop 1)[i]? = some 0 := by
        rw [List.getElem?_eq_getElem h1]
        exact congrArg some (by simpa using h2)
      rw [List.getElem?_drop] at h3
      rw [show ((i : Int) + 1).natAbs = 1 + i by omega]
      exact h3
  generalize hv : findZ (vals.drop 1) 0 + 1 = v at h hg ⊢
  have hvl : v ≤ vars := by simp only [List.length_drop] at hin; omega
  have hfree : free vals v := by
    unfold free isT
    have hp : 0 < v := by omega
    have e1 : v.toNat = v.natAbs := by omega
    have e2 : (- -v).toNat = v.natAbs := by omega
    rw [if_neg (by omega), if_pos (by omega), e1, e2]
    simp [List.getD, hg]
  exact ⟨⟨h, by omega, hvl⟩, hg, hfree, hfree.2, by rw [Int.neg_neg]; exact hfree.1⟩
end
section
attribute [local irreducible] SRun DS DRun
variable {Γ : St} {σ σ0 : St}
theorem solveP_len {vars : Int} {cls : List (List Int)} (hc : ClsOK vars cls) : ∀ (fu : Nat) (vals v : List Int), (vals.length : Int) = vars + 1 → tri vals → solveP cls fu vals = some v → v.length = vals.length ∧ tri v := by
  intro fu
  induction fu with
  | zero => intro vals v _ _ h; simp [solveP] at h
  | succ fu ih =>
    intro vals v hl ht h
    obtain ⟨k1, k2, k3⟩ := propGo_keeps hc (zeros vals + 1) vals [] hl ht
    simp only [solveP] at h
    generalize propGo cls (zeros vals + 1) vals [] = R at k1 k2 k3 h
    have hl2 : (R.2.2.length : Int) = vars + 1 := by rw [k1]; exact hl
    cases hq : decide (R.2.1 ≥ 0) with
    | true => rw [hq] at h; simp at h
    | false =>
      rw [hq] at h
      simp only [cond_false] at h
      cases hd : findZ (R.2.2.drop 1) 0 + 1 == 0 with
      | true => rw [hd] at h; simp only [cond_true, Option.some.injEq] at h; subst h; exact ⟨k1, k2⟩
      | false =>
        rw [hd] at h
        simp only [cond_false] at h
        split at h
        · rename_i r hr
          obtain rfl := Option.some.inj h
          obtain ⟨a1, a2⟩ := ih _ _ (by rw [setT_length]; exact hl2) (tri_set k2 _) hr
          exact ⟨a1.trans ((setT_length _ _).trans k1), a2⟩
        · obtain ⟨a1, a2⟩ := ih _ _ (by rw [setT_length]; exact hl2) (tri_set k2 _) h
          exact ⟨a1.trans ((setT_length _ _).trans k1), a2⟩
def zeroVals (vars : Int) : List Int := List.replicate (vars + 1).toNat 0
def modelP (vars : Int) (cls : List (List Int)) : Option (List Int) := solveP cls (vars.toNat + 2) (zeroVals vars)
/-- What is known, as values. -/
def valsB (v : List Int) : List Bool := (v.drop 1).map (· == 1)
end
section
attribute [local irreducible] SRun DS DRun
variable {Γ : St} {σ σ0 : St}
theorem litB_iff {vars x : Int} : litB vars x = true ↔ litOK vars x := by simp [litB, litOK]
theorem clsOK_of {vars : Int} {cls : List (List Int)} (h : cnfB vars cls = true) : ClsOK vars cls ∧ 0 ≤ vars ∧ vars ≤ 40 ∧ cls.length ≤ 300 := by
  simp only [cnfB, Bool.and_eq_true, decide_eq_true_eq, List.all_eq_true, clauseB] at h
  exact ⟨⟨⟨by omega, fun c hc => by have := (h.2 c hc).1; omega⟩, fun c hc x hx => litB_iff.1 ((h.2 c hc).2 x hx)⟩, h.1.1.1, h.1.1.2, h.1.2⟩
end
section
attribute [local irreducible] SRun DS DRun
variable {Γ : St} {σ σ0 : St}
theorem l01Abs_ok {x : Int} (hx : -1000000 ≤ x ∧ x ≤ 1000000) : Ret Try.prog Γ 222 [.int .i64 x] σ (.int .i64 x.natAbs) σ := by
  refine ret_of c222_ok rfl ?_
  have w1 := wrap64 (a := 0 - x) (by omega) (by omega)
  simp only [c222, w1, go_sem, stepW_iaddr_isl, stepW_iaddr_msl, stepW_idxs, stepK_iaddr_isl, stepK_iaddr_msl, stepK_idxs, ne_eq, ↓reduceIte]
  refine W_retR c222_ok rfl ⟨?_, rfl⟩
  simp only [look, ↓reduceIte, V.int.injEq, true_and]
  split <;> omega
theorem all_take {α : Type} {p : α → Bool} {xs : List α} {i : Nat} {x : α} (h : (xs.take i).all p = true) (hx : xs[i]? = some x) (hp : p x = true) : (xs.take (i + 1)).all p = true := by
  rw [List.take_add_one, hx]
  simp only [Option.toList_some, List.all_append, List.all_cons, List.all_nil, Bool.and_true, h, hp, Bool.and_self]
theorem all_false {α : Type} {p : α → Bool} {xs : List α} {i : Nat} {x : α} (hx : xs[i]? = some x) (hp : p x = false) : xs.all p = false := by
  rw [List.all_eq_false]
  exact ⟨x, List.mem_of_getElem? hx, by simp [hp]⟩
theorem l01Clause_ok {ex : Bool} {xs : List Int} {vars : Int} (hl : xs.length ≤ 1000000) (hv : 0 ≤ vars ∧ vars ≤ 1000000) : Ret Try.prog Γ 165 [.isl ex 1 (ints xs), .int .i64 vars] σ (.bool (clauseB vars xs)) σ := by
  refine ret_of c165_ok rfl ?_
  simp only [c165, ints_len, go_sem, stepW_iaddr_isl, stepW_iaddr_msl, stepW_idxs, stepK_iaddr_isl, stepK_iaddr_msl, stepK_idxs, ne_eq, ↓reduceIte]
  refine iteW_of (fun h => ?_) (fun h => ?_)
  · have h' := of_decide_eq_true h
    simp only [go_sem, stepW_iaddr_isl, stepW_iaddr_msl, stepW_idxs, stepK_iaddr_isl, stepK_iaddr_msl, stepK_idxs, ne_eq, ↓reduceIte]
    refine W_retR c165_ok rfl ⟨?_, rfl⟩
    have : decide (xs.length ≤ 12) = false := decide_eq_false (by omega)
    simp only [look, ↓reduceIte, clauseB, this, Bool.false_and]
  · have h' := of_decide_eq_false h
    have h12 : decide (xs.length ≤ 12) = true := decide_eq_true (by omega)
    simp only [go_sem, stepW_iaddr_isl, stepW_iaddr_msl, stepW_idxs, stepK_iaddr_isl, stepK_iaddr_msl, stepK_idxs, ne_eq, ↓reduceIte]
    refine W_loopR (fun m T σ' => ∃ i : Nat, i + m = xs.length ∧ look T 0 = .isl ex 1 (ints xs) ∧ look T 1 = .int .i64 vars ∧ look T 5 = .int .i64 i ∧ σ' = σ ∧ (xs.take i).all (litB vars) = true) xs.length ?_ ?_
    · exact ⟨0, by omega, rfl, rfl, rfl, rfl, rfl⟩
    · rintro m T σ' ih ⟨i, hm, h0, h1, h5, rfl, hall⟩
      simp only [h0, h1, h5, ints_len, go_sem, stepW_iaddr_isl, stepW_iaddr_msl, stepW_idxs, stepK_iaddr_isl, stepK_iaddr_msl, stepK_idxs, ne_eq, ↓reduceIte]
      refine iteW_of (fun hq => ?_) (fun hq => ?_)
      · have hq' := of_decide_eq_true hq
        have hlt : i < xs.length := by omega
        have hxi : xs[i]? = some xs[i] := by simp [hlt]
        generalize xs[i] = x at hxi
        have hget := ints_get hxi
        have w1 := wrap64 (a := (i : Int) + 1) (by omega) (by omega)
        have w2 := wrap64 (a := 0 - vars) (by omega) (by omega)
        have c3 : (0 : Int) ≤ (i : Int) := by omega
        simp only [h0, h1, h5, hget, c3, Int.toNat_natCast, go_sem, stepW_iaddr_isl, stepW_iaddr_msl, stepW_idxs, stepK_iaddr_isl, stepK_iaddr_msl, stepK_idxs, ne_eq, ↓reduceIte]
        have done : litB vars x = true → ∀ T, look T 0 = .isl ex 1 (ints xs) → True := fun _ _ _ => trivial
        refine guardW_of (fun hg => ?_) (fun hg => ?_)
        · simp only [hg, go_sem, stepW_iaddr_isl, stepW_iaddr_msl, stepW_idxs, stepK_iaddr_isl, stepK_iaddr_msl, stepK_idxs, ne_eq, ↓reduceIte]
          refine W_retR c165_ok rfl ⟨?_, rfl⟩
          have hx0 : x = 0 := by simpa using hg
          simp only [look, ↓reduceIte, clauseB, all_false hxi (show litB vars x = false by simp [litB, hx0]), Bool.and_false]
        · simp only [hg, h0, h1, h5, hget, c3, w2, Int.toNat_natCast, go_sem, stepW_iaddr_isl, stepW_iaddr_msl, stepW_idxs, stepK_iaddr_isl, stepK_iaddr_msl, stepK_idxs, ne_eq, ↓reduceIte]
          refine SRun.callR (l01In_ok _ _ _) ⟨[], rfl, rfl⟩ (by simp only [guardV, go_sem, stepW_iaddr_isl, stepW_iaddr_msl, stepW_idxs, stepK_iaddr_isl, stepK_iaddr_msl, stepK_idxs, ne_eq, ↓reduceIte, hg]; rfl) ?_
          simp only [hg, go_sem, stepW_iaddr_isl, stepW_iaddr_msl, stepW_idxs, stepK_iaddr_isl, stepK_iaddr_msl, stepK_idxs, ne_eq, ↓reduceIte]
          have hx0 : x ≠ 0 := by simpa using hg
          have hneg : (0 : Int) - vars = -vars := by omega
          simp only [hneg]
          have hlit : litB vars x = (decide (-vars ≤ x) && decide (x ≤ vars)) := by simp [litB, hx0]
          refine iteW_of (fun hb => ?_) (fun hb => ?_)
          · simp only [go_sem, stepW_iaddr_isl, stepW_iaddr_msl, stepW_idxs, stepK_iaddr_isl, stepK_iaddr_msl, stepK_idxs, ne_eq, ↓reduceIte]
            refine W_retR c165_ok rfl ⟨?_, rfl⟩
            have : litB vars x = false := by rw [hlit]; generalize (decide (-vars ≤ x) && decide (x ≤ vars)) = q at hb; cases q <;> simp_all
            simp only [look, ↓reduceIte, clauseB, all_false hxi this, Bool.and_false]
          · simp only [h5, w1, go_sem, stepW_iaddr_isl, stepW_iaddr_msl, stepW_idxs, stepK_iaddr_isl, stepK_iaddr_msl, stepK_idxs, ne_eq, ↓reduceIte]
            have : litB vars x = true := by rw [hlit]; generalize (decide (-vars ≤ x) && decide (x ≤ vars)) = q at hb; cases q <;> simp_all
            refine ih (m - 1) _ _ (by omega) ⟨i + 1, by omega, ?_, ?_, rfl, rfl, all_take hall hxi this⟩
            · simp only [go_sem, stepW_iaddr_isl, stepW_iaddr_msl, stepW_idxs, stepK_iaddr_isl, stepK_iaddr_msl, stepK_idxs, ne_eq, ↓reduceIte]; exact h0
            · simp only [go_sem, stepW_iaddr_isl, stepW_iaddr_msl, stepW_idxs, stepK_iaddr_isl, stepK_iaddr_msl, stepK_idxs, ne_eq, ↓reduceIte]; exact h1
      · have hq' := of_decide_eq_false hq
        simp only [go_sem, stepW_iaddr_isl, stepW_iaddr_msl, stepW_idxs, stepK_iaddr_isl, stepK_iaddr_msl, stepK_idxs, ne_eq, ↓reduceIte]
        refine W_retR c165_ok rfl ⟨?_, rfl⟩
        rw [List.take_of_length_le (by omega)] at hall
        simp only [look, ↓reduceIte, clauseB, h12, hall, Bool.and_self]
/-- Of formulas that are right: the other answers are not asked here. -/
theorem cnfOK_ok {cls : List (List Int)} {vars : Int} (hb : cnfB vars cls = true) : Ret Try.prog Γ 88 [cnfV vars cls] σ (.bool true) σ := by
  obtain ⟨hc, hv0, hv40, hcl⟩ := clsOK_of hb
  refine ret_of c88_ok rfl ?_
  simp only [c88, cnfV, go_sem, stepW_iaddr_isl, stepW_iaddr_msl, stepW_idxs, stepK_iaddr_isl, stepK_iaddr_msl, stepK_idxs, ne_eq, ↓reduceIte]
  refine SRun.boxR (by simp [ev, look, V.cells, V.one]) ?_
  intro b1 hb1
  simp only [go_sem, stepW_iaddr_isl, stepW_iaddr_msl, stepW_idxs, stepK_iaddr_isl, stepK_iaddr_msl, stepK_idxs, ne_eq, ↓reduceIte]
  refine SRun.callR (l01In_ok _ _ _) ⟨[], rfl, rfl⟩ rfl ?_
  have e1 : (decide ((0 : Int) ≤ vars) && decide (vars ≤ 40)) = true := by simp [hv0, hv40]
  have e2 : decide ((cls.length : Int) > 300) = false := decide_eq_false (by omega)
  simp only [e1, e2, clsV_len, go_sem, stepW_iaddr_isl, stepW_iaddr_msl, stepW_idxs, stepK_iaddr_isl, stepK_iaddr_msl, stepK_idxs, ne_eq, ↓reduceIte]
  refine W_loopR (fun m T σ' => ∃ i : Nat, i + m = cls.length ∧ look T 1 = .ptr b1 0 ∧ look T 3 = .int .i64 i ∧ σ' = upd σ b1 [.int .i64 vars, .isl false 1 (clsV cls)]) cls.length ?_ ?_
  · exact ⟨0, by omega, rfl, rfl, rfl⟩
  · rintro m T σ' ih ⟨i, hm, h1, h3, rfl⟩
    simp only [h1, h3, clsV_len, go_sem, stepW_iaddr_isl, stepW_iaddr_msl, stepW_idxs, stepK_iaddr_isl, stepK_iaddr_msl, stepK_idxs, ne_eq, ↓reduceIte]
    refine iteW_of (fun hq => ?_) (fun hq => ?_)
    · have hq' := of_decide_eq_true hq
      have hlt : i < cls.length := by omega
      have hget : (clsV cls)[i]? = some (.isl false 1 (ints cls[i])) := by simp [clsV, intsV, hlt]
      have hmem := List.getElem_mem hlt
      have hcB : clauseB vars cls[i] = true := by
        simp only [cnfB, Bool.and_eq_true, List.all_eq_true] at hb
        exact hb.2 _ hmem
      have hsm := hc.1.2 _ hmem
      generalize cls[i] = c at hget hcB hsm
      have w1 := wrap64 (a := (i : Int) + 1) (by omega) (by omega)
      have c3 : (0 : Int) ≤ (i : Int) := by omega
      simp only [go_sem, stepW_iaddr_isl, stepW_iaddr_msl, stepW_idxs, stepK_iaddr_isl, stepK_iaddr_msl, stepK_idxs, ne_eq, ↓reduceIte]
      refine W_drawW ?_
      simp only [h1, h3, hget, c3, Int.toNat_natCast, go_sem, stepW_iaddr_isl, stepW_iaddr_msl, stepW_idxs, stepK_iaddr_isl, stepK_iaddr_msl, stepK_idxs, ne_eq, ↓reduceIte]
      refine DRun.callQ (l01Clause_ok hsm (by omega)) ⟨[], rfl, rfl⟩ ?_
      rintro r s ⟨rfl, rfl⟩
      simp only [hcB, go_sem, stepW_iaddr_isl, stepW_iaddr_msl, stepW_idxs, stepK_iaddr_isl, stepK_iaddr_msl, stepK_idxs, ne_eq, ↓reduceIte]
      simp only [h3, w1, go_sem, stepW_iaddr_isl, stepW_iaddr_msl, stepW_idxs, stepK_iaddr_isl, stepK_iaddr_msl, stepK_idxs, ne_eq, ↓reduceIte]
      refine ih (m - 1) _ _ (by omega) ⟨i + 1, by omega, ?_, rfl, rfl⟩
      simp only [go_sem, stepW_iaddr_isl, stepW_iaddr_msl, stepW_idxs, stepK_iaddr_isl, stepK_iaddr_msl, stepK_idxs, ne_eq, ↓reduceIte]; exact h1
    · simp only [go_sem, stepW_iaddr_isl, stepW_iaddr_msl, stepW_idxs, stepK_iaddr_isl, stepK_iaddr_msl, stepK_idxs, ne_eq, ↓reduceIte]
      exact W_retC c88_ok rfl (Conv.drop _ (le_upd hb1)) ⟨rfl, rfl⟩
def litV (bs : List Bool) (x : Int) : Bool := bs.getD (x.natAbs - 1) false == decide (x > 0)
def evalB (cls : List (List Int)) (bs : List Bool) : Bool := cls.all fun c => c.any (litV bs)
end
section
attribute [local irreducible] SRun DS DRun
variable {Γ : St} {σ σ0 : St}
end
section
theorem litV_neg {bs : List Bool} {x : Int} (h : x ≠ 0) : litV bs (-x) = !litV bs x := by
  unfold litV
  rw [Int.natAbs_neg]
  by_cases hx : x > 0
  · rw [decide_eq_true hx, decide_eq_false (by omega)]
    cases bs.getD (x.natAbs - 1) false <;> rfl
  · rw [decide_eq_false hx, decide_eq_true (by omega)]
    cases bs.getD (x.natAbs - 1) false <;> rfl
/-- Values in which all that is known is so. -/
def agrees (vars : Int) (vals : List Int) (bs : List Bool) : Prop := ∀ x, litOK vars x → isT vals x = true → litV bs x = true
theorem litOK_neg {vars x : Int} (h : litOK vars x) : litOK vars (-x) := ⟨by have := h.1; omega, by have := h.2; omega⟩
theorem agrees_false {vars : Int} {vals : List Int} {bs : List Bool} (ha : agrees vars vals bs) {x : Int} (hx : litOK vars x) (h : isT vals (-x) = true) : litV bs x = false := by
  have := ha (-x) (litOK_neg hx) h
  rw [litV_neg hx.1] at this
  simpa using this
theorem isT_val {vals : List Int} {x : Int} (h : x ≠ 0) : isT vals x = (vals.getD x.natAbs 0 == if x < 0 then -1 else 1) := by
  unfold isT
  split
  · rw [show (-x).toNat = x.natAbs by omega]
  · rw [show x.toNat = x.natAbs by omega]
theorem isT_setT {vars : Int} {vals : List Int} {x y : Int} (hl : (vals.length : Int) = vars + 1) (hx : litOK vars x) (hy : litOK vars y) : isT (setT vals y) x = if x = y then true else if x = -y then false else isT vals x := by
  have hylt : y.natAbs < vals.length := by have := hy.2; omega
  rw [isT_val hx.1, isT_val hx.1, setT_eq]
  by_cases h : y.natAbs = x.natAbs
  · have hg : (vals.set y.natAbs (if y < 0 then -1 else 1)).getD x.natAbs 0 = if y < 0 then -1 else 1 := by
      rw [← h]; simp [List.getD, hylt]
    rw [hg]
    by_cases hxy : x = y
    · subst hxy; simp
    · have hxn : x = -y := by omega
      rw [if_neg hxy, if_pos hxn]
      have := hy.1
      by_cases hyn : y < 0
      · rw [if_pos hyn, if_neg (by omega)]; rfl
      · rw [if_neg hyn, if_pos (by omega)]; rfl
  · have hg : (vals.set y.natAbs (if y < 0 then -1 else 1)).getD x.natAbs 0 = vals.getD x.natAbs 0 := by
      simp [List.getD, List.getElem?_set_ne h]
    have n1 : ¬ x = y := fun e => h (by rw [e])
    have n2 : ¬ x = -y := fun e => h (by rw [e, Int.natAbs_neg])
    rw [if_neg n1, if_neg n2, hg]
theorem isT_zero {vars x : Int} (hx : litOK vars x) : isT (zeroVals vars) x = false := by
  rw [isT_val hx.1]
  have : (zeroVals vars).getD x.natAbs 0 = 0 := by
    unfold zeroVals
    rw [List.getD_eq_getElem?_getD, List.getElem?_replicate]
    split <;> rfl
  rw [this]
  split <;> rfl
theorem unit_false {vals : List Int} : ∀ {c : List Int} {one : Int}, (∀ x ∈ c, x ≠ 0) → (unitGo vals c one).2 = true → one = 0 ∧ ∀ x ∈ c, isT vals (-x) = true := by
  intro c
  induction c with
  | nil => intro one _ h; simp [unitGo] at h; exact ⟨h, fun x hx => by cases hx⟩
  | cons x r ih =>
    intro one hne h
    simp only [unitGo] at h
    cases h1 : isT vals x with
    | true => rw [h1] at h; simp at h
    | false =>
      rw [h1] at h
      simp only [cond_false] at h
      cases h2 : (isT vals (-x) || x == one) with
      | true =>
        rw [h2] at h
        simp only [cond_true] at h
        obtain ⟨a, b⟩ := ih (fun y hy => hne y (by simp [hy])) h
        refine ⟨a, fun y hy => ?_⟩
        rcases List.mem_cons.1 hy with rfl | hy
        · have hx0 := hne y (by simp)
          rw [a] at h2
          simpa [hx0] using h2
        · exact b y hy
      | false =>
        rw [h2] at h
        simp only [cond_false] at h
        cases h3 : one != 0 with
        | true => rw [h3] at h; simp at h
        | false =>
          rw [h3] at h
          simp only [cond_false] at h
          have := (ih (fun y hy => hne y (by simp [hy])) h).1
          exact absurd this (hne x (by simp))
theorem unit_one {vals : List Int} : ∀ {c : List Int} {one : Int}, (∀ x ∈ c, x ≠ 0) → (unitGo vals c one).1 ≠ 0 → (one = 0 ∨ one = (unitGo vals c one).1) ∧ ∀ x ∈ c, isT vals (-x) = true ∨ x = (unitGo vals c one).1 := by
  intro c
  induction c with
  | nil => intro one _ h; exact ⟨.inr rfl, fun x hx => by cases hx⟩
  | cons x r ih =>
    intro one hne h
    have hx0 := hne x (by simp)
    have hne' : ∀ y ∈ r, y ≠ 0 := fun y hy => hne y (by simp [hy])
    simp only [unitGo] at h ⊢
    cases h1 : isT vals x with
    | true => rw [h1] at h; simp at h
    | false =>
      rw [h1] at h
      simp only [cond_false] at h ⊢
      cases h2 : (isT vals (-x) || x == one) with
      | true =>
        rw [h2] at h
        simp only [cond_true] at h ⊢
        obtain ⟨a, b⟩ := ih hne' h
        refine ⟨a, fun y hy => ?_⟩
        rcases List.mem_cons.1 hy with rfl | hy
        · rw [Bool.or_eq_true] at h2
          rcases h2 with h3 | h3
          · exact .inl h3
          · have h3 : y = one := by simpa using h3
            rcases a with a | a
            · exact absurd (h3.trans a) hx0
            · exact .inr (h3.trans a)
        · exact b y hy
      | false =>
        rw [h2] at h
        simp only [cond_false] at h ⊢
        cases h3 : one != 0 with
        | true => rw [h3] at h; simp at h
        | false =>
          rw [h3] at h
          simp only [cond_false] at h ⊢
          obtain ⟨a, b⟩ := ih hne' h
          refine ⟨.inl (by simpa using h3), fun y hy => ?_⟩
          rcases List.mem_cons.1 hy with rfl | hy
          · exact .inr (a.resolve_left hx0)
          · exact b y hy
/-- Of every variable it is known. -/
def total (vars : Int) (vals : List Int) : Prop := ∀ x, litOK vars x → isT vals x = true ∨ isT vals (-x) = true
theorem unit_total {vars : Int} {vals : List Int} (ht : total vars vals) : ∀ {c : List Int}, (∀ x ∈ c, litOK vars x) → (unitGo vals c 0).2 = false → ∃ x ∈ c, isT vals x = true := by
  intro c
  induction c with
  | nil => intro _ h; simp [unitGo] at h
  | cons x r ih =>
    intro hlit h
    have hx := hlit x (by simp)
    cases h1 : isT vals x with
    | true => exact ⟨x, by simp, h1⟩
    | false =>
      have h2 : isT vals (-x) = true := (ht x hx).resolve_left (by simp [h1])
      simp only [unitGo, h1, h2, cond_false, Bool.true_or, cond_true] at h
      obtain ⟨y, hy, hyt⟩ := ih (fun y hy => hlit y (by simp [hy])) h
      exact ⟨y, by simp [hy], hyt⟩
theorem scan_some {vals : List Int} : ∀ {cls : List (List Int)} {i : Nat} {next : Int} {j : Nat}, (scanGo vals cls i next).1 = some j → ∃ c ∈ cls, (unitGo vals c 0).2 = true := by
  intro cls
  induction cls with
  | nil => intro i next j h; simp [scanGo] at h
  | cons c r ih =>
    intro i next j h
    simp only [scanGo] at h
    cases h1 : (unitGo vals c 0).2 with
    | true => exact ⟨c, by simp, h1⟩
    | false =>
      rw [h1] at h
      obtain ⟨c2, hc2, h2⟩ := ih h
      exact ⟨c2, by simp [hc2], h2⟩
theorem scan_none {vals : List Int} : ∀ {cls : List (List Int)} {i : Nat} {next : Int}, (scanGo vals cls i next).1 = none → (∀ c ∈ cls, (unitGo vals c 0).2 = false) ∧ ((scanGo vals cls i next).2 = next ∨ ∃ c ∈ cls, (unitGo vals c 0).1 = (scanGo vals cls i next).2) := by
  intro cls
  induction cls with
  | nil => intro i next _; exact ⟨fun c hc => (by cases hc), .inl rfl⟩
  | cons c r ih =>
    intro i next h
    simp only [scanGo] at h ⊢
    cases h1 : (unitGo vals c 0).2 with
    | true => rw [h1] at h; simp at h
    | false =>
      rw [h1] at h
      simp only [cond_false] at h ⊢
      obtain ⟨a, b⟩ := ih h
      refine ⟨fun c2 hc2 => ?_, ?_⟩
      · rcases List.mem_cons.1 hc2 with rfl | hc2
        · exact h1
        · exact a c2 hc2
      · rcases b with b | ⟨c2, hc2, b⟩
        · cases hn : next == 0 with
          | true => rw [hn] at b; exact .inr ⟨c, by simp, b.symm⟩
          | false => rw [hn] at b; exact .inl b
        · exact .inr ⟨c2, by simp [hc2], b⟩
theorem eval_mem {cls : List (List Int)} {bs : List Bool} (h : evalB cls bs = true) {c : List Int} (hc : c ∈ cls) : ∃ x ∈ c, litV bs x = true := by
  simp only [evalB, List.all_eq_true, List.any_eq_true] at h
  exact h c hc
/-- What follows is so. -/
theorem propGo_spec {vars : Int} {cls : List (List Int)} (hc : ClsOK vars cls) : ∀ (f : Nat) (vals list : List Int), zeros vals < f → (vals.length : Int) = vars + 1 → tri vals →
    (∀ x, litOK vars x → isT vals x = true → isT (propGo cls f vals list).2.2 x = true) ∧
    (∀ bs, agrees vars vals bs → evalB cls bs = true → (propGo cls f vals list).2.1 < 0 ∧ agrees vars (propGo cls f vals list).2.2 bs) ∧
    ((propGo cls f vals list).2.1 < 0 → ∀ c ∈ cls, (unitGo (propGo cls f vals list).2.2 c 0).2 = false) := by
  intro f
  induction f with
  | zero => intro vals list h; omega
  | succ f ih =>
    intro vals list hz hl ht
    have hfr := scanGo_free (vals := vals) (cls := cls) (i := 0) (next := 0) (.inl rfl)
    have hs1 := fun j => scan_some (vals := vals) (cls := cls) (i := 0) (next := 0) (j := j)
    have hs2 := scan_none (vals := vals) (cls := cls) (i := 0) (next := 0)
    simp only [propGo]
    generalize scanGo vals cls 0 0 = q at hfr hs1 hs2
    obtain ⟨o, next⟩ := q
    cases o with
    | some i =>
      refine ⟨fun x _ h => h, fun bs ha he => ?_, fun h => by simp only at h; omega⟩
      exfalso
      obtain ⟨c, hcm, hu⟩ := hs1 i rfl
      obtain ⟨x, hx, hxt⟩ := eval_mem he hcm
      have hlit := hc.2 c hcm x hx
      have := agrees_false ha hlit ((unit_false (fun y hy => (hc.2 c hcm y hy).1) hu).2 x hx)
      rw [this] at hxt; cases hxt
    | none =>
      simp only
      obtain ⟨hall, hnx⟩ := hs2 rfl
      cases hd : next == 0 with
      | true => exact ⟨fun x _ h => h, fun bs ha he => ⟨by simp only [cond_true]; omega, ha⟩, fun _ => hall⟩
      | false =>
        simp only [cond_false]
        have hne : next ≠ 0 := by simpa using hd
        obtain ⟨hf, hin⟩ := hfr.resolve_left hne
        obtain ⟨c0, hcm0, hnm⟩ := hin.resolve_right hne
        have hlo := hc.2 c0 hcm0 next hnm
        have hzs := zeros_set hl ht hlo hf
        obtain ⟨i1, i2, i3⟩ := ih (setT vals next) (list ++ [next]) (by omega) (by rw [setT_length]; exact hl) (tri_set ht _)
        refine ⟨fun x hx h => i1 x hx ?_, fun bs ha he => i2 bs ?_ he, i3⟩
        · rw [isT_setT hl hx hlo]
          split
          · rfl
          · rename_i hxy
            split
            · rename_i hxn; subst hxn; rw [hf.2] at h; exact h
            · exact h
        · have hnt : litV bs next = true := by
            obtain ⟨c, hcm, hu⟩ := hnx.resolve_left hne
            simp only at hu
            obtain ⟨x, hx, hxt⟩ := eval_mem he hcm
            rcases (unit_one (fun y hy => (hc.2 c hcm y hy).1) (by rw [hu]; exact hne)).2 x hx with h | h
            · rw [agrees_false ha (hc.2 c hcm x hx) h] at hxt; cases hxt
            · rw [← hu, ← h]; exact hxt
          intro x hx hxt
          rw [isT_setT hl hx hlo] at hxt
          split at hxt
          · rename_i e; rw [e]; exact hnt
          · split at hxt
            · cases hxt
            · exact ha x hx hxt
theorem findZ_total {vars : Int} {vals : List Int} (hl : (vals.length : Int) = vars + 1) (ht : tri vals) (h : findZ (vals.drop 1) 0 + 1 = 0) : total vars vals := by
  intro x hx
  have hn : (vals.drop 1).findIdx? (· == 0) = none := by
    unfold findZ at h
    cases hf : (vals.drop 1).findIdx? (· == 0) with
    | none => rfl
    | some i => rw [hf] at h; simp only at h; omega
  rw [List.findIdx?_eq_none_iff] at hn
  have hlt : x.natAbs < vals.length := by have := hx.2; omega
  have h0 : x.natAbs ≠ 0 := by have := hx.1; omega
  have hg : vals[x.natAbs]? = some vals[x.natAbs] := by simp [hlt]
  have hm : vals[x.natAbs] ∈ vals.drop 1 := by
    have : (vals.drop 1)[x.natAbs - 1]? = some vals[x.natAbs] := by rw [List.getElem?_drop, show 1 + (x.natAbs - 1) = x.natAbs by omega]; exact hg
    exact List.mem_of_getElem? this
  have hne := hn _ hm
  have htr := ht _ (List.getElem_mem hlt)
  have e : vals.getD x.natAbs 0 = vals[x.natAbs] := by simp [List.getD, hlt]
  rw [isT_val hx.1, isT_val (litOK_neg hx).1, Int.natAbs_neg, e]
  have hx0 := hx.1
  rcases htr with h | h | h
  · by_cases hneg : x < 0
    · left; rw [if_pos hneg, h]; rfl
    · right; rw [if_pos (by omega), h]; rfl
  · rw [h] at hne; simp at hne
  · by_cases hneg : x < 0
    · right; rw [if_neg (by omega), h]; rfl
    · left; rw [if_neg hneg, h]; rfl
theorem litV_valsB {vars : Int} {vals : List Int} (hl : (vals.length : Int) = vars + 1) (ht : total vars vals) {x : Int} (hx : litOK vars x) : litV (valsB vals) x = isT vals x := by
  have hx0 := hx.1
  have hlt : x.natAbs < vals.length := by have := hx.2; omega
  have hb : (valsB vals).getD (x.natAbs - 1) false = (vals.getD x.natAbs 0 == 1) := by
    have : x.natAbs - 1 + 1 = x.natAbs := by omega
    simp [valsB, List.getD, this, hlt]
  unfold litV
  rw [hb, isT_val hx0]
  have h2 := ht x hx
  rw [isT_val hx0, isT_val (litOK_neg hx).1, Int.natAbs_neg] at h2
  generalize vals.getD x.natAbs 0 = v at h2 ⊢
  by_cases hneg : x < 0
  · rw [if_pos hneg] at h2 ⊢
    rw [if_neg (by omega)] at h2
    rw [decide_eq_false (by omega : ¬ x > 0)]
    rcases h2 with h2 | h2
    · have : v = -1 := by simpa using h2
      subst this; rfl
    · have : v = 1 := by simpa using h2
      subst this; rfl
  · rw [if_neg hneg] at h2 ⊢
    rw [decide_eq_true (by omega : x > 0)]
    cases v == 1 <;> rfl
/-- By cases: a model is found just when there is one. -/
theorem solveP_spec {vars : Int} {cls : List (List Int)} (hv : 0 ≤ vars) (hc : ClsOK vars cls) : ∀ (f : Nat) (vals : List Int), zeros vals < f → (vals.length : Int) = vars + 1 → tri vals →
    (solveP cls f vals = none → ∀ bs, agrees vars vals bs → evalB cls bs = false) ∧ (∀ v, solveP cls f vals = some v → agrees vars vals (valsB v) ∧ evalB cls (valsB v) = true) := by
  intro f
  induction f with
  | zero => intro vals h; omega
  | succ f ih =>
    intro vals hz hl ht
    obtain ⟨k1, k2, k3⟩ := propGo_keeps hc (zeros vals + 1) vals [] hl ht
    obtain ⟨s1, s2, s3⟩ := propGo_spec hc (zeros vals + 1) vals [] (Nat.lt_succ_self _) hl ht
    simp only [solveP]
    generalize propGo cls (zeros vals + 1) vals [] = R at k1 k2 k3 s1 s2 s3
    have hl2 : (R.2.2.length : Int) = vars + 1 := by rw [k1]; exact hl
    cases hq : decide (R.2.1 ≥ 0) with
    | true =>
      have hq' := of_decide_eq_true hq
      simp only [cond_true]
      refine ⟨fun _ bs ha => ?_, fun v h => by cases h⟩
      cases he : evalB cls bs with
      | false => rfl
      | true => have := (s2 bs ha he).1; omega
    | false =>
      have hq' := of_decide_eq_false hq
      have hneg : R.2.1 < 0 := by omega
      have hfz := findZ_get hl2
      simp only [cond_false]
      cases hd : findZ (R.2.2.drop 1) 0 + 1 == 0 with
      | true =>
        have hz0 : findZ (R.2.2.drop 1) 0 + 1 = 0 := by simpa using hd
        have htot := findZ_total hl2 k2 hz0
        simp only [cond_true]
        refine ⟨fun h => (by cases h), fun v h => ?_⟩
        obtain rfl := Option.some.inj h
        refine ⟨fun x hx hxt => by rw [litV_valsB hl2 htot hx]; exact s1 x hx hxt, ?_⟩
        simp only [evalB, List.all_eq_true, List.any_eq_true]
        intro c hcm
        obtain ⟨x, hx, hxt⟩ := unit_total htot (hc.2 c hcm) (s3 hneg c hcm)
        exact ⟨x, hx, by rw [litV_valsB hl2 htot (hc.2 c hcm x hx)]; exact hxt⟩
      | false =>
        have hne : findZ (R.2.2.drop 1) 0 + 1 ≠ 0 := by simpa using hd
        obtain ⟨hlit, hg, hf1, hf2⟩ := hfz hne
        generalize findZ (R.2.2.drop 1) 0 + 1 = z at hlit hg hf1 hf2
        simp only [cond_false]
        have hlitn := litOK_neg hlit
        have hz1 := zeros_set hl2 k2 hlitn hf2
        have hz2 := zeros_set hl2 k2 hlit hf1
        obtain ⟨a1, a2⟩ := ih (setT R.2.2 (-z)) (by omega) (by rw [setT_length]; exact hl2) (tri_set k2 _)
        obtain ⟨b1, b2⟩ := ih (setT R.2.2 z) (by omega) (by rw [setT_length]; exact hl2) (tri_set k2 _)
        -- what is set is so, or its opposite
        have step : ∀ (y : Int), litOK vars y → ∀ bs, agrees vars R.2.2 bs → litV bs y = true → agrees vars (setT R.2.2 y) bs := by
          intro y hy bs ha hyt x hx hxt
          rw [isT_setT hl2 hx hy] at hxt
          split at hxt
          · rename_i e; rw [e]; exact hyt
          · split at hxt
            · cases hxt
            · exact ha x hx hxt
        have back : ∀ (y : Int), litOK vars y → free R.2.2 y → ∀ bs, agrees vars (setT R.2.2 y) bs → agrees vars vals bs := by
          intro y hy hfy bs ha x hx hxt
          refine ha x hx ?_
          rw [isT_setT hl2 hx hy]
          have h3 := s1 x hx hxt
          split
          · rfl
          · split
            · rename_i e; subst e; rw [hfy.2] at h3; cases h3
            · exact h3
        cases hs : solveP cls f (setT R.2.2 (-z)) with
        | some r =>
          simp only
          refine ⟨fun h => (by cases h), fun v h => ?_⟩
          obtain rfl := Option.some.inj h
          obtain ⟨c1, c2⟩ := a2 r hs
          exact ⟨back _ hlitn hf2 _ c1, c2⟩
        | none =>
          simp only
          refine ⟨fun h bs ha => ?_, fun v h => ?_⟩
          · cases he : evalB cls bs with
            | false => rfl
            | true =>
              have hag := (s2 bs ha he).2
              cases hzt : litV bs z with
              | true =>
                have := b1 h bs (step z hlit bs hag hzt)
                rw [this] at he; cases he
              | false =>
                have hzn : litV bs (-z) = true := by rw [litV_neg hlit.1, hzt]; rfl
                have := a1 hs bs (step (-z) hlitn bs hag hzn)
                rw [this] at he; cases he
          · obtain ⟨c1, c2⟩ := b2 v h
            exact ⟨back _ hlit hf1 _ c1, c2⟩
theorem modelP_spec {vars : Int} {cls : List (List Int)} (hv : 0 ≤ vars) (hc : ClsOK vars cls) : (modelP vars cls = none → ∀ bs, evalB cls bs = false) ∧ (∀ v, modelP vars cls = some v → evalB cls (valsB v) = true ∧ ((valsB v).length : Int) = vars) := by
  have hz0 : zeros (zeroVals vars) < vars.toNat + 2 := by
    have : zeros (zeroVals vars) ≤ ((zeroVals vars).drop 1).length := List.count_le_length
    simp only [zeroVals, List.length_drop, List.length_replicate] at this ⊢
    omega
  have hl0 : ((zeroVals vars).length : Int) = vars + 1 := by simp only [zeroVals, List.length_replicate]; omega
  have ht0 : tri (zeroVals vars) := fun x hx => by have := List.eq_of_mem_replicate hx; omega
  obtain ⟨h1, h2⟩ := solveP_spec hv hc _ _ hz0 hl0 ht0
  refine ⟨fun h bs => h1 h bs fun x hx hxt => (by rw [isT_zero hx] at hxt; cases hxt), fun v h => ⟨(h2 v h).2, ?_⟩⟩
  have := (solveP_len hc _ _ _ hl0 ht0 h).1
  simp only [valsB, List.length_map, List.length_drop]
  omega
def numB : List Bool → Nat
  | [] => 0
  | b :: r => 2 * numB r + b.toNat
theorem numB_lt (bs : List Bool) : numB bs < 2 ^ bs.length := by
  induction bs with
  | nil => simp [numB]
  | cons b r ih => simp only [numB, List.length_cons, Nat.pow_succ]; cases b <;> simp <;> omega
end
section
def numH (bs : List Bool) : Nat := numB bs.reverse
theorem numB_append (r : List Bool) (b : Bool) : numB (r ++ [b]) = numB r + 2 ^ r.length * b.toNat := by
  induction r with
  | nil => simp [numB]
  | cons a r ih => simp only [List.cons_append, numB, ih, List.length_cons, Nat.pow_succ]; cases b <;> simp <;> omega
theorem numH_cons (b : Bool) (r : List Bool) : numH (b :: r) = numH r + 2 ^ r.length * b.toNat := by
  simp only [numH, List.reverse_cons, numB_append, List.length_reverse]
theorem numH_pow (r : List Bool) : numH r < 2 ^ r.length := by have := numB_lt r.reverse; simpa [numH] using this
theorem numH_lt : ∀ (a b : List Bool), a.length = b.length → ∀ i, i < a.length → (∀ j, j < i → a.getD j false = b.getD j false) → a.getD i false = false → b.getD i false = true → numH a < numH b := by
  intro a
  induction a with
  | nil => intro b _ i hi; simp at hi
  | cons x r ih =>
    intro b hl i hi hj h0 h1
    cases b with
    | nil => simp at hl
    | cons y s =>
      have hrs : r.length = s.length := by simpa using hl
      rw [numH_cons, numH_cons]
      cases i with
      | zero =>
        simp at h0 h1; subst h0 h1
        have := numH_pow r
        simp [← hrs]; omega
      | succ i =>
        have hxy : x = y := by simpa using hj 0 (by omega)
        subst hxy
        have := ih s hrs i (by simpa using hi) (fun j hj' => by simpa using hj (j + 1) (by omega)) (by simpa using h0) (by simpa using h1)
        rw [hrs]; omega
theorem findZ_before {vals : List Int} {vars : Int} (hl : (vals.length : Int) = vars + 1) (ht : tri vals) (h : findZ (vals.drop 1) 0 + 1 ≠ 0) : ∀ x : Int, litOK vars x → (x.natAbs : Int) < findZ (vals.drop 1) 0 + 1 → isT vals x = true ∨ isT vals (-x) = true := by
  intro x hx hlt
  have hin := findZ_in (vals.drop 1) 0
  have h0 : x.natAbs ≠ 0 := by have := hx.1; omega
  have hne : vals.getD x.natAbs 0 ≠ 0 := by
    unfold findZ at hlt h
    cases hf : (vals.drop 1).findIdx? (· == 0) with
    | none => rw [hf] at h; exact absurd rfl h
    | some i =>
      rw [hf] at hlt
      simp only at hlt
      have h3 := (List.findIdx?_eq_some_iff_getElem.1 hf).2.2 (x.natAbs - 1) (by omega)
      have hlen := (List.findIdx?_eq_some_iff_getElem.1 hf).1
      simp only [List.length_drop] at hlen
      have h4 : x.natAbs < vals.length := by omega
      have e : (vals.drop 1)[x.natAbs - 1]'(by simp; omega) = vals.getD x.natAbs 0 := by
        have h5 : x.natAbs - 1 + 1 = x.natAbs := by omega
        simp [List.getD, h4, h5]
      rw [e] at h3
      simpa using h3
  have hlt2 : x.natAbs < vals.length := by have := hx.2; omega
  have htr := ht _ (List.getElem_mem hlt2)
  have e : vals.getD x.natAbs 0 = vals[x.natAbs] := by simp [List.getD, hlt2]
  rw [isT_val hx.1, isT_val (litOK_neg hx).1, Int.natAbs_neg]
  rw [← e] at htr
  generalize vals.getD x.natAbs 0 = v at htr hne
  have hx0 := hx.1
  by_cases hneg : x < 0
  · rw [if_pos hneg, if_neg (by omega)]
    rcases htr with rfl | rfl | rfl <;> first | exact absurd rfl hne | simp
  · rw [if_neg hneg, if_pos (by omega)]
    rcases htr with rfl | rfl | rfl <;> first | exact absurd rfl hne | simp
theorem litV_pos {bs : List Bool} {i : Nat} : litV bs ((i : Int) + 1) = bs.getD i false := by
  unfold litV
  rw [show ((i : Int) + 1).natAbs - 1 = i by omega, decide_eq_true (by omega : (i : Int) + 1 > 0)]
  cases bs.getD i false <;> rfl
/-- Of all models that agree with what is known, the one that is found is the least. -/
theorem solveP_least {vars : Int} {cls : List (List Int)} (hv : 0 ≤ vars) (hc : ClsOK vars cls) : ∀ (f : Nat) (vals v : List Int), zeros vals < f → (vals.length : Int) = vars + 1 → tri vals → solveP cls f vals = some v →
    ∀ bs, (bs.length : Int) = vars → agrees vars vals bs → evalB cls bs = true → numH (valsB v) ≤ numH bs := by
  intro f
  induction f with
  | zero => intro vals v h; omega
  | succ f ih =>
    intro vals v hz hl ht hsol bs hbl hag hev
    obtain ⟨k1, k2, k3⟩ := propGo_keeps hc (zeros vals + 1) vals [] hl ht
    obtain ⟨s1, s2, s3⟩ := propGo_spec hc (zeros vals + 1) vals [] (Nat.lt_succ_self _) hl ht
    simp only [solveP] at hsol
    generalize propGo cls (zeros vals + 1) vals [] = R at k1 k2 k3 s1 s2 s3 hsol
    have hl2 : (R.2.2.length : Int) = vars + 1 := by rw [k1]; exact hl
    obtain ⟨hneg, hagR⟩ := s2 bs hag hev
    have hq : decide (R.2.1 ≥ 0) = false := decide_eq_false (by omega)
    rw [hq] at hsol
    simp only [cond_false] at hsol
    cases hd : findZ (R.2.2.drop 1) 0 + 1 == 0 with
    | true =>
      rw [hd] at hsol
      simp only [cond_true, Option.some.injEq] at hsol
      subst hsol
      have hz0 : findZ (R.2.2.drop 1) 0 + 1 = 0 := by simpa using hd
      have htot := findZ_total hl2 k2 hz0
      have : valsB R.2.2 = bs := by
        have hvl : (valsB R.2.2).length = bs.length := by simp [valsB]; omega
        apply List.ext_getElem hvl
        intro i h1 h2
        have hx : litOK vars ((i : Int) + 1) := ⟨by omega, by omega, by omega⟩
        have e1 := litV_valsB hl2 htot hx
        rw [litV_pos] at e1
        have e2 : isT R.2.2 ((i : Int) + 1) = bs.getD i false := by
          rcases htot _ hx with h | h
          · rw [h]; have := hagR _ hx h; rw [litV_pos] at this; exact this.symm
          · have h3 := agrees_false hagR hx h
            rw [litV_pos] at h3
            rw [h3]
            cases hh : isT R.2.2 ((i : Int) + 1) with
            | false => rfl
            | true => have := hagR _ hx hh; rw [litV_pos, h3] at this; cases this
        rw [e2] at e1
        simpa [List.getD, h1, h2] using e1
      rw [this]; exact Nat.le_refl _
    | false =>
      have hne : findZ (R.2.2.drop 1) 0 + 1 ≠ 0 := by simpa using hd
      obtain ⟨hlit, hg, hf1, hf2⟩ := findZ_get hl2 hne
      have hbef := findZ_before hl2 k2 hne
      have hin := findZ_in (R.2.2.drop 1) 0
      rw [hd] at hsol
      simp only [cond_false] at hsol
      have hzp : 1 ≤ findZ (R.2.2.drop 1) 0 + 1 := by omega
      generalize findZ (R.2.2.drop 1) 0 + 1 = z at hlit hg hf1 hf2 hbef hsol hzp
      have hlitn := litOK_neg hlit
      have hz1 := zeros_set hl2 k2 hlitn hf2
      have hz2 := zeros_set hl2 k2 hlit hf1
      have step : ∀ (y : Int), litOK vars y → ∀ bs, agrees vars R.2.2 bs → litV bs y = true → agrees vars (setT R.2.2 y) bs := by
        intro y hy bs ha hyt x hx hxt
        rw [isT_setT hl2 hx hy] at hxt
        split at hxt
        · rename_i e; rw [e]; exact hyt
        · split at hxt
          · cases hxt
          · exact ha x hx hxt
      have back : ∀ (y : Int), litOK vars y → free R.2.2 y → ∀ bs, agrees vars (setT R.2.2 y) bs → agrees vars R.2.2 bs := by
        intro y hy hfy bs ha x hx hxt
        refine ha x hx ?_
        rw [isT_setT hl2 hx hy]
        split
        · rfl
        · split
          · rename_i e; subst e; rw [hfy.2] at hxt; cases hxt
          · exact hxt
      cases hs : solveP cls f (setT R.2.2 (-z)) with
      | some r =>
        rw [hs] at hsol
        simp only [Option.some.injEq] at hsol
        subst hsol
        cases hzt : litV bs z with
        | false =>
          exact ih _ _ (by omega) (by rw [setT_length]; exact hl2) (tri_set k2 _) hs bs hbl (step _ hlitn bs hagR (by rw [litV_neg hlit.1, hzt]; rfl)) hev
        | true =>
          obtain ⟨_, q2⟩ := solveP_spec hv hc f (setT R.2.2 (-z)) (by omega) (by rw [setT_length]; exact hl2) (tri_set k2 _)
          obtain ⟨qa, qe⟩ := q2 r hs
          have hrl := (solveP_len hc _ _ _ (by rw [setT_length]; exact hl2) (tri_set k2 _) hs).1
          rw [setT_length] at hrl
          have hvl : (valsB r).length = bs.length := by simp [valsB]; omega
          have hqaR := back _ hlitn hf2 _ qa
          have hzf : litV (valsB r) z = false := by
            have := qa (-z) hlitn (by rw [isT_setT hl2 hlitn hlitn, if_pos rfl])
            rw [litV_neg hlit.1] at this
            simpa using this
          obtain ⟨i, hi⟩ : ∃ i : Nat, z = (i : Int) + 1 := ⟨(z - 1).toNat, by omega⟩
          subst hi
          rw [litV_pos] at hzt hzf
          refine Nat.le_of_lt (numH_lt _ _ hvl i (by have := hlit.2; omega) (fun j hj => ?_) hzf hzt)
          have hx : litOK vars ((j : Int) + 1) := ⟨by omega, by have := hlit.2; omega, by have := hlit.2; omega⟩
          rw [← litV_pos, ← litV_pos]
          rcases hbef _ hx (by omega) with h | h
          · rw [hqaR _ hx h, hagR _ hx h]
          · rw [agrees_false hqaR hx h, agrees_false hagR hx h]
      | none =>
        rw [hs] at hsol
        simp only at hsol
        obtain ⟨q1, _⟩ := solveP_spec hv hc f (setT R.2.2 (-z)) (by omega) (by rw [setT_length]; exact hl2) (tri_set k2 _)
        cases hzt : litV bs z with
        | false =>
          have := q1 hs bs (step _ hlitn bs hagR (by rw [litV_neg hlit.1, hzt]; rfl))
          rw [this] at hev; cases hev
        | true => exact ih _ _ (by omega) (by rw [setT_length]; exact hl2) (tri_set k2 _) hsol bs hbl (step _ hlit bs hagR hzt) hev
theorem modelP_least {vars : Int} {cls : List (List Int)} (hv : 0 ≤ vars) (hc : ClsOK vars cls) {v : List Int} (h : modelP vars cls = some v) : ∀ bs, (bs.length : Int) = vars → evalB cls bs = true → numH (valsB v) ≤ numH bs := by
  have hz0 : zeros (zeroVals vars) < vars.toNat + 2 := by
    have : zeros (zeroVals vars) ≤ ((zeroVals vars).drop 1).length := List.count_le_length
    simp only [zeroVals, List.length_drop, List.length_replicate] at this ⊢
    omega
  have hl0 : ((zeroVals vars).length : Int) = vars + 1 := by simp only [zeroVals, List.length_replicate]; omega
  have ht0 : tri (zeroVals vars) := fun x hx => by have := List.eq_of_mem_replicate hx; omega
  exact fun bs hbl he => solveP_least hv hc _ _ _ hz0 hl0 ht0 h bs hbl (fun x hx hxt => by rw [isT_zero hx] at hxt; cases hxt) he

end
section
attribute [local irreducible] SRun DS DRun
variable {Γ : St} {σ σ0 : St}
/-- What is said of a least model, or of none. -/
def leastA : Option (List Int) → List Bool × Int
  | none => ([], 6)
  | some v => (valsB v, 0)
end
section
attribute [local irreducible] SRun DS DRun
variable {Γ : St} {σ σ0 : St}
theorem l01Abs_lit {vars x : Int} (hx : litOK vars x) (hv : vars ≤ 1000000) : Ret Try.prog Γ 222 [.int .i64 x] σ (.int .i64 (x.natAbs : Int)) σ := l01Abs_ok (by have := hx.2; omega)
theorem setT_pos {vals : List Int} {x : Int} (h : 0 < x) : setT vals x = vals.set x.toNat 1 := by unfold setT; rw [if_neg (by omega)]
theorem setT_neg {vals : List Int} {x : Int} (h : x < 0) : setT vals x = vals.set (-x).toNat (-1) := by unfold setT; rw [if_pos h]
theorem ints_set {xs : List Int} {i : Nat} {y : Int} : (ints xs).set i (.int .i64 y) = ints (xs.set i y) := by simp [ints, List.map_set]
theorem l02Set_ok {vars x : Int} {vals : List Int} {bv n cap : Nat} (h : σ bv = some (ints vals)) (hn : n = vals.length) (hl : (vals.length : Int) = vars + 1) (hx : litOK vars x) (hv : vars ≤ 1000000) :
    Ret Try.prog Γ 208 [.msl bv 1 0 n cap, .int .i64 x] σ (.tup []) (upd σ bv (ints (setT vals x))) := by
  obtain ⟨hx0, hx1, hx2⟩ := hx
  have hil : (ints vals).length = vals.length := ints_len _
  refine ret_of c208_ok rfl ?_
  simp (disch := omega) only [c208, go_sem, ↓if_pos, ne_eq, ↓reduceIte]
  first | refine iteW_dec (fun hq => ?_) (fun hq => ?_) | refine iteW_of (fun hq => ?_) (fun hq => ?_)
  · simp (disch := omega) only [h, go_sem, ↓if_pos, ne_eq, ↓reduceIte]
    refine W_fallR c208_ok rfl ⟨rfl, ?_⟩
    rw [ints_set, setT_pos (by omega)]
  · simp (disch := omega) only [h, go_sem, ↓if_pos, ne_eq, ↓reduceIte]
    refine W_fallR c208_ok rfl ⟨rfl, ?_⟩
    rw [ints_set, setT_neg (by omega), show (0 - x).toNat = (-x).toNat by omega]
/-- What the reference tells of a clause. -/
def clGo (vals : List Int) : List Int → Int → Int → Bool × Int × Int
  | [], op, one => (false, op, one)
  | x :: r, op, one => bif isT vals x then (true, 0, 0) else bif !isT vals (-x) && x != one then clGo vals r (op + 1) x else clGo vals r op one
theorem val_cases {vals : List Int} {vars x : Int} (hl : (vals.length : Int) = vars + 1) (ht : tri vals) (hx : litOK vars x) :
    (vals.getD x.natAbs 0 = 0 ∧ isT vals x = false ∧ isT vals (-x) = false) ∨ (vals.getD x.natAbs 0 = (if x < 0 then -1 else 1) ∧ isT vals x = true ∧ isT vals (-x) = false) ∨ (vals.getD x.natAbs 0 = (if x < 0 then 1 else -1) ∧ isT vals x = false ∧ isT vals (-x) = true) := by
  have hlt : x.natAbs < vals.length := by have := hx.2; omega
  have hm := ht _ (getD_mem 0 hlt)
  have h0 := hx.1
  rw [isT_val h0, isT_val (x := -x) (by omega), Int.natAbs_neg]
  generalize vals.getD x.natAbs 0 = v at hm
  by_cases hneg : x < 0
  · rw [if_pos hneg, if_neg (by omega : ¬ -x < 0), if_pos hneg]
    rcases hm with rfl | rfl | rfl <;> simp
  · rw [if_neg hneg, if_pos (by omega : -x < 0), if_neg hneg]
    rcases hm with rfl | rfl | rfl <;> simp
theorem l02Clause_ok {ex : Bool} {vars : Int} {c vals : List Int} {bv n cap : Nat} (h : σ bv = some (ints vals)) (hn : n = vals.length) (hl : (vals.length : Int) = vars + 1) (ht : tri vals) (hc : ∀ x ∈ c, litOK vars x) (hv : vars ≤ 1000000) (hcl : c.length ≤ 1000000) :
    Ret Try.prog Γ 207 [.isl ex 1 (ints c), .msl bv 1 0 n cap] σ (.tup [.bool (clGo vals c 0 0).1, .int .i64 (clGo vals c 0 0).2.1, .int .i64 (clGo vals c 0 0).2.2]) σ := by
  have hil : (ints vals).length = vals.length := ints_len _
  generalize hR : clGo vals c 0 0 = R
  refine ret_of c207_ok rfl ?_
  simp (disch := omega) only [c207, go_sem, ↓if_pos, ne_eq, ↓reduceIte]
  refine W_loopC (fun p : Nat × Int × Int => p.1 ≤ c.length ∧ 0 ≤ p.2.1 ∧ p.2.1 ≤ p.1 ∧ clGo vals (c.drop p.1) p.2.1 p.2.2 = R) (fun p => [(0, .isl ex 1 (ints c)), (1, .msl bv 1 0 n cap), (7, .int .i64 p.2.1), (8, .int .i64 p.2.2), (9, .int .i64 p.1)])
    (fun _ => σ) (fun p => c.length - p.1) (0, 0, 0) ⟨by omega, by simp, by simp, hR⟩ (by simp (disch := omega) only [subT, Int.natCast_add, Int.cast_ofNat_Int, go_sem, ↓if_pos, ne_eq, ↓reduceIte] <;> (repeat' apply And.intro) <;> first | rfl | (congr 1; omega) | assumption) rfl ?_
  rintro ⟨i, op, one⟩ ⟨hi, ho0, ho1, hgo⟩ ih
  dsimp only at hi ho0 ho1 hgo ⊢
  simp (disch := omega) only [go_sem, ↓if_pos, ne_eq, ↓reduceIte]
  first | refine iteW_dec (fun hq => ?_) (fun hq => ?_) | refine iteW_of (fun hq => ?_) (fun hq => ?_)
  · have hx := hc _ (getD_mem 0 (by omega : i < c.length))
    rw [drop_cons 0 (by omega)] at hgo
    simp only [clGo] at hgo
    simp (disch := omega) only [go_sem, ↓if_pos, ne_eq, ↓reduceIte]
    generalize hxe : c.getD i 0 = x at hx hgo ⊢
    have hx2 := hx.2
    have hcases := val_cases hl ht hx
    have hget : (ints vals)[x.natAbs]? = some (.int .i64 (vals.getD x.natAbs 0)) := ints_get (getD_some 0 (by omega))
    refine SRun.callR (l01Abs_lit hx hv) ⟨[], rfl, rfl⟩ rfl ?_
    simp (disch := omega) only [List.getD_cons_zero, List.getD_cons_succ, go_sem, ↓if_pos, ne_eq, ↓reduceIte]
    simp (disch := omega) only [h, hget, hxe, go_sem, ↓if_pos, ne_eq, ↓reduceIte]
    generalize vals.getD x.natAbs 0 = v at hcases ⊢
    have hv1 : v = 0 ∨ v = 1 ∨ v = -1 := by
      rcases hcases with h | h | h
      · exact .inl h.1
      · have := h.1; split at this <;> omega
      · have := h.1; split at this <;> omega
    first | refine iteW_dec (fun hneg => ?_) (fun hneg => ?_) | refine iteW_of (fun hneg => ?_) (fun hneg => ?_)
    · rw [if_pos hneg, if_pos hneg] at hcases
      simp (disch := omega) only [hxe, go_sem, ↓if_pos, ne_eq, ↓reduceIte]
      first | refine iteW_dec (fun h1 => ?_) (fun h1 => ?_) | refine iteW_of (fun h1 => ?_) (fun h1 => ?_)
      · have : isT vals x = true := by rcases hcases with h | h | h <;> first | omega | exact h.2.1
        rw [this] at hgo
        simp (disch := omega) only [hxe, go_sem, ↓if_pos, ne_eq, ↓reduceIte]
        refine W_retR c207_ok rfl ⟨?_, rfl⟩
        rw [← hgo]; rfl
      · simp (disch := omega) only [go_sem, ↓if_pos, ne_eq, ↓reduceIte]
        first | refine guardW_dec (fun h2 => ?_) (fun h2 => ?_) | refine guardW_by (fun h2 => ?_) (fun h2 => ?_)
        · have e : isT vals x = false ∧ isT vals (-x) = false := by rcases hcases with h | h | h <;> first | omega | exact h.2
          rw [e.1, e.2] at hgo
          simp (disch := omega) only [hxe, go_sem, ↓if_pos, ne_eq, ↓reduceIte]
          first | refine iteW_dec (fun h3 => ?_) (fun h3 => ?_) | refine iteW_of (fun h3 => ?_) (fun h3 => ?_)
          · have : (x != one) = true := by simp; omega
            rw [this] at hgo
            simp (disch := omega) only [hxe, go_sem, ↓if_pos, ne_eq, ↓reduceIte]
            refine ih (i + 1, op + 1, x) _ _ ⟨by simp only; omega, by simp only; omega, by simp only; omega, hgo⟩ (by simp only; omega) (by simp (disch := omega) only [subT, Int.natCast_add, Int.cast_ofNat_Int, go_sem, ↓if_pos, ne_eq, ↓reduceIte] <;> (repeat' apply And.intro) <;> first | rfl | (congr 1; omega) | assumption) rfl
          · have : (x != one) = false := by simp; omega
            rw [this] at hgo
            simp (disch := omega) only [hxe, go_sem, ↓if_pos, ne_eq, ↓reduceIte]
            refine ih (i + 1, op, one) _ _ ⟨by simp only; omega, by simp only; omega, by simp only; omega, hgo⟩ (by simp only; omega) (by simp (disch := omega) only [subT, Int.natCast_add, Int.cast_ofNat_Int, go_sem, ↓if_pos, ne_eq, ↓reduceIte] <;> (repeat' apply And.intro) <;> first | rfl | (congr 1; omega) | assumption) rfl
        · have e : isT vals x = false ∧ isT vals (-x) = true := by rcases hcases with h | h | h <;> first | omega | exact h.2
          rw [e.1, e.2] at hgo
          simp (disch := omega) only [hxe, go_sem, ↓if_pos, ne_eq, ↓reduceIte]
          refine ih (i + 1, op, one) _ _ ⟨by simp only; omega, by simp only; omega, by simp only; omega, hgo⟩ (by simp only; omega) (by simp (disch := omega) only [subT, Int.natCast_add, Int.cast_ofNat_Int, go_sem, ↓if_pos, ne_eq, ↓reduceIte] <;> (repeat' apply And.intro) <;> first | rfl | (congr 1; omega) | assumption) rfl
    · rw [if_neg hneg, if_neg hneg] at hcases
      simp (disch := omega) only [hxe, go_sem, ↓if_pos, ne_eq, ↓reduceIte]
      first | refine iteW_dec (fun h1 => ?_) (fun h1 => ?_) | refine iteW_of (fun h1 => ?_) (fun h1 => ?_)
      · have : isT vals x = true := by rcases hcases with h | h | h <;> first | omega | exact h.2.1
        rw [this] at hgo
        simp (disch := omega) only [hxe, go_sem, ↓if_pos, ne_eq, ↓reduceIte]
        refine W_retR c207_ok rfl ⟨?_, rfl⟩
        rw [← hgo]; rfl
      · simp (disch := omega) only [go_sem, ↓if_pos, ne_eq, ↓reduceIte]
        first | refine guardW_dec (fun h2 => ?_) (fun h2 => ?_) | refine guardW_by (fun h2 => ?_) (fun h2 => ?_)
        · have e : isT vals x = false ∧ isT vals (-x) = false := by rcases hcases with h | h | h <;> first | omega | exact h.2
          rw [e.1, e.2] at hgo
          simp (disch := omega) only [hxe, go_sem, ↓if_pos, ne_eq, ↓reduceIte]
          first | refine iteW_dec (fun h3 => ?_) (fun h3 => ?_) | refine iteW_of (fun h3 => ?_) (fun h3 => ?_)
          · have : (x != one) = true := by simp; omega
            rw [this] at hgo
            simp (disch := omega) only [hxe, go_sem, ↓if_pos, ne_eq, ↓reduceIte]
            refine ih (i + 1, op + 1, x) _ _ ⟨by simp only; omega, by simp only; omega, by simp only; omega, hgo⟩ (by simp only; omega) (by simp (disch := omega) only [subT, Int.natCast_add, Int.cast_ofNat_Int, go_sem, ↓if_pos, ne_eq, ↓reduceIte] <;> (repeat' apply And.intro) <;> first | rfl | (congr 1; omega) | assumption) rfl
          · have : (x != one) = false := by simp; omega
            rw [this] at hgo
            simp (disch := omega) only [hxe, go_sem, ↓if_pos, ne_eq, ↓reduceIte]
            refine ih (i + 1, op, one) _ _ ⟨by simp only; omega, by simp only; omega, by simp only; omega, hgo⟩ (by simp only; omega) (by simp (disch := omega) only [subT, Int.natCast_add, Int.cast_ofNat_Int, go_sem, ↓if_pos, ne_eq, ↓reduceIte] <;> (repeat' apply And.intro) <;> first | rfl | (congr 1; omega) | assumption) rfl
        · have e : isT vals x = false ∧ isT vals (-x) = true := by rcases hcases with h | h | h <;> first | omega | exact h.2
          rw [e.1, e.2] at hgo
          simp (disch := omega) only [hxe, go_sem, ↓if_pos, ne_eq, ↓reduceIte]
          refine ih (i + 1, op, one) _ _ ⟨by simp only; omega, by simp only; omega, by simp only; omega, hgo⟩ (by simp only; omega) (by simp (disch := omega) only [subT, Int.natCast_add, Int.cast_ofNat_Int, go_sem, ↓if_pos, ne_eq, ↓reduceIte] <;> (repeat' apply And.intro) <;> first | rfl | (congr 1; omega) | assumption) rfl
  · rw [List.drop_of_length_le (by omega)] at hgo
    simp (disch := omega) only [go_sem, ↓if_pos, ne_eq, ↓reduceIte]
    refine W_retR c207_ok rfl ⟨?_, rfl⟩
    rw [← hgo]; rfl
/-- The reference and the program tell the same of a clause. -/
theorem clGo_many {vals : List Int} : ∀ {c : List Int} {op one : Int}, 2 ≤ op → (clGo vals c op one).1 = true ∨ 2 ≤ (clGo vals c op one).2.1 := by
  intro c
  induction c with
  | nil => intro op one h; exact .inr h
  | cons x r ih =>
    intro op one h
    simp only [clGo]
    cases isT vals x with
    | true => exact .inl rfl
    | false =>
      simp only [cond_false]
      cases (!isT vals (-x) && x != one) with
      | true => exact ih (by omega)
      | false => exact ih h
/-- What the program makes of it. -/
def unitOf (A : Bool × Int × Int) : Int × Bool := bif A.1 then (0, false) else if A.2.1 = 0 then (0, true) else if A.2.1 = 1 then (A.2.2, false) else (0, false)
theorem clGo_unit {vals : List Int} : ∀ {c : List Int} {op one : Int}, (∀ x ∈ c, x ≠ 0) → (op = 0 ∧ one = 0) ∨ (op = 1 ∧ one ≠ 0) →
    unitGo vals c one = unitOf (clGo vals c op one) := by
  intro c
  induction c with
  | nil =>
    intro op one _ h
    rcases h with ⟨rfl, rfl⟩ | ⟨rfl, h⟩
    · rfl
    · simp [unitGo, clGo, unitOf, h]
  | cons x r ih =>
    intro op one hne h
    have hx := hne x (by simp)
    have hne' : ∀ y ∈ r, y ≠ 0 := fun y hy => hne y (by simp [hy])
    simp only [unitGo, clGo]
    cases h1 : isT vals x with
    | true => rfl
    | false =>
      simp only [cond_false]
      cases h2 : isT vals (-x) with
      | true => simp only [Bool.true_or, cond_true, Bool.not_true, Bool.false_and, cond_false]; exact ih hne' h
      | false =>
        simp only [Bool.false_or, Bool.not_false, Bool.true_and]
        by_cases hxo : x = one
        · subst hxo
          simp only [beq_self_eq_true, cond_true, bne_self_eq_false, cond_false]
          exact ih hne' h
        · have e1 : (x == one) = false := by simpa using hxo
          have e2 : (x != one) = true := by simpa using hxo
          rw [e1, e2]
          simp only [cond_false, cond_true]
          rcases h with ⟨rfl, rfl⟩ | ⟨rfl, h⟩
          · simp only [bne_self_eq_false, cond_false]
            exact ih hne' (.inr ⟨rfl, hx⟩)
          · have e3 : (one != 0) = true := by simpa using h
            rw [e3]
            simp only [cond_true]
            have hm := clGo_many (vals := vals) (c := r) (op := 1 + 1) (one := x) (by omega)
            generalize clGo vals r (1 + 1) x = A at hm
            obtain ⟨p, q, s⟩ := A
            dsimp only at hm
            cases p with
            | true => rfl
            | false =>
              have hq : 2 ≤ q := by rcases hm with h | h <;> first | exact h | cases h
              simp only [unitOf, cond_false]
              rw [if_neg (by omega), if_neg (by omega)]
section
variable {P : Program} {f : FuncId} {n : Nat} {Q : V → St → Prop} {k : List It} {T : Ts} {g : GI} {l : List GI}
theorem stepW_iaddr_cls {ex : Bool} {cls : List (List Int)} {kk : IntKind} {m : Int} (h0 : 0 ≤ m) (h1 : m < cls.length) : stepW P Γ f n Q (.iaddr 1 (.c (.isl ex 1 (clsV cls))) (.c (.int kk m))) g l k T σ = W P Γ f n Q (.ops l :: k) (putT T g.d (.iptr [intsV (cls.getD m.toNat [])])) σ := stepW_iaddr_map h0 h1
theorem stepK_iaddr_cls {K : V → St → Prop} {ex : Bool} {cls : List (List Int)} {kk : IntKind} {m : Int} (h0 : 0 ≤ m) (h1 : m < cls.length) : stepK (.iaddr 1 (.c (.isl ex 1 (clsV cls))) (.c (.int kk m))) σ K = K (.iptr [intsV (cls.getD m.toNat [])]) σ := stepK_iaddr_map h0 h1
end
attribute [go_sem] stepW_iaddr_cls stepK_iaddr_cls clsV_len
theorem l02Run_ok {ex : Bool} {vars : Int} {cls : List (List Int)} {vals : List Int} {bv n cap : Nat} (h : σ bv = some (ints vals)) (hn : n = vals.length) (hl : (vals.length : Int) = vars + 1) (ht : tri vals) (hv : vars ≤ 1000000) (hc : ClsOK vars cls) :
    Ret Try.prog Γ 166 [.isl ex 1 (clsV cls), .msl bv 1 0 n cap] σ (.tup [intsV (propGo cls (zeros vals + 1) vals []).1, .int .i64 (propGo cls (zeros vals + 1) vals []).2.1]) (upd σ bv (ints (propGo cls (zeros vals + 1) vals []).2.2)) := by
  generalize hR : propGo cls (zeros vals + 1) vals [] = R
  have hcl := hc.1.1
  refine ret_of c166_ok rfl ?_
  simp (disch := omega) only [c166, go_sem, ↓if_pos, ne_eq, ↓reduceIte]
  refine W_loopC (fun p : List Int × List Int × V × St => p.1.length = vals.length ∧ tri p.1 ∧ p.2.1.length + zeros p.1 ≤ vals.length ∧ propGo cls (zeros p.1 + 1) p.1 p.2.1 = R ∧ OwnL (upd σ bv (ints p.1)) 1 (ints p.2.1) p.2.2.1 p.2.2.2) (fun p => [(0, .isl ex 1 (clsV cls)), (1, .msl bv 1 0 n cap), (6, p.2.2.1)])
    (fun p => p.2.2.2) (fun p => zeros p.1) (vals, [], _, _) ⟨rfl, ht, ?_, hR, by rw [upd_self σ h]; exact OwnL.nil 1 1⟩ (by simp (disch := omega) only [subT, Int.natCast_add, Int.cast_ofNat_Int, go_sem, ↓if_pos, ne_eq, ↓reduceIte] <;> (repeat' apply And.intro) <;> first | rfl | (congr 1; omega) | assumption) rfl ?_
  · have : zeros vals ≤ (vals.drop 1).length := List.count_le_length
    simp at this ⊢; omega
  rintro ⟨v2, list, r6, σ1⟩ ⟨hlv, ht2, hlz, hgo, ho⟩ ih
  dsimp only at hlv ht2 hlz hgo ho ⊢
  have hb := ho.get (upd_same σ bv _)
  have hl2 : (v2.length : Int) = vars + 1 := by omega
  simp (disch := omega) only [go_sem, ↓if_pos, ne_eq, ↓reduceIte]
  refine W_loopC (fun p : Nat × Int => p.1 ≤ cls.length ∧ scanGo v2 cls 0 0 = scanGo v2 (cls.drop p.1) p.1 p.2) (fun p => [(0, .isl ex 1 (clsV cls)), (1, .msl bv 1 0 n cap), (6, r6), (7, .int .i64 p.2), (8, .int .i64 p.1)])
    (fun _ => σ1) (fun p => cls.length - p.1) (0, 0) ⟨by omega, rfl⟩ (by simp (disch := omega) only [subT, Int.natCast_add, Int.cast_ofNat_Int, go_sem, ↓if_pos, ne_eq, ↓reduceIte] <;> (repeat' apply And.intro) <;> first | rfl | (congr 1; omega) | assumption) rfl ?_
  rintro ⟨i, next⟩ ⟨hi, hsc⟩ ih2
  dsimp only at hi hsc ⊢
  simp (disch := omega) only [go_sem, ↓if_pos, ne_eq, ↓reduceIte]
  first | refine iteW_dec (fun hq => ?_) (fun hq => ?_) | refine iteW_of (fun hq => ?_) (fun hq => ?_)
  · have hmem := getD_mem [] (by omega : i < cls.length)
    have hlit := hc.2 _ hmem
    have hsm := hc.1.2 _ hmem
    rw [drop_cons [] (by omega)] at hsc
    simp only [scanGo] at hsc
    simp (disch := omega) only [go_sem, ↓if_pos, ne_eq, ↓reduceIte]
    generalize cls.getD i [] = c at hlit hsm hsc
    have hu := clGo_unit (vals := v2) (c := c) (op := 0) (one := 0) (fun x hx => (hlit x hx).1) (.inl ⟨rfl, rfl⟩)
    refine SRun.callR (l02Clause_ok (ex := false) (vars := vars) (c := c) hb (by omega) hl2 ht2 hlit hv hsm) ⟨[], rfl, rfl⟩ rfl ?_
    simp (disch := omega) only [List.getD_cons_zero, List.getD_cons_succ, go_sem, ↓if_pos, ne_eq, ↓reduceIte]
    obtain ⟨okk, op, one, hA⟩ : ∃ p q s, clGo v2 c 0 0 = (p, q, s) := ⟨_, _, _, rfl⟩
    simp only [hA, unitOf] at hu ⊢
    rw [hu] at hsc
    first | refine iteW_dec (fun h1 => ?_) (fun h1 => ?_) | refine iteW_of (fun h1 => ?_) (fun h1 => ?_)
    · subst h1
      simp only [cond_true, cond_false] at hsc
      have e : (bif next == 0 then 0 else next) = next := by cases hn0 : next == 0 <;> simp at hn0 ⊢; omega
      rw [e] at hsc
      simp (disch := omega) only [go_sem, ↓if_pos, ne_eq, ↓reduceIte]
      refine ih2 (i + 1, next) _ _ ⟨by simp only; omega, hsc⟩ (by simp only; omega) (by simp (disch := omega) only [subT, Int.natCast_add, Int.cast_ofNat_Int, go_sem, ↓if_pos, ne_eq, ↓reduceIte] <;> (repeat' apply And.intro) <;> first | rfl | (congr 1; omega) | assumption) rfl
    · subst h1
      simp only [cond_false] at hsc
      simp (disch := omega) only [go_sem, ↓if_pos, ne_eq, ↓reduceIte]
      first | refine iteW_dec (fun h2 => ?_) (fun h2 => ?_) | refine iteW_of (fun h2 => ?_) (fun h2 => ?_)
      · rw [if_pos h2] at hsc
        simp only [cond_true] at hsc
        simp (disch := omega) only [go_sem, ↓if_pos, ne_eq, ↓reduceIte]
        simp only [propGo, hsc] at hgo
        subst hgo
        exact W_retC c166_ok rfl ⟨ho.le, frz_tup (by exact ⟨ho.conv.2, .refl _, trivial⟩)⟩ ⟨rfl, rfl⟩
      · rw [if_neg h2] at hsc
        simp (disch := omega) only [go_sem, ↓if_pos, ne_eq, ↓reduceIte]
        first | refine guardW_dec (fun h3 => ?_) (fun h3 => ?_) | refine guardW_by (fun h3 => ?_) (fun h3 => ?_)
        · rw [if_pos h3] at hsc
          simp only [cond_false] at hsc
          simp (disch := omega) only [go_sem, ↓if_pos, ne_eq, ↓reduceIte]
          first | refine iteW_dec (fun h4 => ?_) (fun h4 => ?_) | refine iteW_of (fun h4 => ?_) (fun h4 => ?_)
          · have e : (next == 0) = true := by simpa using h4
            rw [e] at hsc
            simp only [cond_true] at hsc
            simp (disch := omega) only [go_sem, ↓if_pos, ne_eq, ↓reduceIte]
            refine ih2 (i + 1, one) _ _ ⟨by simp only; omega, hsc⟩ (by simp only; omega) (by simp (disch := omega) only [subT, Int.natCast_add, Int.cast_ofNat_Int, go_sem, ↓if_pos, ne_eq, ↓reduceIte] <;> (repeat' apply And.intro) <;> first | rfl | (congr 1; omega) | assumption) rfl
          · have e : (next == 0) = false := by simpa using h4
            rw [e] at hsc
            simp only [cond_false] at hsc
            simp (disch := omega) only [go_sem, ↓if_pos, ne_eq, ↓reduceIte]
            refine ih2 (i + 1, next) _ _ ⟨by simp only; omega, hsc⟩ (by simp only; omega) (by simp (disch := omega) only [subT, Int.natCast_add, Int.cast_ofNat_Int, go_sem, ↓if_pos, ne_eq, ↓reduceIte] <;> (repeat' apply And.intro) <;> first | rfl | (congr 1; omega) | assumption) rfl
        · rw [if_neg h3] at hsc
          simp only [cond_false] at hsc
          have e : (bif next == 0 then 0 else next) = next := by cases hn0 : next == 0 <;> simp at hn0 ⊢; omega
          rw [e] at hsc
          simp (disch := omega) only [go_sem, ↓if_pos, ne_eq, ↓reduceIte]
          refine ih2 (i + 1, next) _ _ ⟨by simp only; omega, hsc⟩ (by simp only; omega) (by simp (disch := omega) only [subT, Int.natCast_add, Int.cast_ofNat_Int, go_sem, ↓if_pos, ne_eq, ↓reduceIte] <;> (repeat' apply And.intro) <;> first | rfl | (congr 1; omega) | assumption) rfl
  · rw [List.drop_of_length_le (by omega)] at hsc
    simp only [scanGo] at hsc
    simp (disch := omega) only [go_sem, ↓if_pos, ne_eq, ↓reduceIte]
    first | refine iteW_dec (fun hd => ?_) (fun hd => ?_) | refine iteW_of (fun hd => ?_) (fun hd => ?_)
    · have e : (next == 0) = true := by simpa using hd
      simp only [propGo, hsc, e, cond_true] at hgo
      subst hgo
      simp (disch := omega) only [go_sem, ↓if_pos, ne_eq, ↓reduceIte]
      exact W_retC c166_ok rfl ⟨ho.le, frz_tup (by exact ⟨ho.conv.2, .refl _, trivial⟩)⟩ ⟨rfl, rfl⟩
    · have e : (next == 0) = false := by simpa using hd
      have hfr := scanGo_free (vals := v2) (cls := cls) (i := 0) (next := 0) (.inl rfl)
      rw [hsc] at hfr
      obtain ⟨hf, hin⟩ := hfr.resolve_left hd
      obtain ⟨c, hcm, hnm⟩ := hin.resolve_right hd
      have hlo := hc.2 c hcm next hnm
      have hz := zeros_set hl2 ht2 hlo hf
      simp (disch := omega) only [go_sem, ↓if_pos, ne_eq, ↓reduceIte]
      refine SRun.callR (l02Set_ok hb (by omega) hl2 hlo hv) ⟨[], rfl, rfl⟩ rfl ?_
      simp (disch := omega) only [List.getD_cons_zero, List.getD_cons_succ, go_sem, ↓if_pos, ne_eq, ↓reduceIte]
      have ho2 := ho.upd (c' := ints (setT v2 next)) (upd_same _ bv _)
      rw [upd_upd] at ho2
      refine SRun.appL ho2 rfl (by simp [V.cells, V.one]) (by simp [ints]; omega) ?_
      intro r σ4 ho4
      rw [ints_app] at ho4
      simp (disch := omega) only [go_sem, ↓if_pos, ne_eq, ↓reduceIte]
      refine ih (setT v2 next, list ++ [next], r, σ4) _ _ ⟨by simp only [setT_length]; exact hlv, tri_set ht2 _, by simp; omega, ?_, ho4⟩ (by simp only; omega) (by simp (disch := omega) only [subT, Int.natCast_add, Int.cast_ofNat_Int, go_sem, ↓if_pos, ne_eq, ↓reduceIte] <;> (repeat' apply And.intro) <;> first | rfl | (congr 1; omega) | assumption) rfl
      rw [show zeros v2 + 1 = (zeros (setT v2 next) + 1) + 1 by omega] at hgo
      rw [propGo] at hgo
      simp only [hsc, e, cond_false] at hgo
      exact hgo
theorem findZ_at {vals : List Int} {i : Nat} (h1 : 1 ≤ i) (hi : i < vals.length) (h0 : vals.getD i 0 = 0) (hb : ∀ j, 1 ≤ j → j < i → vals.getD j 0 ≠ 0) : findZ (vals.drop 1) 0 = (i : Int) - 1 := by
  have hf : (vals.drop 1).findIdx? (· == 0) = some (i - 1) := by
    rw [List.findIdx?_eq_some_iff_getElem]
    refine ⟨by simp; omega, ?_, fun j hj => ?_⟩
    · have e : 1 + (i - 1) = i := by omega
      have : vals[i] = 0 := by simpa [List.getD, hi] using h0
      have e' : i - 1 + 1 = i := by omega
      simp [e, e', this]
    · have := hb (j + 1) (by omega) (by omega)
      have hj2 : j + 1 < vals.length := by omega
      simp only [List.getD, hj2, List.getElem?_eq_getElem, Option.getD_some] at this
      simpa [Nat.add_comm 1 j] using this
  unfold findZ
  rw [hf]
  simp only; omega
theorem findZ_no {vals : List Int} (hb : ∀ j, 1 ≤ j → j < vals.length → vals.getD j 0 ≠ 0) : findZ (vals.drop 1) 0 = -1 := by
  have hf : (vals.drop 1).findIdx? (· == 0) = none := by
    rw [List.findIdx?_eq_none_iff]
    intro x hx
    obtain ⟨j, hj, rfl⟩ := List.getElem_of_mem hx
    simp only [List.length_drop] at hj
    have := hb (j + 1) (by omega) (by omega)
    have hj2 : j + 1 < vals.length := by omega
    simp only [List.getD, hj2, List.getElem?_eq_getElem, Option.getD_some] at this
    simpa [Nat.add_comm 1 j] using this
  unfold findZ; rw [hf]
theorem src_own {vals : List Int} {bv n cap : Nat} (h : σ bv = some (ints vals)) (hn : n = vals.length) : srcV σ 1 (.msl bv 1 0 n cap) = some (flat (ints vals), (ints vals).length) := by
  subst hn
  simp only [srcV, if_true, h, flat_ints, ints_len, Nat.zero_add, Nat.mul_one, Nat.le_refl, List.drop_zero]
  rw [List.take_of_length_le (by rw [ints_len]; exact Nat.le_refl _)]
theorem l02Least_ok {ex : Bool} {vars : Int} {cls : List (List Int)} (hv : 0 ≤ vars ∧ vars ≤ 1000000) (hc : ClsOK vars cls) : ∀ (fu : Nat) (σ : St) (vals : List Int) (bv n cap : Nat), zeros vals < fu → σ bv = some (ints vals) → n = vals.length → (vals.length : Int) = vars + 1 → tri vals →
    ACalls Try.prog Γ 89 [.isl ex 1 (clsV cls), .msl bv 1 0 n cap] σ fun r σ' => σ' = σ ∧ ((solveP cls fu vals = none ∧ r = .tup [intsV [], .bool false]) ∨ ∃ v, solveP cls fu vals = some v ∧ r = .tup [intsV v, .bool true]) := by
  intro fu
  induction fu with
  | zero => intro σ vals bv n cap hz; omega
  | succ fu ihf =>
    intro σ vals bv n cap hz hb hn hl ht
    generalize hS : solveP cls (fu + 1) vals = S
    obtain ⟨k1, k2, k3⟩ := propGo_keeps hc (zeros vals + 1) vals [] hl ht
    refine acalls_W c89_ok rfl ?_
    simp (disch := omega) only [c89, go_sem, ↓if_pos, ne_eq, ↓reduceIte]
    refine SRun.appS (OwnL.nil 1 1) (src_own hb hn) (ints_ok _) (by simp only [List.length_nil, ints_len]; omega) ?_
    intro r6 σ1 ho
    rw [List.nil_append] at ho
    obtain ⟨b6, cap6, rfl, hb6, hcap6, hn6, rfl⟩ := ho.at (by intro e; have := congrArg List.length e; simp [ints] at this; rw [this] at hl; simp at hl; omega)
    rw [flat_ints, ints_len] at *
    simp (disch := omega) only [go_sem, ↓if_pos, ne_eq, ↓reduceIte]
    refine SRun.callR (l02Run_ok (ex := ex) hb6 rfl hl ht hv.2 hc) ⟨[], rfl, rfl⟩ rfl ?_
    simp (disch := omega) only [List.getD_cons_zero, List.getD_cons_succ, go_sem, ↓if_pos, ne_eq, ↓reduceIte]
    simp only [solveP] at hS
    generalize propGo cls (zeros vals + 1) vals [] = R at k1 k2 k3 hS
    obtain ⟨lst, ix, v2⟩ := R
    dsimp only at k1 k2 k3 hS ⊢
    rw [← k1]
    have hl2 : (v2.length : Int) = vars + 1 := by omega
    have hle : ∀ x, ∀ c y, σ c = some y → upd σ b6 x c = some y := fun x => le_upd hn6
    first | refine iteW_dec (fun hq => ?_) (fun hq => ?_) | refine iteW_of (fun hq => ?_) (fun hq => ?_)
    · have e : decide (ix ≥ 0) = true := decide_eq_true hq
      rw [e] at hS
      simp only [cond_true] at hS
      simp (disch := omega) only [go_sem, ↓if_pos, ne_eq, ↓reduceIte]
      exact W_retC c89_ok (r := .tup [.isl true 0 [], .bool false]) rfl ⟨hle _, frz_tup (by exact ⟨frz_nil _ _, .refl _, trivial⟩)⟩ ⟨rfl, .inl ⟨hS.symm, rfl⟩⟩
    · have e : decide (ix ≥ 0) = false := decide_eq_false hq
      rw [e] at hS
      simp only [cond_false] at hS
      simp (disch := omega) only [go_sem, ↓if_pos, ne_eq, ↓reduceIte]
      have hil : (ints v2).length = v2.length := ints_len _
      refine W_loopC (fun i : Nat => 1 ≤ i ∧ i ≤ v2.length ∧ ∀ j, 1 ≤ j → j < i → v2.getD j 0 ≠ 0) (fun i => [(0, .isl ex 1 (clsV cls)), (6, .msl b6 1 0 v2.length cap6), (9, .int .i64 i)])
        (fun _ => upd σ b6 (ints v2)) (fun i => v2.length - i) 1 ⟨by omega, by omega, fun j h1 h2 => by omega⟩ (by simp (disch := omega) only [subT, Int.natCast_add, Int.cast_ofNat_Int, go_sem, ↓if_pos, ne_eq, ↓reduceIte] <;> (repeat' apply And.intro) <;> first | rfl | (congr 1; omega) | assumption) rfl ?_
      rintro i ⟨h1, h2, hnz⟩ ih
      simp (disch := omega) only [go_sem, ↓if_pos, ne_eq, ↓reduceIte]
      first | refine iteW_dec (fun hi => ?_) (fun hi => ?_) | refine iteW_of (fun hi => ?_) (fun hi => ?_)
      · have hget : (ints v2)[i]? = some (.int .i64 (v2.getD i 0)) := ints_get (getD_some 0 (by omega))
        simp (disch := omega) only [hget, go_sem, ↓if_pos, ne_eq, ↓reduceIte]
        first | refine iteW_dec (fun h0 => ?_) (fun h0 => ?_) | refine iteW_of (fun h0 => ?_) (fun h0 => ?_)
        · simp (disch := omega) only [go_sem, ↓if_pos, ne_eq, ↓reduceIte]
          refine ih (i + 1) _ _ ⟨by omega, by omega, fun j g1 g2 => ?_⟩ (by omega) (by simp (disch := omega) only [subT, Int.natCast_add, Int.cast_ofNat_Int, go_sem, ↓if_pos, ne_eq, ↓reduceIte] <;> (repeat' apply And.intro) <;> first | rfl | (congr 1; omega) | assumption) rfl
          by_cases hji : j = i
          · subst hji; exact h0
          · exact hnz j g1 (by omega)
        · have h0' : v2.getD i 0 = 0 := by omega
          have hz1 := findZ_at h1 (by omega) h0' hnz
          have hz2 : findZ (v2.drop 1) 0 + 1 = (i : Int) := by omega
          obtain ⟨hlit, _, hf1, hf2⟩ := findZ_get hl2 (by omega : findZ (v2.drop 1) 0 + 1 ≠ 0)
          rw [hz2] at hlit hf1 hf2 hS
          have e0 : ((i : Int) == 0) = false := by simp; omega
          rw [e0] at hS
          simp only [cond_false] at hS
          have hlitn : litOK vars (-(i : Int)) := litOK_neg hlit
          have hzs1 := zeros_set hl2 k2 hlitn hf2
          have hzs2 := zeros_set hl2 k2 hlit hf1
          have es1 : v2.set i (-1) = setT v2 (-(i : Int)) := by rw [setT_neg (by omega)]; congr 1; omega
          have es2 : v2.set i 1 = setT v2 (i : Int) := by rw [setT_pos (by omega)]; congr 1
          have hln : (setT v2 (-(i : Int))).length = v2.length := setT_length _ _
          have hln2 : (setT v2 (i : Int)).length = v2.length := setT_length _ _
          simp (disch := omega) only [ints_set, es1, go_sem, ↓if_pos, ne_eq, ↓reduceIte]
          refine SRun.callQ (ihf _ (setT v2 (-(i : Int))) b6 v2.length cap6 (by omega) (upd_same _ _ _) hln.symm (by omega) (tri_set k2 _)) ⟨[], rfl, rfl⟩ rfl ?_
          rintro r s ⟨rfl, ⟨hn1, rfl⟩ | ⟨v, hs1, rfl⟩⟩
          · rw [hn1] at hS
            dsimp only at hS
            have es3 : (setT v2 (-(i : Int))).set i 1 = setT v2 (i : Int) := by rw [← es1, List.set_set, es2]
            have hil2 : (ints (setT v2 (-(i : Int)))).length = v2.length := by rw [ints_len, hln]
            simp (disch := omega) only [ints_set, es3, go_sem, ↓if_pos, ne_eq, ↓reduceIte]
            refine SRun.callQ (ihf _ (setT v2 (i : Int)) b6 v2.length cap6 (by omega) (upd_same _ _ _) hln2.symm (by omega) (tri_set k2 _)) ⟨[], rfl, rfl⟩ rfl ?_
            rintro r s ⟨rfl, ⟨hn2, rfl⟩ | ⟨v, hs2, rfl⟩⟩
            · rw [hn2] at hS
              simp (disch := omega) only [go_sem, ↓if_pos, ne_eq, ↓reduceIte]
              exact W_retC c89_ok rfl (Conv.drop _ (hle _)) ⟨rfl, .inl ⟨hS.symm, rfl⟩⟩
            · rw [hs2] at hS
              simp (disch := omega) only [go_sem, ↓if_pos, ne_eq, ↓reduceIte]
              exact W_retC c89_ok rfl (Conv.drop _ (hle _)) ⟨rfl, .inr ⟨v, hS.symm, rfl⟩⟩
          · rw [hs1] at hS
            dsimp only at hS
            simp (disch := omega) only [go_sem, ↓if_pos, ne_eq, ↓reduceIte]
            exact W_retC c89_ok rfl (Conv.drop _ (hle _)) ⟨rfl, .inr ⟨v, hS.symm, rfl⟩⟩
      · have hz1 := findZ_no (vals := v2) fun j g1 g2 => hnz j g1 (by omega)
        rw [hz1] at hS
        simp at hS
        simp (disch := omega) only [go_sem, ↓if_pos, ne_eq, ↓reduceIte]
        refine W_retC c89_ok (r := .tup [.msl b6 1 0 v2.length cap6, .bool true]) (r' := .tup [intsV v2, .bool true]) rfl ⟨hle _, frz_tup (by exact ⟨frz_row (upd_same _ _ _) hn6 hil (ints_one _), .refl _, trivial⟩)⟩ ⟨rfl, .inr ⟨v2, hS.symm, rfl⟩⟩
end
section
attribute [local irreducible] SRun DS DRun
variable {Γ : St} {σ σ0 : St}
theorem zeroVals_len {vars : Int} (hv : 0 ≤ vars) : ((zeroVals vars).length : Int) = vars + 1 := by simp only [zeroVals, List.length_replicate]; omega
theorem zeroVals_tri (vars : Int) : tri (zeroVals vars) := fun x hx => by have := List.eq_of_mem_replicate hx; omega
theorem zeroVals_flat {vars : Int} {N : Nat} (hN : vars + 1 = N) : (List.replicate N [V.int IntKind.i64 0]).flatten = ints (zeroVals vars) := by
  have : (vars + 1).toNat = N := by omega
  simp [zeroVals, this, ints]
theorem specLeast_ok {vars : Int} {cls : List (List Int)} (hb : cnfB vars cls = true) :
    Ret Try.prog Γ 32 [cnfV vars cls] σ (.tup [boolsV (leastA (modelP vars cls)).1, .int .i64 (leastA (modelP vars cls)).2]) σ := by
  obtain ⟨hc, hv0, hv40, hcl⟩ := clsOK_of hb
  obtain ⟨N, hN⟩ : ∃ N : Nat, vars + 1 = N := ⟨(vars + 1).toNat, by omega⟩
  have hl0 := zeroVals_len hv0
  have hz0 : zeros (zeroVals vars) < vars.toNat + 2 := by
    have : zeros (zeroVals vars) ≤ ((zeroVals vars).drop 1).length := List.count_le_length
    simp only [List.length_drop] at this
    omega
  refine ret_of c32_ok rfl ?_
  simp (disch := omega) only [c32, cnfV, go_sem, ↓if_pos, ne_eq, ↓reduceIte]
  refine SRun.boxR (by simp [ev, look, V.cells, V.one]) ?_
  intro b1 hb1
  simp (disch := omega) only [go_sem, ↓if_pos, ne_eq, ↓reduceIte]
  refine SRun.callR (cnfOK_ok hb) ⟨[], rfl, rfl⟩ rfl ?_
  simp (disch := omega) only [go_sem, ↓if_pos, ne_eq, ↓reduceIte]
  rw [W_draw]
  refine DRun.start (DRun.mixN rfl ?_)
  simp (disch := omega) only [hN, go_sem, ↓if_pos, ne_eq, ↓reduceIte]
  refine DS.wrQ (WrF.mksl (n' := N) (m := N) rfl rfl rfl (Nat.le_refl _) (by omega) (by omega)) rfl ?_
  rintro r s ⟨b7, _, rfl, rfl⟩ hd
  have hb7 := disj_new hd
  have hn7 := upd_none.1 hb7
  simp (disch := omega) only [cup_new, go_sem, ↓if_pos, ne_eq, ↓reduceIte]
  rw [zeroVals_flat hN]
  refine DRun.callQ (l02Least_ok (ex := false) (by omega) hc (vars.toNat + 2) _ (zeroVals vars) b7 N N hz0 (upd_same _ b7 _) (by omega) hl0 (zeroVals_tri _)) ⟨[], rfl, rfl⟩ ?_
  have hle : ∀ x, ∀ c y, σ c = some y → upd (upd σ b1 [.int .i64 vars, .isl false 1 (clsV cls)]) b7 x c = some y := fun x c y h => le_upd hb7 _ _ (le_upd hb1 _ _ h)
  rintro r s ⟨rfl, ⟨hs, rfl⟩ | ⟨v, hs, rfl⟩⟩
  · have hm : modelP vars cls = none := hs
    rw [hm]
    simp (disch := omega) only [go_sem, ↓if_pos, ne_eq, ↓reduceIte]
    exact W_retC c32_ok (r := .tup [.isl true 1 [], .int .i64 6]) (r' := .tup [boolsV [], .int .i64 6]) rfl ⟨hle _, frz_tup (by exact ⟨frz_nil _ _, .refl _, trivial⟩)⟩ ⟨rfl, rfl⟩
  · have hm : modelP vars cls = some v := hs
    rw [hm]
    have hvl := (solveP_len hc _ _ _ hl0 (zeroVals_tri _) hs).1
    simp (disch := omega) only [intsV, go_sem, ↓if_pos, ne_eq, ↓reduceIte]
    refine W_loopC (fun p : Nat × V × St => 1 ≤ p.1 ∧ p.1 ≤ v.length ∧ OwnL (upd (upd σ b1 [.int .i64 vars, .isl false 1 (clsV cls)]) b7 (ints (zeroVals vars))) 1 (bools ((valsB v).take (p.1 - 1))) p.2.1 p.2.2) (fun p => [(4, .isl false 1 (ints v)), (6, p.2.1), (7, .int .i64 p.1)])
      (fun p => p.2.2) (fun p => v.length - p.1) (1, _, _) ⟨by simp, by simp only; omega, OwnL.nil 1 1⟩ (by simp (disch := omega) only [subT, Int.natCast_add, Int.cast_ofNat_Int, go_sem, ↓if_pos, ne_eq, ↓reduceIte] <;> (repeat' apply And.intro) <;> first | rfl | (congr 1; omega) | assumption) rfl ?_
    rintro ⟨i, r6, σ1⟩ ⟨h1, h2, ho⟩ ih
    dsimp only at h1 h2 ho ⊢
    simp (disch := omega) only [go_sem, ↓if_pos, ne_eq, ↓reduceIte]
    first | refine iteW_dec (fun hq => ?_) (fun hq => ?_) | refine iteW_of (fun hq => ?_) (fun hq => ?_)
    · simp (disch := omega) only [go_sem, ↓if_pos, ne_eq, ↓reduceIte]
      have hbl : (bools ((valsB v).take (i - 1))).length ≤ 1000 := by simp [bools, valsB]; omega
      refine SRun.appL ho rfl (by simp [V.cells, V.one]) (by simp only [List.length_cons, List.length_nil]; omega) ?_
      intro r σ4 ho4
      simp (disch := omega) only [go_sem, ↓if_pos, ne_eq, ↓reduceIte]
      refine ih (i + 1, r, σ4) _ _ ⟨by simp only; omega, by simp only; omega, ?_⟩ (by simp only; omega) (by simp (disch := omega) only [subT, Int.natCast_add, Int.cast_ofNat_Int, go_sem, ↓if_pos, ne_eq, ↓reduceIte] <;> (repeat' apply And.intro) <;> first | rfl | (congr 1; omega) | assumption) rfl
      have hlv : (valsB v).length = v.length - 1 := by simp [valsB]
      have e1 : (valsB v).getD (i - 1) false = (v.getD i 0 == 1) := by
        have : i - 1 + 1 = i := by omega
        have hi : i < v.length := by omega
        simp [valsB, List.getD, this, hi]
      have e2 : bools ((valsB v).take (i + 1 - 1)) = bools ((valsB v).take (i - 1)) ++ [.bool (decide (v.getD i 0 = 1))] := by
        rw [show i + 1 - 1 = (i - 1) + 1 by omega, take_succ false (by omega), e1, int_beq]; simp [bools]
      rw [e2]; exact ho4
    · have hlv : (valsB v).length = v.length - 1 := by simp [valsB]
      rw [List.take_of_length_le (by omega)] at ho
      simp (disch := omega) only [go_sem, ↓if_pos, ne_eq, ↓reduceIte]
      refine W_retC c32_ok (r := .tup [r6, .int .i64 0]) (r' := .tup [boolsV (valsB v), .int .i64 0]) rfl ⟨fun c y h => ho.le _ _ (hle _ c y h), frz_tup (by
        refine ⟨ho.frz (fun _ _ => rfl) (fun b hb => ?_), .refl _, trivial⟩
        exact (upd_none.1 (upd_none.1 hb).2).2)⟩ ⟨rfl, rfl⟩
end
section
end
end Go.Proofs.Ytlidjjjpjndneaa.Lg
