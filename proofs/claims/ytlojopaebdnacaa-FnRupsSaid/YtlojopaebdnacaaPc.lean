/- The plain law of FnPropagates. No program is in sight here. -/
import Derived.Test.YtlojopaebdnacaaSc
set_option linter.unusedSimpArgs false
set_option linter.unusedVariables false
namespace Go.Proofs.Ytlojopaebdnacaa.Lg
open Go
theorem agrees_set {vars : Int} {vals : List Int} {bs : List Bool} {y : Int} (hl : (vals.length : Int) = vars + 1) (hy : litOK vars y) (ha : agrees vars vals bs) (hyt : litV bs y = true) : agrees vars (setT vals y) bs := by
  intro x hx hxt
  rw [isT_setT hl hx hy] at hxt
  split at hxt
  · rename_i e; rw [e]; exact hyt
  · split at hxt
    · cases hxt
    · exact ha x hx hxt
theorem negGo_agrees {vars : Int} {bs : List Bool} : ∀ {c vals v : List Int}, negGo vals c = some v → (vals.length : Int) = vars + 1 → (∀ x ∈ c, litOK vars x) → agrees vars vals bs → (∀ x ∈ c, litV bs x = false) → agrees vars v bs := by
  intro c
  induction c with
  | nil => intro vals v h _ _ ha _; simp only [negGo, Option.some.injEq] at h; subst h; exact ha
  | cons x r ih =>
    intro vals v h hl hc ha hf
    simp only [negGo] at h
    cases h1 : isT vals x with
    | true => rw [h1] at h; cases h
    | false =>
      rw [h1] at h
      have hx := hc x (by simp)
      exact ih h (by rw [setT_length]; exact hl) (fun y hy => hc y (by simp [hy])) (agrees_set hl (litOK_neg hx) ha (by rw [litV_neg hx.1, hf x (by simp)]; rfl)) (fun y hy => hf y (by simp [hy]))
theorem propGo_out {vars : Int} {cls : List (List Int)} (hc : ClsOK vars cls) : ∀ (f : Nat) (vals list : List Int), zeros vals < f → (vals.length : Int) = vars + 1 → tri vals → (∀ x ∈ list, litOK vars x ∧ isT vals x = true) →
    ∀ x ∈ (propGo cls f vals list).1, litOK vars x ∧ isT (propGo cls f vals list).2.2 x = true := by
  intro f
  induction f with
  | zero => intro vals list h; omega
  | succ f ih =>
    intro vals list hz hl ht hin0
    have hfr := scanGo_free (vals := vals) (cls := cls) (i := 0) (next := 0) (.inl rfl)
    simp only [propGo]
    generalize scanGo vals cls 0 0 = q at hfr
    obtain ⟨o, next⟩ := q
    cases o with
    | some i => exact hin0
    | none =>
      simp only
      cases hd : next == 0 with
      | true => exact hin0
      | false =>
        simp only [cond_false]
        have hne : next ≠ 0 := by simpa using hd
        obtain ⟨hf, hin⟩ := hfr.resolve_left hne
        obtain ⟨c0, hcm0, hnm⟩ := hin.resolve_right hne
        have hlo := hc.2 c0 hcm0 next hnm
        have hzs := zeros_set hl ht hlo hf
        refine ih (setT vals next) (list ++ [next]) (by omega) (by rw [setT_length]; exact hl) (tri_set ht _) fun x hx => ?_
        rcases List.mem_append.1 hx with hx | hx
        · obtain ⟨h1, h2⟩ := hin0 x hx
          refine ⟨h1, ?_⟩
          rw [isT_setT hl h1 hlo]
          split
          · rfl
          · split
            · rename_i e; subst e; rw [hf.2] at h2; cases h2
            · exact h2
        · simp only [List.mem_singleton] at hx
          subst hx
          exact ⟨hlo, by rw [isT_setT hl hlo hlo, if_pos rfl]⟩
theorem propGo_len {vars : Int} {cls : List (List Int)} (hc : ClsOK vars cls) : ∀ (f : Nat) (vals list : List Int), zeros vals < f → (vals.length : Int) = vars + 1 → tri vals → (propGo cls f vals list).1.length ≤ list.length + zeros vals := by
  intro f
  induction f with
  | zero => intro vals list h; omega
  | succ f ih =>
    intro vals list hz hl ht
    have hfr := scanGo_free (vals := vals) (cls := cls) (i := 0) (next := 0) (.inl rfl)
    simp only [propGo]
    generalize scanGo vals cls 0 0 = q at hfr
    obtain ⟨o, next⟩ := q
    cases o with
    | some i => simp only; omega
    | none =>
      simp only
      cases hd : next == 0 with
      | true => simp only [cond_true]; omega
      | false =>
        simp only [cond_false]
        have hne : next ≠ 0 := by simpa using hd
        obtain ⟨hf, hin⟩ := hfr.resolve_left hne
        obtain ⟨c0, hcm0, hnm⟩ := hin.resolve_right hne
        have hlo := hc.2 c0 hcm0 next hnm
        have hzs := zeros_set hl ht hlo hf
        have := ih (setT vals next) (list ++ [next]) (by omega) (by rw [setT_length]; exact hl) (tri_set ht _)
        simp only [List.length_append, List.length_singleton] at this
        omega
theorem propA_len {vars : Int} {cls : List (List Int)} {c : List Int} (hv : 0 ≤ vars) (hcls : ClsOK vars cls) : ((propA vars cls c).1.length : Int) ≤ vars + 1 := by
  unfold propA
  cases h : negGo (zeroVals vars) (c.map fun x => -x) with
  | none => simp only [List.length_nil]; omega
  | some v =>
    obtain ⟨hl, ht⟩ := negGo_keeps h (zeroVals_len hv) (zeroVals_tri _)
    have h1 := propGo_len hcls (zeros v + 1) v [] (Nat.lt_succ_self _) hl ht
    have h2 : zeros v ≤ (v.drop 1).length := List.count_le_length
    simp only [List.length_nil, List.length_drop] at h1 h2
    simp only
    omega
theorem zeros_zero {vars : Int} {v : List Int} : zeros v < zeros v + 1 := Nat.lt_succ_self _
/-- What follows from literals is true in each model in which they are. -/
theorem propA_law {vars : Int} {cls : List (List Int)} {c : List Int} (hv : 0 ≤ vars) (hcls : ClsOK vars cls) (hc : ∀ x ∈ c, litOK vars x) :
    ((propA vars cls c).2.2 = 8 ∨ (propA vars cls c).2.2 = 0) ∧ (∀ x ∈ (propA vars cls c).1, litOK vars x) ∧ ((propA vars cls c).2.2 = 0 → ∀ bs, evalB cls bs = true → c.all (litV bs) = true → (propA vars cls c).2.1 < 0 ∧ (propA vars cls c).1.all (litV bs) = true) := by
  unfold propA
  cases h : negGo (zeroVals vars) (c.map fun x => -x) with
  | none => exact ⟨.inl rfl, fun x hx => (by cases hx), fun h0 => by simp only at h0; omega⟩
  | some v =>
    have hl0 := zeroVals_len hv
    obtain ⟨hl, ht⟩ := negGo_keeps h hl0 (zeroVals_tri _)
    have hout := propGo_out hcls (zeros v + 1) v [] (Nat.lt_succ_self _) hl ht (fun x hx => by cases hx)
    refine ⟨.inr rfl, fun x hx => (hout x hx).1, fun _ bs hev hall => ?_⟩
    obtain ⟨s1, s2, s3⟩ := propGo_spec hcls (zeros v + 1) v [] (Nat.lt_succ_self _) hl ht
    have hag : agrees vars v bs := by
      refine negGo_agrees h hl0 (fun x hx => ?_) (fun x hx hxt => by rw [isT_zero hx] at hxt; cases hxt) (fun x hx => ?_)
      · obtain ⟨y, hy, rfl⟩ := List.mem_map.1 hx
        exact litOK_neg (hc y hy)
      · obtain ⟨y, hy, rfl⟩ := List.mem_map.1 hx
        rw [litV_neg (hc y hy).1, List.all_eq_true.1 hall y hy]; rfl
    obtain ⟨h1, h2⟩ := s2 bs hag hev
    refine ⟨h1, ?_⟩
    rw [List.all_eq_true]
    intro x hx
    obtain ⟨g1, g2⟩ := hout x hx
    exact h2 x g1 g2
end Go.Proofs.Ytlojopaebdnacaa.Lg
