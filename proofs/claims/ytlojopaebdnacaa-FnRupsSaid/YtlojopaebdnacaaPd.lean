/- The plain law of FnRups: what is RUP is implied, what is RAT takes no last model. No program is in sight here. -/
import Derived.Test.YtlojopaebdnacaaMg
import Derived.Test.YtlojopaebdnacaaPc
set_option linter.unusedSimpArgs false
set_option linter.unusedVariables false
namespace Go.Proofs.Ytlojopaebdnacaa.Lg
open Go
theorem negGo_none {vars : Int} {bs : List Bool} : ∀ {c vals : List Int}, negGo vals c = none → (vals.length : Int) = vars + 1 → (∀ x ∈ c, litOK vars x) → agrees vars vals bs → (∀ x ∈ c, litV bs x = false) → False := by
  intro c
  induction c with
  | nil => intro vals h; simp [negGo] at h
  | cons x r ih =>
    intro vals h hl hc ha hf
    simp only [negGo] at h
    have hx := hc x (by simp)
    cases h1 : isT vals x with
    | true => have := ha x hx h1; rw [hf x (by simp)] at this; cases this
    | false =>
      rw [h1] at h
      exact ih h (by rw [setT_length]; exact hl) (fun y hy => hc y (by simp [hy])) (agrees_set hl (litOK_neg hx) ha (by rw [litV_neg hx.1, hf x (by simp)]; rfl)) (fun y hy => hf y (by simp [hy]))
theorem agrees_zero (vars : Int) (bs : List Bool) : agrees vars (zeroVals vars) bs := fun x hx hxt => by rw [isT_zero hx] at hxt; cases hxt
theorem rup_sound {vars : Int} {cls : List (List Int)} {c : List Int} (hv : 0 ≤ vars) (hcls : ClsOK vars cls) (hc : ∀ x ∈ c, litOK vars x) (h : rupP vars cls c = true) {bs : List Bool} (he : evalB cls bs = true) : c.any (litV bs) = true := by
  cases ha : c.any (litV bs) with
  | true => rfl
  | false =>
    exfalso
    have hf : ∀ x ∈ c, litV bs x = false := fun x hx => by
      rw [List.any_eq_false] at ha; simpa using ha x hx
    have hl0 := zeroVals_len hv
    unfold rupP at h
    cases hn : negGo (zeroVals vars) c with
    | none => exact negGo_none hn hl0 hc (agrees_zero _ _) hf
    | some v =>
      rw [hn] at h
      obtain ⟨hl, ht⟩ := negGo_keeps hn hl0 (zeroVals_tri _)
      have hag := negGo_agrees hn hl0 hc (agrees_zero _ _) hf
      have := ((propGo_spec hcls (zeros v + 1) v [] (Nat.lt_succ_self _) hl ht).2.1 bs hag he).1
      simp at h; omega
theorem rup_refuted {vars : Int} {cls : List (List Int)} {c : List Int} (h : rupP vars cls c = true) : refutedP vars cls c = true := by
  unfold rupP at h
  unfold refutedP
  cases hn : negGo (zeroVals vars) c with
  | none => rfl
  | some v =>
    rw [hn] at h
    simp only at h
    simp only [solveP, h, cond_true, Option.isNone_none]
theorem litV_set {vars l : Int} {bs : List Bool} (hl : litOK vars l) (hbl : (bs.length : Int) = vars) {x : Int} (hx : litOK vars x) : litV (bs.set (l.natAbs - 1) (decide (l > 0))) x = if x = l then true else if x = -l then false else litV bs x := by
  have h1 := hl.1
  have h2 := hl.2
  have h3 := hx.1
  have h4 := hx.2
  unfold litV
  by_cases he : l.natAbs = x.natAbs
  · have hg : (bs.set (l.natAbs - 1) (decide (l > 0))).getD (x.natAbs - 1) false = decide (l > 0) := by
      rw [← he]; simp [List.getD, (by omega : l.natAbs - 1 < bs.length)]
    rw [hg]
    by_cases hxl : x = l
    · subst hxl; simp
    · have hxn : x = -l := by omega
      rw [if_neg hxl, if_pos hxn]
      by_cases hp : l > 0
      · rw [decide_eq_true hp, decide_eq_false (by omega)]; rfl
      · rw [decide_eq_false hp, decide_eq_true (by omega)]; rfl
  · have hg : (bs.set (l.natAbs - 1) (decide (l > 0))).getD (x.natAbs - 1) false = bs.getD (x.natAbs - 1) false := by
      simp [List.getD, List.getElem?_set_ne (by omega : l.natAbs - 1 ≠ x.natAbs - 1)]
    rw [hg, if_neg (by omega), if_neg (by omega)]
theorem rat_sound {vars : Int} {cls : List (List Int)} {c : List Int} (hv : 0 ≤ vars) (hcls : ClsOK vars cls) (hc : ∀ x ∈ c, litOK vars x) (h : ratP vars cls c = true) {bs : List Bool} (hbl : (bs.length : Int) = vars) (he : evalB cls bs = true) : ∃ bs', evalB (cls ++ [c]) bs' = true := by
  cases c with
  | nil => simp [ratP] at h
  | cons l r =>
    have hl := hc l (by simp)
    have happ : ∀ bs, evalB (cls ++ [l :: r]) bs = (evalB cls bs && (l :: r).any (litV bs)) := fun bs => by simp [evalB, List.all_append]
    cases ha : (l :: r).any (litV bs) with
    | true => exact ⟨bs, by rw [happ, he, ha]; rfl⟩
    | false =>
      have hf : ∀ x ∈ l :: r, litV bs x = false := fun x hx => by
        rw [List.any_eq_false] at ha; simpa using ha x hx
      refine ⟨bs.set (l.natAbs - 1) (decide (l > 0)), ?_⟩
      rw [happ, Bool.and_eq_true]
      have hset := fun {x} (hx : litOK vars x) => litV_set hl hbl hx
      refine ⟨?_, List.any_eq_true.2 ⟨l, by simp, by rw [hset hl, if_pos rfl]⟩⟩
      simp only [evalB, List.all_eq_true, List.any_eq_true]
      intro d hd
      have keep : ∀ y ∈ d, y ≠ -l → litV bs y = true → ∃ x ∈ d, litV (bs.set (l.natAbs - 1) (decide (l > 0))) x = true := by
        intro y hy hne hyt
        refine ⟨y, hy, ?_⟩
        rw [hset (hcls.2 d hd y hy), if_neg hne]
        split
        · rfl
        · exact hyt
      obtain ⟨y, hy, hyt⟩ := eval_mem he hd
      by_cases hne : y = -l
      · have hcon : d.contains (-l) = true := List.contains_iff_mem.2 (hne ▸ hy)
        have hr := List.all_eq_true.1 h d hd
        simp only [ratOf, hcon, Bool.not_true, Bool.false_or] at hr
        have hs := rup_sound hv hcls (fun x hx => by
          rcases List.mem_append.1 hx with h | h
          · exact hc x h
          · exact hcls.2 d hd x (List.mem_filter.1 h).1) hr he
        rw [List.any_append, ha, Bool.false_or, List.any_eq_true] at hs
        obtain ⟨z, hz, hzt⟩ := hs
        obtain ⟨hz1, hz2⟩ := List.mem_filter.1 hz
        exact keep z hz1 (by simpa using hz2) hzt
      · exact keep y hy hne hyt
theorem rat_law {vars : Int} {cls : List (List Int)} {c : List Int} (hv : 0 ≤ vars) (hcls : ClsOK vars cls) (hcls2 : ClsOK vars (cls ++ [c])) (hc : ∀ x ∈ c, litOK vars x) (h : ratP vars cls c = true) : (leastA (modelP vars cls)).2 = (leastA (modelP vars (cls ++ [c]))).2 := by
  obtain ⟨a1, a2⟩ := modelP_spec hv hcls
  obtain ⟨b1, b2⟩ := modelP_spec hv hcls2
  have happ : ∀ bs, evalB (cls ++ [c]) bs = (evalB cls bs && c.any (litV bs)) := fun bs => by simp [evalB, List.all_append]
  cases h1 : modelP vars cls with
  | none =>
    cases h2 : modelP vars (cls ++ [c]) with
    | none => rfl
    | some v =>
      have := (b2 v h2).1
      rw [happ, a1 h1] at this; cases this
  | some v =>
    cases h2 : modelP vars (cls ++ [c]) with
    | some v2 => rfl
    | none =>
      obtain ⟨bs', hb'⟩ := rat_sound hv hcls hc h (a2 v h1).2 (a2 v h1).1
      rw [b1 h2] at hb'; cases hb'
end Go.Proofs.Ytlojopaebdnacaa.Lg
