/- What is told of the functions that are reached, as far as it is asked here. -/
import Derived.Test.YtdenfjbhkdhlkaaKv2
import Derived.KernelRfl
set_option linter.unusedSimpArgs false
set_option linter.unusedVariables false
namespace Go.Proofs.Ytdenfjbhkdhlkaa.Lg
open Go
section
theorem isT_not {vals : List Int} {x : Int} (hx : x ≠ 0) (h : isT vals x = true) : isT vals (-x) = false := by
 rw [isT_val hx] at h
 rw [isT_val (by omega), Int.natAbs_neg]
 generalize vals.getD x.natAbs 0 = v at *
 by_cases hn : x < 0
 ·rw [if_pos hn] at h; rw [if_neg (by omega)]
  have : v = -1 := by simpa using h
  subst this; rfl
 ·rw [if_neg hn] at h; rw [if_pos (by omega)]
  have : v = 1 := by simpa using h
  subst this; rfl
/-- A clause that asks for nothing: it is true, or two of its literals are open. -/
def quiet (w c : List Int) : Prop := (∃ x ∈ c, isT w x = true) ∨ ∃ x ∈ c, ∃ y ∈ c, x ≠ y ∧ isT w (-x) = false ∧ isT w (-y) = false
theorem quiet_go {w : List Int} : ∀ {c : List Int} {one : Int}, (∀ x ∈ c, x ≠ 0) → unitGo w c one = (0, false) → quiet w c ∨ (one ≠ 0 ∧ ∃ x ∈ c, x ≠ one ∧ isT w (-x) = false) := by
 intro c
 induction c with
 | nil => intro one _ h; simp only [unitGo, Prod.mk.injEq] at h; rw [h.1] at h; exact absurd h.2 (by simp)
 | cons x r ih =>
  intro one hne h
  have hne' : ∀ y ∈ r, y ≠ 0 := fun y hy => hne y (by simp [hy])
  have lift : quiet w r → quiet w (x :: r) := by
   rintro (⟨y, hy, h⟩ | ⟨y, hy, z, hz, h⟩)
   ·exact .inl ⟨y, by simp [hy], h⟩
   ·exact .inr ⟨y, by simp [hy], z, by simp [hz], h⟩
  simp only [unitGo] at h
  cases h1 : isT w x with
  | true => exact .inl (.inl ⟨x, by simp, h1⟩)
  | false =>
   rw [h1] at h
   simp only [cond_false] at h
   cases h2 : (isT w (-x) || x == one) with
   | true =>
    rw [h2] at h
    simp only [cond_true] at h
    rcases ih hne' h with h3 | ⟨h3, y, hy, h4⟩
    ·exact .inl (lift h3)
    ·exact .inr ⟨h3, y, by simp [hy], h4⟩
   | false =>
    rw [h2] at h
    simp only [cond_false] at h
    simp only [Bool.or_eq_false_iff, beq_eq_false_iff_ne] at h2
    by_cases h3 : one = 0
    ·subst h3
     have h4 : unitGo w r x = (0, false) := by simpa using h
     rcases ih hne' h4 with h5 | ⟨h5, y, hy, h6, h7⟩
     ·exact .inl (lift h5)
     ·exact .inl (.inr ⟨x, by simp, y, by simp [hy], fun e => h6 e.symm, h2.1, h7⟩)
    ·exact .inr ⟨h3, x, by simp, h2.2, h2.1⟩
theorem quiet_of {w c : List Int} (hne : ∀ x ∈ c, x ≠ 0) (h : unitGo w c 0 = (0, false)) : quiet w c := (quiet_go hne h).resolve_right fun h => h.1 rfl
theorem scan_zero {vals : List Int} : ∀ {cls : List (List Int)} {i : Nat} {next : Int}, scanGo vals cls i next = (none, 0) → next = 0 ∧ ∀ c ∈ cls, unitGo vals c 0 = (0, false) := by
 intro cls
 induction cls with
 | nil => intro i next h; simp only [scanGo, Prod.mk.injEq] at h; exact ⟨h.2, fun c hc => by cases hc⟩
 | cons c r ih =>
  intro i next h
  simp only [scanGo] at h
  cases h1 : (unitGo vals c 0).2 with
  | true => rw [h1] at h; cases h
  | false =>
   rw [h1] at h
   simp only [cond_false] at h
   obtain ⟨h2, h3⟩ := ih h
   by_cases h4 : next = 0
   ·subst h4
    have h5 : (unitGo vals c 0).1 = 0 := by simpa using h2
    refine ⟨rfl, fun d hd => ?_⟩
    rcases List.mem_cons.1 hd with rfl | hd
    ·exact Prod.ext h5 h1
    ·exact h3 d hd
   ·have : (next == 0) = false := by simpa using h4
    rw [this] at h2
    exact absurd h2 h4
/-- What is known in the first is known in the second. -/
def under (vars : Int) (v w : List Int) : Prop := ∀ x, litOK vars x → isT v x = true → isT w x = true
theorem under.trans {vars : Int} {u v w : List Int} (h1 : under vars u v) (h2 : under vars v w) : under vars u w := fun x hx h => h2 x hx (h1 x hx h)
theorem under_set {vars x : Int} {v w : List Int} (hl : (v.length : Int) = vars + 1) (hx : litOK vars x) (hu : under vars v w) (hw : isT w x = true) : under vars (setT v x) w := by
 intro y hy h
 rw [isT_setT hl hy hx] at h
 split at h
 ·rename_i e; rw [e]; exact hw
 ·split at h
  ·cases h
  ·exact hu y hy h
theorem set_over {vars x : Int} {v : List Int} (hl : (v.length : Int) = vars + 1) (hx : litOK vars x) (hf : isT v (-x) = false) : under vars v (setT v x) := by
 intro y hy h
 rw [isT_setT hl hy hx]
 split
 ·rfl
 ·split
  ·rename_i e; subst e; rw [hf] at h; cases h
  ·exact h
theorem set_self {vars x : Int} {v : List Int} (hl : (v.length : Int) = vars + 1) (hx : litOK vars x) : isT (setT v x) x = true := by rw [isT_setT hl hx hx, if_pos rfl]
theorem quiet_false {vars : Int} {v w c : List Int} (hc : ∀ x ∈ c, litOK vars x) (hu : under vars v w) (hq : quiet w c) : (unitGo v c 0).2 = false := by
 cases h : (unitGo v c 0).2 with
 | false => rfl
 | true =>
  exfalso
  have h2 := (unit_false (fun x hx => (hc x hx).1) h).2
  rcases hq with ⟨x, hx, h3⟩ | ⟨x, hx, y, hy, _, h3, _⟩
  ·have h4 := hu _ (litOK_neg (hc x hx)) (h2 x hx)
   rw [isT_not (hc x hx).1 h3] at h4; cases h4
  ·have h4 := hu _ (litOK_neg (hc x hx)) (h2 x hx)
   rw [h3] at h4; cases h4
theorem quiet_unit {vars : Int} {v w c : List Int} (hc : ∀ x ∈ c, litOK vars x) (hu : under vars v w) (hq : quiet w c) (h : (unitGo v c 0).1 ≠ 0) : isT w (unitGo v c 0).1 = true := by
 have h2 := (unit_one (fun x hx => (hc x hx).1) h).2
 have neg : ∀ x ∈ c, isT v (-x) = true → isT w x = false ∧ ¬ isT w (-x) = false := fun x hx h3 => by
  have h4 := hu _ (litOK_neg (hc x hx)) h3
  refine ⟨?_, by rw [h4]; simp⟩
  have := isT_not (litOK_neg (hc x hx)).1 h4
  rwa [Int.neg_neg] at this
 rcases hq with ⟨x, hx, h3⟩ | ⟨x, hx, y, hy, hxy, h3, h4⟩
 ·rcases h2 x hx with h5 | h5
  ·rw [(neg x hx h5).1] at h3; cases h3
  ·rw [← h5]; exact h3
 ·rcases h2 x hx with h5 | h5
  ·exact absurd h3 (neg x hx h5).2
  ·rcases h2 y hy with h6 | h6
   ·exact absurd h4 (neg y hy h6).2
   ·exact absurd (h5.trans h6.symm) hxy
theorem propGo_quiet {vars : Int} {cls : List (List Int)} (hc : ClsOK vars cls) : ∀ (f : Nat) (vals list : List Int), zeros vals < f → (vals.length : Int) = vars + 1 → tri vals → (propGo cls f vals list).2.1 < 0 → ∀ c ∈ cls, quiet (propGo cls f vals list).2.2 c := by
 intro f
 induction f with
 | zero => intro vals list h; omega
 | succ f ih =>
  intro vals list hz hl ht
  have hfr := scanGo_free (vals := vals) (cls := cls) (i := 0) (next := 0) (.inl rfl)
  have hs := scan_zero (vals := vals) (cls := cls) (i := 0) (next := 0)
  simp only [propGo]
  generalize scanGo vals cls 0 0 = q at hfr hs
  obtain ⟨o, next⟩ := q
  cases o with
  | some i => intro h; simp only at h; omega
  | none =>
   simp only
   cases hd : next == 0 with
   | true =>
    intro _ c hcm
    have : next = 0 := by simpa using hd
    subst this
    exact quiet_of (fun x hx => (hc.2 c hcm x hx).1) ((hs rfl).2 c hcm)
   | false =>
    simp only [cond_false]
    have hne : next ≠ 0 := by simpa using hd
    obtain ⟨hf, hin⟩ := hfr.resolve_left hne
    obtain ⟨c0, hcm0, hnm⟩ := hin.resolve_right hne
    have hlo := hc.2 c0 hcm0 next hnm
    have hzs := zeros_set hl ht hlo hf
    exact ih (setT vals next) (list ++ [next]) (by omega) (by rw [setT_length]; exact hl) (tri_set ht _)
theorem propGo_least {vars : Int} {cls : List (List Int)} {w : List Int} (hc : ClsOK vars cls) (hq : ∀ c ∈ cls, quiet w c) : ∀ (f : Nat) (vals list : List Int), zeros vals < f → (vals.length : Int) = vars + 1 → tri vals → under vars vals w → (propGo cls f vals list).2.1 < 0 ∧ under vars (propGo cls f vals list).2.2 w := by
 intro f
 induction f with
 | zero => intro vals list h; omega
 | succ f ih =>
  intro vals list hz hl ht hu
  have hfr := scanGo_free (vals := vals) (cls := cls) (i := 0) (next := 0) (.inl rfl)
  have hs1 := fun j => scan_some (vals := vals) (cls := cls) (i := 0) (next := 0) (j := j)
  have hs2 := scan_none (vals := vals) (cls := cls) (i := 0) (next := 0)
  simp only [propGo]
  generalize scanGo vals cls 0 0 = q at hfr hs1 hs2
  obtain ⟨o, next⟩ := q
  cases o with
  | some i =>
   exfalso
   obtain ⟨c, hcm, h1⟩ := hs1 i rfl
   rw [quiet_false (hc.2 c hcm) hu (hq c hcm)] at h1; cases h1
  | none =>
   simp only
   cases hd : next == 0 with
   | true => exact ⟨by simp only [cond_true]; omega, hu⟩
   | false =>
    simp only [cond_false]
    have hne : next ≠ 0 := by simpa using hd
    obtain ⟨hf, hin⟩ := hfr.resolve_left hne
    obtain ⟨c0, hcm0, hnm⟩ := hin.resolve_right hne
    have hlo := hc.2 c0 hcm0 next hnm
    have hzs := zeros_set hl ht hlo hf
    obtain ⟨c, hcm, h1⟩ := ((hs2 rfl).2).resolve_left hne
    simp only at h1
    have h2 := quiet_unit (hc.2 c hcm) hu (hq c hcm) (by rw [h1]; exact hne)
    rw [h1] at h2
    exact ih (setT vals next) (list ++ [next]) (by omega) (by rw [setT_length]; exact hl) (tri_set ht _) (under_set hl hlo hu h2)
def zero0 (v : List Int) : Prop := v.getD 0 0 = 0
theorem zero0_set {vars x : Int} {v : List Int} (hx : litOK vars x) (h : zero0 v) : zero0 (setT v x) := by
 have : x.natAbs ≠ 0 := by have := hx.1; omega
 unfold zero0 at *
 rw [setT_eq, List.getD_eq_getElem?_getD, List.getElem?_set_ne this, ← List.getD_eq_getElem?_getD]; exact h
theorem propGo_zero0 {vars : Int} {cls : List (List Int)} (hc : ClsOK vars cls) : ∀ (f : Nat) (vals list : List Int), zero0 vals → zero0 (propGo cls f vals list).2.2 := by
 intro f
 induction f with
 | zero => intro vals list h; exact h
 | succ f ih =>
  intro vals list h0
  have hfr := scanGo_free (vals := vals) (cls := cls) (i := 0) (next := 0) (.inl rfl)
  simp only [propGo]
  generalize scanGo vals cls 0 0 = q at hfr
  obtain ⟨o, next⟩ := q
  cases o with
  | some i => exact h0
  | none =>
   simp only
   cases hd : next == 0 with
   | true => exact h0
   | false =>
    simp only [cond_false]
    have hne : next ≠ 0 := by simpa using hd
    obtain ⟨hf, hin⟩ := hfr.resolve_left hne
    obtain ⟨c0, hcm0, hnm⟩ := hin.resolve_right hne
    exact ih _ _ (zero0_set (hc.2 c0 hcm0 next hnm) h0)
theorem val_of {vars : Int} {v : List Int} (ht : tri v) (i : Nat) (hi : litOK vars (i : Nat)) (hl : i < v.length) : v.getD i 0 = if isT v (i : Nat) = true then 1 else if isT v (-(i : Nat) : Int) = true then -1 else 0 := by
 have h1 : isT v (i : Nat) = (v.getD i 0 == 1) := by rw [isT_val hi.1, if_neg (by omega)]; rfl
 have h2 : isT v (-(i : Nat) : Int) = (v.getD i 0 == -1) := by rw [isT_val (litOK_neg hi).1, if_pos (by have := hi.1; omega), Int.natAbs_neg]; rfl
 rw [h1, h2]
 have hm : v.getD i 0 ∈ v := getD_mem 0 hl
 rcases ht _ hm with e | e | e <;> rw [e] <;> rfl
theorem under_eq {vars : Int} {v w : List Int} (hl : (v.length : Int) = vars + 1) (hl2 : (w.length : Int) = vars + 1) (ht : tri v) (ht2 : tri w) (h0 : zero0 v) (h02 : zero0 w) (h1 : under vars v w) (h2 : under vars w v) : v = w := by
 refine List.ext_getElem (by omega) fun i hi hi2 => ?_
 have key : v.getD i 0 = w.getD i 0 := by
  by_cases h : i = 0
  ·subst h; exact h0.trans h02.symm
  ·have hx : litOK vars (i : Nat) := ⟨by omega, by omega, by omega⟩
   have same : ∀ x, litOK vars x → isT v x = isT w x := fun x hx => by
    cases e : isT v x with
    | true => exact (h1 x hx e).symm
    | false => cases e2 : isT w x with
     | false => rfl
     | true => rw [h2 x hx e2] at e; cases e
   rw [val_of ht i hx hi, val_of ht2 i hx hi2, same _ hx, same _ (litOK_neg hx)]
 simpa [List.getD, hi, hi2] using key
/-- Two values that have the same closed ones above them propagate alike. -/
theorem prop_same {vars : Int} {cls : List (List Int)} {v u : List Int} (hc : ClsOK vars cls) (hl : (v.length : Int) = vars + 1) (hl2 : (u.length : Int) = vars + 1) (ht : tri v) (ht2 : tri u) (h0 : zero0 v) (h02 : zero0 u)
  (h : ∀ w, (∀ c ∈ cls, quiet w c) → (under vars v w ↔ under vars u w)) :
  ((propGo cls (zeros v + 1) v []).2.1 < 0 ↔ (propGo cls (zeros u + 1) u []).2.1 < 0) ∧ ((propGo cls (zeros v + 1) v []).2.1 < 0 → (propGo cls (zeros v + 1) v []).2.2 = (propGo cls (zeros u + 1) u []).2.2) := by
 have q1 := propGo_quiet hc (zeros v + 1) v [] (by omega) hl ht
 have q2 := propGo_quiet hc (zeros u + 1) u [] (by omega) hl2 ht2
 have u1 := (propGo_spec hc (zeros v + 1) v [] (by omega) hl ht).1
 have u2 := (propGo_spec hc (zeros u + 1) u [] (by omega) hl2 ht2).1
 have l1 := fun (w : List Int) (hq : ∀ c ∈ cls, quiet w c) => propGo_least hc hq (zeros v + 1) v [] (by omega) hl ht
 have l2 := fun (w : List Int) (hq : ∀ c ∈ cls, quiet w c) => propGo_least hc hq (zeros u + 1) u [] (by omega) hl2 ht2
 obtain ⟨k1, k2, _⟩ := propGo_keeps hc (zeros v + 1) v [] hl ht
 obtain ⟨k3, k4, _⟩ := propGo_keeps hc (zeros u + 1) u [] hl2 ht2
 have z1 := propGo_zero0 hc (zeros v + 1) v [] h0
 have z2 := propGo_zero0 hc (zeros u + 1) u [] h02
 have e1 : (propGo cls (zeros v + 1) v []).2.1 < 0 → (propGo cls (zeros u + 1) u []).2.1 < 0 := fun hn => (l2 _ (q1 hn) ((h _ (q1 hn)).1 u1)).1
 have e2 : (propGo cls (zeros u + 1) u []).2.1 < 0 → (propGo cls (zeros v + 1) v []).2.1 < 0 := fun hn => (l1 _ (q2 hn) ((h _ (q2 hn)).2 u2)).1
 refine ⟨⟨e1, e2⟩, fun hn => ?_⟩
 have hn2 := e1 hn
 exact under_eq (by omega) (by omega) k2 k4 z1 z2 (l1 _ (q2 hn2) ((h _ (q2 hn2)).2 u2)).2 (l2 _ (q1 hn) ((h _ (q1 hn)).1 u1)).2
end
section
theorem model_some {vars : Int} {cls : List (List Int)} {bs : List Bool} (hv : 0 ≤ vars) (hc : ClsOK vars cls) (he : evalB cls bs = true) : modelP vars cls ≠ none := fun h => by
 have := (modelP_spec hv hc).1 h bs
 rw [he] at this; cases this
def setAll (vals list : List Int) : List Int := list.foldl setT vals
theorem setAll_snoc (vals list : List Int) (x : Int) : setAll vals (list ++ [x]) = setT (setAll vals list) x := by simp [setAll]
def negC (chosen : List Int) : List Int := chosen.map fun x => -x
/-- The step of a leaf or behind two. -/
def finP (chosen : List Int) (steps : List (List Int)) : List (List Int) × Int := bif decide (steps.length = 200) || decide (12 < chosen.length) then (steps, 7) else (steps ++ [negC chosen], 0)
/-- From choices on: the steps so far and a code. -/
def refP (vars : Int) (cls : List (List Int)) : Nat → List Int → List (List Int) → List (List Int) × Int
 | 0, _, steps => (steps, 6)
 | f + 1, chosen, steps =>
  bif decide ((propGo cls (zeros (setAll (zeroVals vars) chosen) + 1) (setAll (zeroVals vars) chosen) []).2.1 ≥ 0) then finP chosen steps else
  bif findZ ((propGo cls (zeros (setAll (zeroVals vars) chosen) + 1) (setAll (zeroVals vars) chosen) []).2.2.drop 1) 0 + 1 == 0 then (steps, 6) else
  bif (refP vars cls f (chosen ++ [-(findZ ((propGo cls (zeros (setAll (zeroVals vars) chosen) + 1) (setAll (zeroVals vars) chosen) []).2.2.drop 1) 0 + 1)]) steps).2 == 0 then
   bif (refP vars cls f (chosen ++ [findZ ((propGo cls (zeros (setAll (zeroVals vars) chosen) + 1) (setAll (zeroVals vars) chosen) []).2.2.drop 1) 0 + 1]) (refP vars cls f (chosen ++ [-(findZ ((propGo cls (zeros (setAll (zeroVals vars) chosen) + 1) (setAll (zeroVals vars) chosen) []).2.2.drop 1) 0 + 1)]) steps).1).2 == 0 then
    finP chosen (refP vars cls f (chosen ++ [findZ ((propGo cls (zeros (setAll (zeroVals vars) chosen) + 1) (setAll (zeroVals vars) chosen) []).2.2.drop 1) 0 + 1]) (refP vars cls f (chosen ++ [-(findZ ((propGo cls (zeros (setAll (zeroVals vars) chosen) + 1) (setAll (zeroVals vars) chosen) []).2.2.drop 1) 0 + 1)]) steps).1).1
   else refP vars cls f (chosen ++ [findZ ((propGo cls (zeros (setAll (zeroVals vars) chosen) + 1) (setAll (zeroVals vars) chosen) []).2.2.drop 1) 0 + 1]) (refP vars cls f (chosen ++ [-(findZ ((propGo cls (zeros (setAll (zeroVals vars) chosen) + 1) (setAll (zeroVals vars) chosen) []).2.2.drop 1) 0 + 1)]) steps).1
  else refP vars cls f (chosen ++ [-(findZ ((propGo cls (zeros (setAll (zeroVals vars) chosen) + 1) (setAll (zeroVals vars) chosen) []).2.2.drop 1) 0 + 1)]) steps
theorem setAll_keeps {vars : Int} : ∀ {list vals : List Int}, (vals.length : Int) = vars + 1 → tri vals → zero0 vals → (∀ x ∈ list, litOK vars x) → ((setAll vals list).length : Int) = vars + 1 ∧ tri (setAll vals list) ∧ zero0 (setAll vals list) := by
 intro list
 induction list with
 | nil => intro vals hl ht h0 _; exact ⟨hl, ht, h0⟩
 | cons x r ih => intro vals hl ht h0 hx; exact ih (by rw [setT_length]; exact hl) (tri_set ht _) (zero0_set (hx x (by simp)) h0) fun y hy => hx y (by simp [hy])
theorem zero0_zero (vars : Int) (hv : 0 ≤ vars) : zero0 (zeroVals vars) := by
 unfold zero0 zeroVals
 rw [List.getD_eq_getElem?_getD, List.getElem?_replicate]
 split <;> rfl
/-- A stretch of steps that only adds. -/
def adds (new : List (List Int)) : List (Bool × List Int) := new.map fun c => (false, c)
theorem negC_len (ch : List Int) : (negC ch).length = ch.length := by simp [negC]
/-- A refutation that finds a model. -/
theorem refP_model {vars : Int} {f : List (List Int)} (hv : 0 ≤ vars) (hf : ClsOK vars f) : ∀ (fu : Nat) (chosen : List Int) (steps : List (List Int)), (∀ x ∈ chosen, litOK vars x) → zeros (setAll (zeroVals vars) chosen) < fu → ((refP vars f fu chosen steps).2 = 0 ∨ (refP vars f fu chosen steps).2 = 7 ∨ ((refP vars f fu chosen steps).2 = 6 ∧ modelP vars f ≠ none)) ∧ ((refP vars f fu chosen steps).1.length ≤ 200 ∨ 200 < steps.length) := by
 intro fu
 induction fu with
 | zero => intro chosen steps _ h; omega
 | succ fu ih =>
  intro chosen steps hx hz
  obtain ⟨k1, k2, k3⟩ := setAll_keeps (zeroVals_len hv) (zeroVals_tri vars) (zero0_zero vars hv) hx
  have kk := propGo_keeps hf (zeros (setAll (zeroVals vars) chosen) + 1) (setAll (zeroVals vars) chosen) [] k1 k2
  have sp := propGo_spec hf (zeros (setAll (zeroVals vars) chosen) + 1) (setAll (zeroVals vars) chosen) [] (by omega) k1 k2
  have fin : ∀ st : List (List Int), ((finP chosen st).2 = 0 ∨ (finP chosen st).2 = 7 ∨ ((finP chosen st).2 = 6 ∧ modelP vars f ≠ none)) ∧ ((finP chosen st).1.length ≤ 200 ∨ 200 < st.length) := fun st => by
   unfold finP
   cases h1 : (decide (st.length = 200) || decide (12 < chosen.length)) with
   | true => exact ⟨.inr (.inl rfl), by simp only [cond_true]; omega⟩
   | false =>
    simp only [Bool.or_eq_false_iff, decide_eq_false_iff_not] at h1
    exact ⟨.inl rfl, by simp only [cond_false, List.length_append, List.length_singleton]; omega⟩
  have zs : ∀ x, litOK vars x → free (setAll (zeroVals vars) chosen) x → zeros (setAll (zeroVals vars) (chosen ++ [x])) < fu := fun x hx hfr => by
   rw [setAll_snoc]
   have := zeros_set k1 k2 hx hfr
   omega
  simp only [refP]
  generalize setAll (zeroVals vars) chosen = s at *
  generalize propGo f (zeros s + 1) s [] = R at *
  obtain ⟨lst, at', w⟩ := R
  simp only at kk sp ⊢
  cases h1 : decide (at' ≥ 0) with
  | true => exact fin steps
  | false =>
   simp only [cond_false]
   have hlt : at' < 0 := by have := of_decide_eq_false h1; omega
   have hfz := findZ_get (vals := w) (vars := vars) (by omega)
   have htot := findZ_total (vars := vars) (vals := w) (by omega) kk.2.1
   generalize findZ (w.drop 1) 0 + 1 = v at *
   cases h2 : v == 0 with
   | true =>
    have ht := htot (by simpa using h2)
    refine ⟨.inr (.inr ⟨rfl, model_some (bs := valsB w) hv hf ?_⟩), by simp only [cond_true]; omega⟩
    unfold evalB
    rw [List.all_eq_true]
    intro c hc
    obtain ⟨x, hxm, hxt⟩ := unit_total ht (hf.2 c hc) (sp.2.2 hlt c hc)
    rw [List.any_eq_true]
    exact ⟨x, hxm, by rw [litV_valsB (by omega) ht (hf.2 c hc x hxm)]; exact hxt⟩
   | false =>
    simp only [cond_false]
    obtain ⟨hvl, _, hfr1, hfr2⟩ := hfz (by simpa using h2)
    have down : ∀ x, litOK vars x → free w x → free s x := fun x hx h => by
     refine ⟨?_, ?_⟩
     ·cases e : isT s x with
      | false => rfl
      | true => have := sp.1 x hx e; rw [h.1] at this; cases this
     ·cases e : isT s (-x) with
      | false => rfl
      | true => have := sp.1 (-x) (litOK_neg hx) e; rw [h.2] at this; cases this
    have hx1 : ∀ x ∈ chosen ++ [-v], litOK vars x := fun x hxm => (List.mem_append.1 hxm).elim (hx x) fun h => by rw [List.mem_singleton.1 h]; exact litOK_neg hvl
    have hx2 : ∀ x ∈ chosen ++ [v], litOK vars x := fun x hxm => (List.mem_append.1 hxm).elim (hx x) fun h => by rw [List.mem_singleton.1 h]; exact hvl
    have i1 := ih (chosen ++ [-v]) steps hx1 (zs _ (litOK_neg hvl) (down _ (litOK_neg hvl) hfr2))
    generalize refP vars f fu (chosen ++ [-v]) steps = A at i1 ⊢
    obtain ⟨s1, c1⟩ := A
    simp only at i1 ⊢
    cases h3 : c1 == 0 with
    | false => exact i1
    | true =>
     simp only [cond_true]
     have i2 := ih (chosen ++ [v]) s1 hx2 (zs _ hvl (down _ hvl hfr1))
     generalize refP vars f fu (chosen ++ [v]) s1 = B at i2 ⊢
     obtain ⟨s2, c2⟩ := B
     simp only at i2 ⊢
     cases h4 : c2 == 0 with
     | false => exact ⟨i2.1, by simp only [cond_false]; omega⟩
     | true =>
      simp only [cond_true]
      exact ⟨(fin s2).1, by have := (fin s2).2; omega⟩
end
section
attribute [local irreducible] SRun DS DRun
variable {Γ : St} {σ σ0 : St}
/-- What is owned beside what is not needed any more. -/
theorem ownL_less {σ1 s : St} {es : Nat} {xs : List V} {q : V} (h : OwnL σ1 es xs q s) (hle : ∀ b c, σ b = some c → σ1 b = some c) : ∃ s2, (∀ b c, s2 b = some c → s b = some c) ∧ OwnL σ es xs q s2 := by
 rcases h.1 with ⟨hc, hl, rfl, es', rfl⟩ | ⟨b2, cap, hb, rfl, rfl, h4⟩
 ·exact ⟨σ, hle, .inl ⟨hc, hl, rfl, es', rfl⟩, h.2⟩
 ·have hb2 : σ b2 = none := by
   cases e : σ b2 with
   | none => rfl
   | some c => rw [hle _ _ e] at hb; cases hb
  refine ⟨upd σ b2 (flat xs), fun b c hbc => ?_, .inr ⟨b2, cap, hb2, rfl, rfl, h4⟩, h.2⟩
  by_cases e : b = b2
  ·subst e; rw [upd_same] at hbc ⊢; exact hbc
  ·rw [upd_ne _ _ e] at hbc ⊢; exact hle _ _ hbc
def clsF (ls : List (Bool × List Int)) : List V := ls.map fun p => .isl p.1 1 (ints p.2)
theorem clsF_len (ls : List (Bool × List Int)) : (clsF ls).length = ls.length := by simp [clsF]
section
variable {P : Program} {f : FuncId} {n : Nat} {Q : V → St → Prop} {k : List It} {T : Ts} {g : GI} {l : List GI}
theorem stepW_iaddr_clsF {ex : Bool} {cls : List (Bool × List Int)} {kk : IntKind} {m : Int} (h0 : 0 ≤ m) (h1 : m < cls.length) : stepW P Γ f n Q (.iaddr 1 (.c (.isl ex 1 (clsF cls))) (.c (.int kk m))) g l k T σ = W P Γ f n Q (.ops l :: k) (putT T g.d (.iptr [.isl (cls.getD m.toNat (false, [])).1 1 (ints (cls.getD m.toNat (false, [])).2)])) σ := stepW_iaddr_map h0 h1
theorem stepK_iaddr_clsF {K : V → St → Prop} {ex : Bool} {cls : List (Bool × List Int)} {kk : IntKind} {m : Int} (h0 : 0 ≤ m) (h1 : m < cls.length) : stepK (.iaddr 1 (.c (.isl ex 1 (clsF cls))) (.c (.int kk m))) σ K = K (.iptr [.isl (cls.getD m.toNat (false, [])).1 1 (ints (cls.getD m.toNat (false, [])).2)]) σ := stepK_iaddr_map h0 h1
end
attribute [go_sem] stepW_iaddr_clsF stepK_iaddr_clsF clsF_len
def joinF (ls : List (Bool × List Int)) : List Int := (ls.map (·.2)).flatten
theorem concatF_ok {ex : Bool} {ls : List (Bool × List Int)} (hl : ls.length ≤ 1000) (hs : ∀ c ∈ ls, c.2.length ≤ 1000) : Ret Try.prog Γ 68 [.isl ex 1 (clsF ls)] σ (intsV (joinF ls)) σ := by
 have step : ∀ i, i < ls.length → joinF (ls.take (i + 1)) = joinF (ls.take i) ++ (ls.getD i (false, [])).2 := fun i h => by
  unfold joinF
  rw [take_succ (false, []) h, List.map_append, List.flatten_append]; simp
 have hbound : ∀ i, i ≤ ls.length → (joinF (ls.take i)).length ≤ i * 1000 := by
  intro i
  induction i with
  | zero => intro _; simp [joinF]
  | succ i ih =>
   intro h
   rw [step i (by omega), List.length_append]
   have := hs _ (getD_mem (false, []) (by omega : i < ls.length))
   have := ih (by omega)
   omega
 have own : ACalls Try.prog Γ 68 [.isl ex 1 (clsF ls)] σ fun r σ' => OwnG σ 1 (ints (joinF ls)) r σ' := by
  refine acalls_W c68_ok rfl ?_
  simp (disch := omega) only [c68, go_sem]
  refine W_loopC (fun i : Nat => i ≤ ls.length) (fun i => [(0, .isl ex 1 (clsF ls)), (3, .int .i64 ((joinF (ls.take i)).length : Nat)), (9, .isl ex 1 (clsF ls)), (10, .int .i64 ls.length), (11, .int .i64 i)]) (fun _ => σ) (fun i => ls.length - i) 0 (by omega) (by simp (disch := omega) only [subT, Int.natCast_add, Int.cast_ofNat_Int, go_sem] <;> (repeat' apply And.intro) <;> first | rfl | (congr 1; omega) | assumption) rfl ?_
  intro i hi ih
  have hbi := hbound i hi
  simp (disch := omega) only [go_sem]
  first | refine iteW_dec (fun hq => ?_) (fun hq => ?_) | refine iteW_of (fun hq => ?_) (fun hq => ?_)
  ·have hsi := hs _ (getD_mem (false, []) (by omega : i < ls.length))
   have htk : (joinF (ls.take (i + 1))).length = (joinF (ls.take i)).length + (ls.getD i (false, [])).2.length := by
    rw [step i (by omega), List.length_append]
   simp (disch := omega) only [go_sem]
   refine ih (i + 1) _ _ (by omega) (by omega) (by simp (disch := omega) only [subT, Int.natCast_add, Int.cast_ofNat_Int, htk, go_sem] <;> (repeat' apply And.intro) <;> first | rfl | (congr 1; omega) | assumption) rfl
  ·obtain rfl : i = ls.length := by omega
   rw [List.take_length] at hbi
   simp (disch := omega) only [List.take_length, go_sem]
   refine SRun.callQ (growI_ok (n := ((joinF ls).length : Nat)) (by omega)) ⟨[], rfl, rfl⟩ rfl ?_
   intro r σ1 ho
   simp (disch := omega) only [go_sem]
   refine W_loopC (fun p : Nat × V × St => p.1 ≤ ls.length ∧ OwnG σ 1 (ints (joinF (ls.take p.1))) p.2.1 p.2.2) (fun p => [(6, p.2.1), (25, .isl ex 1 (clsF ls)), (26, .int .i64 ls.length), (27, .int .i64 p.1)]) (fun p => p.2.2) (fun p => ls.length - p.1) (0, r, σ1) ⟨by simp, .inl ⟨rfl, ho⟩⟩ (by simp (disch := omega) only [subT, Int.natCast_add, Int.cast_ofNat_Int, go_sem] <;> (repeat' apply And.intro) <;> first | rfl | (congr 1; omega) | assumption) rfl ?_
   rintro ⟨i, r6, σ2⟩ ⟨hi2, ho2⟩ ih2
   dsimp only at hi2 ho2 ⊢
   have hbi := hbound i hi2
   simp (disch := omega) only [go_sem]
   first | refine iteW_dec (fun hq2 => ?_) (fun hq2 => ?_) | refine iteW_of (fun hq2 => ?_) (fun hq2 => ?_)
   ·have hsi := hs _ (getD_mem (false, []) (by omega : i < ls.length))
    simp (disch := omega) only [go_sem]
    refine SRun.appG ho2 rfl (ints_ok _) (by rw [ints_len, ints_len]; omega) ?_
    intro r3 σ3 ho3
    simp (disch := omega) only [go_sem]
    refine ih2 (i + 1, r3, σ3) _ _ ⟨by simp only; omega, .inr ?_⟩ (by simp only; omega) (by simp (disch := omega) only [subT, Int.natCast_add, Int.cast_ofNat_Int, go_sem] <;> (repeat' apply And.intro) <;> first | rfl | (congr 1; omega) | assumption) rfl
    have : ints (joinF (ls.take (i + 1))) = ints (joinF (ls.take i)) ++ ints (ls.getD i (false, [])).2 := by
     rw [step i (by omega)]; simp [ints]
    rw [this]; exact ho3
   ·obtain rfl : i = ls.length := by omega
    rw [List.take_length] at ho2
    simp (disch := omega) only [go_sem]
    exact W_retR c68_ok rfl ho2
 exact own.conv fun r s ho => ⟨_, _, ho.conv, rfl, rfl⟩
theorem concat1_ok {e1 e2 e3 : Bool} {xs : List Int} {x : Int} (hl : xs.length ≤ 100) : Ret Try.prog Γ 68 [.isl e1 1 [.isl e2 1 (ints xs), .isl e3 1 [.int .i64 x]]] σ (intsV (xs ++ [x])) σ := by
 have h := concatF_ok (Γ := Γ) (σ := σ) (ex := e1) (ls := [(e2, xs), (e3, [x])]) (by simp) (by
  intro c hc
  simp only [List.mem_cons, List.not_mem_nil, or_false] at hc
  rcases hc with rfl | rfl
  ·simp only; omega
  ·simp)
 have e : joinF [(e2, xs), (e3, [x])] = xs ++ [x] := by simp [joinF]
 rw [e] at h
 exact h
def stepV (s : Bool × List Int) : V := .agg [.bool s.1, .isl false 1 (ints s.2)]
def stepsV (xs : List (Bool × List Int)) : List V := xs.map stepV
theorem stepsV_len (xs : List (Bool × List Int)) : (stepsV xs).length = xs.length := by simp [stepsV]
theorem stepsV_ok (xs : List (Bool × List Int)) : ∀ y ∈ stepsV xs, y.cells.length = 2 ∧ ∀ c ∈ y.cells, c.one = true := by
 intro y hy; obtain ⟨s, _, rfl⟩ := List.mem_map.1 hy; simp [stepV, V.cells, V.one]
theorem steps_app (xs : List (Bool × List Int)) (s : Bool × List Int) : stepsV xs ++ [stepV s] = stepsV (xs ++ [s]) := by simp [stepsV]
theorem adds_app (st : List (List Int)) (c : List Int) : adds (st ++ [c]) = adds st ++ [(false, c)] := by simp [adds]
theorem adds_len (st : List (List Int)) : (adds st).length = st.length := by simp [adds]
def refC (vars : Int) (cls : List (List Int)) (q : V) : List V := [.int .i64 vars, .isl false 1 (clsV cls), q]
/-- The refuter with its steps, over what is beside. -/
def RefO (σ0 : St) (vars : Int) (cls : List (List Int)) (st : List (Bool × List Int)) (rb : Nat) (σ : St) : Prop := ∃ q, OwnL (upd σ0 rb (refC vars cls q)) 2 (stepsV st) q σ
theorem RefO.less {σs : St} {vars : Int} {cls : List (List Int)} {st : List (Bool × List Int)} {rb : Nat} (h : RefO σs vars cls st rb σ) (hle : ∀ c x, c ≠ rb → σ0 c = some x → σs c = some x) : ∃ σ2, (∀ c x, σ2 c = some x → σ c = some x) ∧ RefO σ0 vars cls st rb σ2 := by
 obtain ⟨q, ho⟩ := h
 obtain ⟨s2, h1, h2⟩ := ownL_less (σ := upd σ0 rb (refC vars cls q)) ho (fun c x hx => by
  by_cases e : c = rb
  ·subst e; rw [upd_same] at hx ⊢; exact hx
  ·rw [upd_ne _ _ e] at hx ⊢; exact hle c x e hx)
 exact ⟨s2, h1, q, h2⟩
theorem RefO.le {vars : Int} {cls : List (List Int)} {st : List (Bool × List Int)} {rb : Nat} (h : RefO σ0 vars cls st rb σ) : ∀ c x, c ≠ rb → σ0 c = some x → σ c = some x := fun c x hc hx => by
 obtain ⟨q, ho⟩ := h
 exact ho.get (by rw [upd_ne _ _ hc]; exact hx)
theorem StAt.of {σs : St} {vars vars2 : Int} {cls cls2 : List (List Int)} {st : List (Bool × List Int)} {vals : List Int} {rb b bv : Nat} (h : StAt (upd σs rb []) vars2 cls2 vals b bv) (h1 : b ≠ rb) (h2 : bv ≠ rb) (hr : RefO σs vars cls st rb σ) : StAt σ vars2 cls2 vals b bv := by
 obtain ⟨cap, hcap, e1⟩ := h.st'
 have e2 := h.vl
 rw [upd_ne _ _ h1] at e1
 rw [upd_ne _ _ h2] at e2
 exact ⟨⟨cap, hcap, hr.le _ _ h1 e1⟩, hr.le _ _ h2 e2, h.len, h.ne⟩
/-- The values that the refuter has, and what was chosen, tell as much. -/
def alike (vars : Int) (cls : List (List Int)) (vals s : List Int) : Prop := ∀ w, (∀ c ∈ cls, quiet w c) → (under vars vals w ↔ under vars s w)
theorem alike_next {vars x : Int} {cls : List (List Int)} {s : List Int} (hv : 0 ≤ vars) (hc : ClsOK vars cls) (hl : (s.length : Int) = vars + 1) (ht : tri s) (hx : litOK vars x) (hn : (propGo cls (zeros s + 1) s []).2.1 < 0) (hf : free (propGo cls (zeros s + 1) s []).2.2 x) (hlv : ((propGo cls (zeros s + 1) s []).2.2.length : Int) = vars + 1) : alike vars cls (setT (propGo cls (zeros s + 1) s []).2.2 x) (setT s x) := by
 intro w hq
 have u1 : under vars s (propGo cls (zeros s + 1) s []).2.2 := (propGo_spec hc (zeros s + 1) s [] (by omega) hl ht).1
 have fs : isT s (-x) = false := by
  cases e : isT s (-x) with
  | false => rfl
  | true => have := u1 _ (litOK_neg hx) e; rw [hf.2] at this; cases this
 constructor
 ·intro h
  refine under_set hl hx ?_ (h x hx (set_self hlv hx))
  exact u1.trans ((set_over hlv hx hf.2).trans h)
 ·intro h
  have h1 : under vars s w := (set_over hl hx fs).trans h
  have h2 := (propGo_least hc hq (zeros s + 1) s [] (by omega) hl ht h1).2
  exact under_set hlv hx h2 (h x hx (set_self hl hx))
end
section
attribute [local irreducible] SRun DS DRun
variable {Γ : St} {σ σ0 : St}
theorem neg1_ok (x : Int) : ∀ y ∈ [V.int .i64 x], y.cells.length = 1 ∧ ∀ c ∈ y.cells, c.one = true := by
 intro y hy; rw [List.mem_singleton.1 hy]; simp [V.cells, V.one]
end
end Go.Proofs.Ytdenfjbhkdhlkaa.Lg
