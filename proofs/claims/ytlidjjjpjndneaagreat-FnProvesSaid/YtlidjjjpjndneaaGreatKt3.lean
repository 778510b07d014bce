/- What is told of the functions that are reached, as far as it is asked here. -/
import Derived.Test.YtlidjjjpjndneaaGreatKt2
import Derived.KernelRfl
set_option linter.unusedSimpArgs false
set_option linter.unusedVariables false
namespace Go.Proofs.YtlidjjjpjndneaaGreat.Lg
open Go
section
def rankP (x : Int) : Int := if x < 0 then 1 - 2 * x else 2 * x
end
section
/-- Where a literal belongs. -/
def insKR (x : Int) : List Int → Nat
 | [] => 0
 | y :: ys => if rankP y < rankP x then insKR x ys + 1 else 0
def insR (ys : List Int) (x : Int) : List Int := if insKR x ys < ys.length ∧ ys.getD (insKR x ys) 0 = x then ys else ys.take (insKR x ys) ++ [x] ++ ys.drop (insKR x ys)
end
section
theorem isT_not {vals : List Int} {x : Int} (hx : x ≠ 0) (h : isT vals x = true) : isT vals (-x) = false := by
 rw [isT_val hx] at h
 rw [isT_val (by omega), Int.natAbs_neg]
 generalize vals.getD x.natAbs 0 = v at *
 by_cases hn : x < 0
 ·rw [if_pos hn] at h; rw [if_neg (by omega)]
  have : v = -1 := by simpa using h
  subst this; rfl
 ·rw [if_neg hn] at h; rw [if_pos (by omega)]
  have : v = 1 := by simpa using h
  subst this; rfl
/-- A clause that asks for nothing: it is true, or two of its literals are open. -/
def quiet (w c : List Int) : Prop := (∃ x ∈ c, isT w x = true) ∨ ∃ x ∈ c, ∃ y ∈ c, x ≠ y ∧ isT w (-x) = false ∧ isT w (-y) = false
theorem quiet_go {w : List Int} : ∀ {c : List Int} {one : Int}, (∀ x ∈ c, x ≠ 0) → unitGo w c one = (0, false) → quiet w c ∨ (one ≠ 0 ∧ ∃ x ∈ c, x ≠ one ∧ isT w (-x) = false) := by
 intro c
 induction c with
 | nil => intro one _ h; simp only [unitGo, Prod.mk.injEq] at h; rw [h.1] at h; exact absurd h.2 (by simp)
 | cons x r ih =>
  intro one hne h
  have hne' : ∀ y ∈ r, y ≠ 0 := fun y hy => hne y (by simp [hy])
  have lift : quiet w r → quiet w (x :: r) := by
   rintro (⟨y, hy, h⟩ | ⟨y, hy, z, hz, h⟩)
   ·exact .inl ⟨y, by simp [hy], h⟩
   ·exact .inr ⟨y, by simp [hy], z, by simp [hz], h⟩
  simp only [unitGo] at h
  cases h1 : isT w x with
  | true => exact .inl (.inl ⟨x, by simp, h1⟩)
  | false =>
   rw [h1] at h
   simp only [cond_false] at h
   cases h2 : (isT w (-x) || x == one) with
   | true =>
    rw [h2] at h
    simp only [cond_true] at h
    rcases ih hne' h with h3 | ⟨h3, y, hy, h4⟩
    ·exact .inl (lift h3)
    ·exact .inr ⟨h3, y, by simp [hy], h4⟩
   | false =>
    rw [h2] at h
    simp only [cond_false] at h
    simp only [Bool.or_eq_false_iff, beq_eq_false_iff_ne] at h2
    by_cases h3 : one = 0
    ·subst h3
     have h4 : unitGo w r x = (0, false) := by simpa using h
     rcases ih hne' h4 with h5 | ⟨h5, y, hy, h6, h7⟩
     ·exact .inl (lift h5)
     ·exact .inl (.inr ⟨x, by simp, y, by simp [hy], fun e => h6 e.symm, h2.1, h7⟩)
    ·exact .inr ⟨h3, x, by simp, h2.2, h2.1⟩
theorem quiet_of {w c : List Int} (hne : ∀ x ∈ c, x ≠ 0) (h : unitGo w c 0 = (0, false)) : quiet w c := (quiet_go hne h).resolve_right fun h => h.1 rfl
theorem scan_zero {vals : List Int} : ∀ {cls : List (List Int)} {i : Nat} {next : Int}, scanGo vals cls i next = (none, 0) → next = 0 ∧ ∀ c ∈ cls, unitGo vals c 0 = (0, false) := by
 intro cls
 induction cls with
 | nil => intro i next h; simp only [scanGo, Prod.mk.injEq] at h; exact ⟨h.2, fun c hc => by cases hc⟩
 | cons c r ih =>
  intro i next h
  simp only [scanGo] at h
  cases h1 : (unitGo vals c 0).2 with
  | true => rw [h1] at h; cases h
  | false =>
   rw [h1] at h
   simp only [cond_false] at h
   obtain ⟨h2, h3⟩ := ih h
   by_cases h4 : next = 0
   ·subst h4
    have h5 : (unitGo vals c 0).1 = 0 := by simpa using h2
    refine ⟨rfl, fun d hd => ?_⟩
    rcases List.mem_cons.1 hd with rfl | hd
    ·exact Prod.ext h5 h1
    ·exact h3 d hd
   ·have : (next == 0) = false := by simpa using h4
    rw [this] at h2
    exact absurd h2 h4
/-- What is known in the first is known in the second. -/
def under (vars : Int) (v w : List Int) : Prop := ∀ x, litOK vars x → isT v x = true → isT w x = true
theorem under.trans {vars : Int} {u v w : List Int} (h1 : under vars u v) (h2 : under vars v w) : under vars u w := fun x hx h => h2 x hx (h1 x hx h)
theorem under_set {vars x : Int} {v w : List Int} (hl : (v.length : Int) = vars + 1) (hx : litOK vars x) (hu : under vars v w) (hw : isT w x = true) : under vars (setT v x) w := by
 intro y hy h
 rw [isT_setT hl hy hx] at h
 split at h
 ·rename_i e; rw [e]; exact hw
 ·split at h
  ·cases h
  ·exact hu y hy h
theorem set_over {vars x : Int} {v : List Int} (hl : (v.length : Int) = vars + 1) (hx : litOK vars x) (hf : isT v (-x) = false) : under vars v (setT v x) := by
 intro y hy h
 rw [isT_setT hl hy hx]
 split
 ·rfl
 ·split
  ·rename_i e; subst e; rw [hf] at h; cases h
  ·exact h
theorem set_self {vars x : Int} {v : List Int} (hl : (v.length : Int) = vars + 1) (hx : litOK vars x) : isT (setT v x) x = true := by rw [isT_setT hl hx hx, if_pos rfl]
theorem quiet_false {vars : Int} {v w c : List Int} (hc : ∀ x ∈ c, litOK vars x) (hu : under vars v w) (hq : quiet w c) : (unitGo v c 0).2 = false := by
 cases h : (unitGo v c 0).2 with
 | false => rfl
 | true =>
  exfalso
  have h2 := (unit_false (fun x hx => (hc x hx).1) h).2
  rcases hq with ⟨x, hx, h3⟩ | ⟨x, hx, y, hy, _, h3, _⟩
  ·have h4 := hu _ (litOK_neg (hc x hx)) (h2 x hx)
   rw [isT_not (hc x hx).1 h3] at h4; cases h4
  ·have h4 := hu _ (litOK_neg (hc x hx)) (h2 x hx)
   rw [h3] at h4; cases h4
theorem quiet_unit {vars : Int} {v w c : List Int} (hc : ∀ x ∈ c, litOK vars x) (hu : under vars v w) (hq : quiet w c) (h : (unitGo v c 0).1 ≠ 0) : isT w (unitGo v c 0).1 = true := by
 have h2 := (unit_one (fun x hx => (hc x hx).1) h).2
 have neg : ∀ x ∈ c, isT v (-x) = true → isT w x = false ∧ ¬ isT w (-x) = false := fun x hx h3 => by
  have h4 := hu _ (litOK_neg (hc x hx)) h3
  refine ⟨?_, by rw [h4]; simp⟩
  have := isT_not (litOK_neg (hc x hx)).1 h4
  rwa [Int.neg_neg] at this
 rcases hq with ⟨x, hx, h3⟩ | ⟨x, hx, y, hy, hxy, h3, h4⟩
 ·rcases h2 x hx with h5 | h5
  ·rw [(neg x hx h5).1] at h3; cases h3
  ·rw [← h5]; exact h3
 ·rcases h2 x hx with h5 | h5
  ·exact absurd h3 (neg x hx h5).2
  ·rcases h2 y hy with h6 | h6
   ·exact absurd h4 (neg y hy h6).2
   ·exact absurd (h5.trans h6.symm) hxy
theorem propGo_quiet {vars : Int} {cls : List (List Int)} (hc : ClsOK vars cls) : ∀ (f : Nat) (vals list : List Int), zeros vals < f → (vals.length : Int) = vars + 1 → tri vals → (propGo cls f vals list).2.1 < 0 → ∀ c ∈ cls, quiet (propGo cls f vals list).2.2 c := by
 intro f
 induction f with
 | zero => intro vals list h; omega
 | succ f ih =>
  intro vals list hz hl ht
  have hfr := scanGo_free (vals := vals) (cls := cls) (i := 0) (next := 0) (.inl rfl)
  have hs := scan_zero (vals := vals) (cls := cls) (i := 0) (next := 0)
  simp only [propGo]
  generalize scanGo vals cls 0 0 = q at hfr hs
  obtain ⟨o, next⟩ := q
  cases o with
  | some i => intro h; simp only at h; omega
  | none =>
   simp only
   cases hd : next == 0 with
   | true =>
    intro _ c hcm
    have : next = 0 := by simpa using hd
    subst this
    exact quiet_of (fun x hx => (hc.2 c hcm x hx).1) ((hs rfl).2 c hcm)
   | false =>
    simp only [cond_false]
    have hne : next ≠ 0 := by simpa using hd
    obtain ⟨hf, hin⟩ := hfr.resolve_left hne
    obtain ⟨c0, hcm0, hnm⟩ := hin.resolve_right hne
    have hlo := hc.2 c0 hcm0 next hnm
    have hzs := zeros_set hl ht hlo hf
    exact ih (setT vals next) (list ++ [next]) (by omega) (by rw [setT_length]; exact hl) (tri_set ht _)
theorem propGo_least {vars : Int} {cls : List (List Int)} {w : List Int} (hc : ClsOK vars cls) (hq : ∀ c ∈ cls, quiet w c) : ∀ (f : Nat) (vals list : List Int), zeros vals < f → (vals.length : Int) = vars + 1 → tri vals → under vars vals w → (propGo cls f vals list).2.1 < 0 ∧ under vars (propGo cls f vals list).2.2 w := by
 intro f
 induction f with
 | zero => intro vals list h; omega
 | succ f ih =>
  intro vals list hz hl ht hu
  have hfr := scanGo_free (vals := vals) (cls := cls) (i := 0) (next := 0) (.inl rfl)
  have hs1 := fun j => scan_some (vals := vals) (cls := cls) (i := 0) (next := 0) (j := j)
  have hs2 := scan_none (vals := vals) (cls := cls) (i := 0) (next := 0)
  simp only [propGo]
  generalize scanGo vals cls 0 0 = q at hfr hs1 hs2
  obtain ⟨o, next⟩ := q
  cases o with
  | some i =>
   exfalso
   obtain ⟨c, hcm, h1⟩ := hs1 i rfl
   rw [quiet_false (hc.2 c hcm) hu (hq c hcm)] at h1; cases h1
  | none =>
   simp only
   cases hd : next == 0 with
   | true => exact ⟨by simp only [cond_true]; omega, hu⟩
   | false =>
    simp only [cond_false]
    have hne : next ≠ 0 := by simpa using hd
    obtain ⟨hf, hin⟩ := hfr.resolve_left hne
    obtain ⟨c0, hcm0, hnm⟩ := hin.resolve_right hne
    have hlo := hc.2 c0 hcm0 next hnm
    have hzs := zeros_set hl ht hlo hf
    obtain ⟨c, hcm, h1⟩ := ((hs2 rfl).2).resolve_left hne
    simp only at h1
    have h2 := quiet_unit (hc.2 c hcm) hu (hq c hcm) (by rw [h1]; exact hne)
    rw [h1] at h2
    exact ih (setT vals next) (list ++ [next]) (by omega) (by rw [setT_length]; exact hl) (tri_set ht _) (under_set hl hlo hu h2)
def zero0 (v : List Int) : Prop := v.getD 0 0 = 0
theorem zero0_set {vars x : Int} {v : List Int} (hx : litOK vars x) (h : zero0 v) : zero0 (setT v x) := by
 have : x.natAbs ≠ 0 := by have := hx.1; omega
 unfold zero0 at *
 rw [setT_eq, List.getD_eq_getElem?_getD, List.getElem?_set_ne this, ← List.getD_eq_getElem?_getD]; exact h
theorem propGo_zero0 {vars : Int} {cls : List (List Int)} (hc : ClsOK vars cls) : ∀ (f : Nat) (vals list : List Int), zero0 vals → zero0 (propGo cls f vals list).2.2 := by
 intro f
 induction f with
 | zero => intro vals list h; exact h
 | succ f ih =>
  intro vals list h0
  have hfr := scanGo_free (vals := vals) (cls := cls) (i := 0) (next := 0) (.inl rfl)
  simp only [propGo]
  generalize scanGo vals cls 0 0 = q at hfr
  obtain ⟨o, next⟩ := q
  cases o with
  | some i => exact h0
  | none =>
   simp only
   cases hd : next == 0 with
   | true => exact h0
   | false =>
    simp only [cond_false]
    have hne : next ≠ 0 := by simpa using hd
    obtain ⟨hf, hin⟩ := hfr.resolve_left hne
    obtain ⟨c0, hcm0, hnm⟩ := hin.resolve_right hne
    exact ih _ _ (zero0_set (hc.2 c0 hcm0 next hnm) h0)
theorem val_of {vars : Int} {v : List Int} (ht : tri v) (i : Nat) (hi : litOK vars (i : Nat)) (hl : i < v.length) : v.getD i 0 = if isT v (i : Nat) = true then 1 else if isT v (-(i : Nat) : Int) = true then -1 else 0 := by
 have h1 : isT v (i : Nat) = (v.getD i 0 == 1) := by rw [isT_val hi.1, if_neg (by omega)]; rfl
 have h2 : isT v (-(i : Nat) : Int) = (v.getD i 0 == -1) := by rw [isT_val (litOK_neg hi).1, if_pos (by have := hi.1; omega), Int.natAbs_neg]; rfl
 rw [h1, h2]
 have hm : v.getD i 0 ∈ v := getD_mem 0 hl
 rcases ht _ hm with e | e | e <;> rw [e] <;> rfl
theorem under_eq {vars : Int} {v w : List Int} (hl : (v.length : Int) = vars + 1) (hl2 : (w.length : Int) = vars + 1) (ht : tri v) (ht2 : tri w) (h0 : zero0 v) (h02 : zero0 w) (h1 : under vars v w) (h2 : under vars w v) : v = w := by
 refine List.ext_getElem (by omega) fun i hi hi2 => ?_
 have key : v.getD i 0 = w.getD i 0 := by
  by_cases h : i = 0
  ·subst h; exact h0.trans h02.symm
  ·have hx : litOK vars (i : Nat) := ⟨by omega, by omega, by omega⟩
   have same : ∀ x, litOK vars x → isT v x = isT w x := fun x hx => by
    cases e : isT v x with
    | true => exact (h1 x hx e).symm
    | false => cases e2 : isT w x with
     | false => rfl
     | true => rw [h2 x hx e2] at e; cases e
   rw [val_of ht i hx hi, val_of ht2 i hx hi2, same _ hx, same _ (litOK_neg hx)]
 simpa [List.getD, hi, hi2] using key
/-- Two values that have the same closed ones above them propagate alike. -/
theorem prop_same {vars : Int} {cls : List (List Int)} {v u : List Int} (hc : ClsOK vars cls) (hl : (v.length : Int) = vars + 1) (hl2 : (u.length : Int) = vars + 1) (ht : tri v) (ht2 : tri u) (h0 : zero0 v) (h02 : zero0 u)
  (h : ∀ w, (∀ c ∈ cls, quiet w c) → (under vars v w ↔ under vars u w)) :
  ((propGo cls (zeros v + 1) v []).2.1 < 0 ↔ (propGo cls (zeros u + 1) u []).2.1 < 0) ∧ ((propGo cls (zeros v + 1) v []).2.1 < 0 → (propGo cls (zeros v + 1) v []).2.2 = (propGo cls (zeros u + 1) u []).2.2) := by
 have q1 := propGo_quiet hc (zeros v + 1) v [] (by omega) hl ht
 have q2 := propGo_quiet hc (zeros u + 1) u [] (by omega) hl2 ht2
 have u1 := (propGo_spec hc (zeros v + 1) v [] (by omega) hl ht).1
 have u2 := (propGo_spec hc (zeros u + 1) u [] (by omega) hl2 ht2).1
 have l1 := fun (w : List Int) (hq : ∀ c ∈ cls, quiet w c) => propGo_least hc hq (zeros v + 1) v [] (by omega) hl ht
 have l2 := fun (w : List Int) (hq : ∀ c ∈ cls, quiet w c) => propGo_least hc hq (zeros u + 1) u [] (by omega) hl2 ht2
 obtain ⟨k1, k2, _⟩ := propGo_keeps hc (zeros v + 1) v [] hl ht
 obtain ⟨k3, k4, _⟩ := propGo_keeps hc (zeros u + 1) u [] hl2 ht2
 have z1 := propGo_zero0 hc (zeros v + 1) v [] h0
 have z2 := propGo_zero0 hc (zeros u + 1) u [] h02
 have e1 : (propGo cls (zeros v + 1) v []).2.1 < 0 → (propGo cls (zeros u + 1) u []).2.1 < 0 := fun hn => (l2 _ (q1 hn) ((h _ (q1 hn)).1 u1)).1
 have e2 : (propGo cls (zeros u + 1) u []).2.1 < 0 → (propGo cls (zeros v + 1) v []).2.1 < 0 := fun hn => (l1 _ (q2 hn) ((h _ (q2 hn)).2 u2)).1
 refine ⟨⟨e1, e2⟩, fun hn => ?_⟩
 have hn2 := e1 hn
 exact under_eq (by omega) (by omega) k2 k4 z1 z2 (l1 _ (q2 hn2) ((h _ (q2 hn2)).2 u2)).2 (l2 _ (q1 hn) ((h _ (q1 hn)).1 u1)).2
end
section
/-- A clause in order. -/
def ordP (c : List Int) : List Int := c.foldl insR []
/-- The last clause of the same literals, of the first so many. -/
def findC (cls : List (List Int)) (c : List Int) : Nat → Option Nat
 | 0 => none
 | k + 1 => if ordP (cls.getD k []) = ordP c then some k else findC cls c k
/-- What the steps of a proof come to: a place and a code. -/
def checkP (vars : Int) : List (Bool × List Int) → List (List Int) → Nat → Nat × Int
 | [], _, n => (n, 3)
 | s :: r, cls, n => bif s.1 then (match findC cls s.2 cls.length with | none => (n, 6) | some k => checkP vars r (cls.take k ++ cls.drop (k + 1)) (n + 1))
  else bif !rupP vars cls s.2 && !ratP vars cls s.2 then (n, 8) else bif s.2.length == 0 then (n, 0) else checkP vars r (cls ++ [s.2]) (n + 1)
/-- Clauses that are no wider than twelve. -/
def Cl (vars : Int) (cls : List (List Int)) : Prop := ∀ c ∈ cls, c.length ≤ 12 ∧ ∀ x ∈ c, litOK vars x
theorem Cl.ok {vars : Int} {cls : List (List Int)} (h : Cl vars cls) (hl : cls.length ≤ 1000000) : ClsOK vars cls := ⟨⟨hl, fun c hc => by have := (h c hc).1; omega⟩, fun c hc => (h c hc).2⟩
theorem Cl.app {vars : Int} {cls more : List (List Int)} (h : Cl vars cls) (h2 : Cl vars more) : Cl vars (cls ++ more) := fun c hc => (List.mem_append.1 hc).elim (h c) (h2 c)
theorem Cl.one {vars : Int} {c : List Int} (h : c.length ≤ 12) (h2 : ∀ x ∈ c, litOK vars x) : Cl vars [c] := fun d hd => by rw [List.mem_singleton.1 hd]; exact ⟨h, h2⟩
theorem evalB_app {cls more : List (List Int)} {bs : List Bool} : evalB (cls ++ more) bs = (evalB cls bs && evalB more bs) := by simp [evalB]
theorem model_some {vars : Int} {cls : List (List Int)} {bs : List Bool} (hv : 0 ≤ vars) (hc : ClsOK vars cls) (he : evalB cls bs = true) : modelP vars cls ≠ none := fun h => by
 have := (modelP_spec hv hc).1 h bs
 rw [he] at this; cases this
def setAll (vals list : List Int) : List Int := list.foldl setT vals
theorem setAll_snoc (vals list : List Int) (x : Int) : setAll vals (list ++ [x]) = setT (setAll vals list) x := by simp [setAll]
def negC (chosen : List Int) : List Int := chosen.map fun x => -x
/-- The step of a leaf or behind two. -/
def finP (chosen : List Int) (steps : List (List Int)) : List (List Int) × Int := bif decide (steps.length = 200) || decide (12 < chosen.length) then (steps, 7) else (steps ++ [negC chosen], 0)
/-- From choices on: the steps so far and a code. -/
def refP (vars : Int) (cls : List (List Int)) : Nat → List Int → List (List Int) → List (List Int) × Int
 | 0, _, steps => (steps, 6)
 | f + 1, chosen, steps =>
  bif decide ((propGo cls (zeros (setAll (zeroVals vars) chosen) + 1) (setAll (zeroVals vars) chosen) []).2.1 ≥ 0) then finP chosen steps else
  bif findZ ((propGo cls (zeros (setAll (zeroVals vars) chosen) + 1) (setAll (zeroVals vars) chosen) []).2.2.drop 1) 0 + 1 == 0 then (steps, 6) else
  bif (refP vars cls f (chosen ++ [-(findZ ((propGo cls (zeros (setAll (zeroVals vars) chosen) + 1) (setAll (zeroVals vars) chosen) []).2.2.drop 1) 0 + 1)]) steps).2 == 0 then
   bif (refP vars cls f (chosen ++ [findZ ((propGo cls (zeros (setAll (zeroVals vars) chosen) + 1) (setAll (zeroVals vars) chosen) []).2.2.drop 1) 0 + 1]) (refP vars cls f (chosen ++ [-(findZ ((propGo cls (zeros (setAll (zeroVals vars) chosen) + 1) (setAll (zeroVals vars) chosen) []).2.2.drop 1) 0 + 1)]) steps).1).2 == 0 then
    finP chosen (refP vars cls f (chosen ++ [findZ ((propGo cls (zeros (setAll (zeroVals vars) chosen) + 1) (setAll (zeroVals vars) chosen) []).2.2.drop 1) 0 + 1]) (refP vars cls f (chosen ++ [-(findZ ((propGo cls (zeros (setAll (zeroVals vars) chosen) + 1) (setAll (zeroVals vars) chosen) []).2.2.drop 1) 0 + 1)]) steps).1).1
   else refP vars cls f (chosen ++ [findZ ((propGo cls (zeros (setAll (zeroVals vars) chosen) + 1) (setAll (zeroVals vars) chosen) []).2.2.drop 1) 0 + 1]) (refP vars cls f (chosen ++ [-(findZ ((propGo cls (zeros (setAll (zeroVals vars) chosen) + 1) (setAll (zeroVals vars) chosen) []).2.2.drop 1) 0 + 1)]) steps).1
  else refP vars cls f (chosen ++ [-(findZ ((propGo cls (zeros (setAll (zeroVals vars) chosen) + 1) (setAll (zeroVals vars) chosen) []).2.2.drop 1) 0 + 1)]) steps
theorem setAll_keeps {vars : Int} : ∀ {list vals : List Int}, (vals.length : Int) = vars + 1 → tri vals → zero0 vals → (∀ x ∈ list, litOK vars x) → ((setAll vals list).length : Int) = vars + 1 ∧ tri (setAll vals list) ∧ zero0 (setAll vals list) := by
 intro list
 induction list with
 | nil => intro vals hl ht h0 _; exact ⟨hl, ht, h0⟩
 | cons x r ih => intro vals hl ht h0 hx; exact ih (by rw [setT_length]; exact hl) (tri_set ht _) (zero0_set (hx x (by simp)) h0) fun y hy => hx y (by simp [hy])
theorem zero0_zero (vars : Int) (hv : 0 ≤ vars) : zero0 (zeroVals vars) := by
 unfold zero0 zeroVals
 rw [List.getD_eq_getElem?_getD, List.getElem?_replicate]
 split <;> rfl
theorem negGo_set {vars : Int} : ∀ {list vals v : List Int}, (vals.length : Int) = vars + 1 → (∀ x ∈ list, litOK vars x) → negGo vals (negC list) = some v → v = setAll vals list ∧ under vars vals v ∧ ∀ x ∈ list, isT v x = true := by
 intro list
 induction list with
 | nil => intro vals v _ _ h; simp only [negC, List.map_nil, negGo, Option.some.injEq] at h; subst h; exact ⟨rfl, fun x _ h => h, fun x hx => by cases hx⟩
 | cons x r ih =>
  intro vals v hl hx h
  have hx0 := hx x (by simp)
  simp only [negC, List.map_cons, negGo, Int.neg_neg] at h
  cases h1 : isT vals (-x) with
  | true => rw [h1] at h; cases h
  | false =>
   rw [h1] at h
   simp only [cond_false] at h
   obtain ⟨e, h2, h3⟩ := ih (by rw [setT_length]; exact hl) (fun y hy => hx y (by simp [hy])) h
   refine ⟨e, (set_over hl hx0 h1).trans h2, fun y hy => ?_⟩
   rcases List.mem_cons.1 hy with rfl | hy
   ·exact h2 y hx0 (set_self hl hx0)
   ·exact h3 y hy
theorem rup_of {vars : Int} {cls : List (List Int)} {chosen : List Int} (hv : 0 ≤ vars) (hx : ∀ x ∈ chosen, litOK vars x)
  (h : (∀ x ∈ chosen, isT (setAll (zeroVals vars) chosen) x = true) → 0 ≤ (propGo cls (zeros (setAll (zeroVals vars) chosen) + 1) (setAll (zeroVals vars) chosen) []).2.1) : rupP vars cls (negC chosen) = true := by
 unfold rupP
 cases hn : negGo (zeroVals vars) (negC chosen) with
 | none => rfl
 | some v =>
  obtain ⟨e, _, h2⟩ := negGo_set (zeroVals_len hv) hx hn
  subst e
  exact decide_eq_true (h h2)
theorem rup_leaf {vars : Int} {f cls : List (List Int)} {s : List Int} (hf : ClsOK vars f) (hc : ClsOK vars cls) (hsub : ∀ c ∈ f, c ∈ cls) (hl : (s.length : Int) = vars + 1) (ht : tri s) (h : 0 ≤ (propGo f (zeros s + 1) s []).2.1) : 0 ≤ (propGo cls (zeros s + 1) s []).2.1 := by
 by_cases hn : (propGo cls (zeros s + 1) s []).2.1 < 0
 ·have hq := propGo_quiet hc (zeros s + 1) s [] (by omega) hl ht hn
  have hu := (propGo_spec hc (zeros s + 1) s [] (by omega) hl ht).1
  have := (propGo_least hf (fun c hc => hq c (hsub c hc)) (zeros s + 1) s [] (by omega) hl ht hu).1
  omega
 ·omega
theorem quiet_last {vars : Int} {w ch : List Int} {y : Int} (hx : ∀ x ∈ ch, litOK vars x) (h : ∀ x ∈ ch, isT w x = true) (hq : quiet w (negC ch ++ [y])) : isT w y = true := by
 have neg : ∀ z ∈ negC ch, isT w z = false ∧ isT w (-z) = true := fun z hz => by
  obtain ⟨x, hxm, rfl⟩ := List.mem_map.1 hz
  exact ⟨isT_not (hx x hxm).1 (h x hxm), by rw [Int.neg_neg]; exact h x hxm⟩
 rcases hq with ⟨z, hz, h1⟩ | ⟨z, hz, u, hu, hzu, h1, h2⟩
 ·rcases List.mem_append.1 hz with hz | hz
  ·rw [(neg z hz).1] at h1; cases h1
  ·rw [← List.mem_singleton.1 hz]; exact h1
 ·exfalso
  rcases List.mem_append.1 hz with hz | hz
  ·rw [(neg z hz).2] at h1; cases h1
  ·rcases List.mem_append.1 hu with hu | hu
   ·rw [(neg u hu).2] at h2; cases h2
   ·exact hzu ((List.mem_singleton.1 hz).trans (List.mem_singleton.1 hu).symm)
theorem rup_node {vars : Int} {cls : List (List Int)} {s ch : List Int} {v : Int} (hc : ClsOK vars cls) (hv : litOK vars v) (hx : ∀ x ∈ ch, litOK vars x) (h1 : negC ch ++ [v] ∈ cls) (h2 : negC ch ++ [-v] ∈ cls) (hl : (s.length : Int) = vars + 1) (ht : tri s) (hs : ∀ x ∈ ch, isT s x = true) : 0 ≤ (propGo cls (zeros s + 1) s []).2.1 := by
 by_cases hn : (propGo cls (zeros s + 1) s []).2.1 < 0
 ·have hq := propGo_quiet hc (zeros s + 1) s [] (by omega) hl ht hn
  have hu := (propGo_spec hc (zeros s + 1) s [] (by omega) hl ht).1
  have hw : ∀ x ∈ ch, isT (propGo cls (zeros s + 1) s []).2.2 x = true := fun x hxm => hu x (hx x hxm) (hs x hxm)
  have e1 := quiet_last hx hw (hq _ h1)
  have e2 := quiet_last hx hw (hq _ h2)
  rw [isT_not hv.1 e1] at e2; cases e2
 ·omega
/-- A stretch of steps that only adds. -/
def adds (new : List (List Int)) : List (Bool × List Int) := new.map fun c => (false, c)
def passes (vars : Int) (f new : List (List Int)) : Prop := ∀ cls, (∀ c ∈ f, c ∈ cls) → Cl vars cls → cls.length + new.length ≤ 100000 → ∀ rest n, checkP vars (adds new ++ rest) cls n = checkP vars rest (cls ++ new) (n + new.length)
theorem checkP_add {vars : Int} {cls : List (List Int)} {c : List Int} {rest : List (Bool × List Int)} {n : Nat} (h : rupP vars cls c = true) (hc : c.length ≠ 0) : checkP vars ((false, c) :: rest) cls n = checkP vars rest (cls ++ [c]) (n + 1) := by
 have : (c.length == 0) = false := by simpa using hc
 simp only [checkP, h, this, cond_false, Bool.not_true, Bool.false_and]
theorem passes.snoc {vars : Int} {f new : List (List Int)} {c : List Int} (h : passes vars f new) (hn : Cl vars new) (hc : c.length ≠ 0) (hr : ∀ cls, (∀ d ∈ f ++ new, d ∈ cls) → Cl vars cls → cls.length ≤ 100000 → rupP vars cls c = true) : passes vars f (new ++ [c]) := by
 intro cls hsub hcl hl rest n
 rw [List.length_append, List.length_singleton] at hl
 have e : adds (new ++ [c]) ++ rest = adds new ++ ((false, c) :: rest) := by simp [adds]
 rw [e, h cls hsub hcl (by omega), checkP_add (hr _ (fun d hd => ?_) (hcl.app hn) (by simp; omega)) hc, List.append_assoc]
 ·simp only [List.length_append, List.length_singleton]; rfl
 ·rcases List.mem_append.1 hd with hd | hd
  ·exact List.mem_append.2 (.inl (hsub d hd))
  ·exact List.mem_append.2 (.inr hd)
theorem passes.app {vars : Int} {f new more : List (List Int)} (h : passes vars f new) (h2 : passes vars f more) (hn : Cl vars new) : passes vars f (new ++ more) := by
 intro cls hsub hcl hl rest n
 rw [List.length_append] at hl
 have e : adds (new ++ more) ++ rest = adds new ++ (adds more ++ rest) := by simp [adds]
 rw [e, h cls hsub hcl (by omega), h2 (cls ++ new) (fun d hd => List.mem_append.2 (.inl (hsub d hd))) (hcl.app hn) (by simp; omega), List.append_assoc]
 simp only [List.length_append]; rw [Nat.add_assoc]
theorem finP_ok {chosen : List Int} {steps out : List (List Int)} (h : finP chosen steps = (out, 0)) : out = steps ++ [negC chosen] ∧ chosen.length ≤ 12 ∧ steps.length ≠ 200 := by
 unfold finP at h
 cases h1 : (decide (steps.length = 200) || decide (12 < chosen.length)) with
 | true => rw [h1] at h; simp at h
 | false =>
  rw [h1] at h
  simp only [cond_false, Prod.mk.injEq] at h
  simp only [Bool.or_eq_false_iff, decide_eq_false_iff_not] at h1
  exact ⟨h.1.symm, by omega, h1.1⟩
theorem negC_snoc (ch : List Int) (x : Int) : negC (ch ++ [x]) = negC ch ++ [-x] := by simp [negC]
theorem negC_lit {vars : Int} {ch : List Int} (h : ∀ x ∈ ch, litOK vars x) : ∀ x ∈ negC ch, litOK vars x := fun x hx => by
 obtain ⟨y, hy, rfl⟩ := List.mem_map.1 hx
 exact litOK_neg (h y hy)
theorem negC_len (ch : List Int) : (negC ch).length = ch.length := by simp [negC]
/-- What a refutation has told goes through the check. -/
theorem refP_check {vars : Int} {f : List (List Int)} (hv : 0 ≤ vars) (hf : ClsOK vars f) : ∀ (fu : Nat) (chosen : List Int) (steps out : List (List Int)), (∀ x ∈ chosen, litOK vars x) → refP vars f fu chosen steps = (out, 0) →
  ∃ new, out = steps ++ new ++ [negC chosen] ∧ chosen.length ≤ 12 ∧ Cl vars new ∧ passes vars f new ∧ ∀ cls, (∀ d ∈ f ++ new, d ∈ cls) → Cl vars cls → cls.length ≤ 100000 → rupP vars cls (negC chosen) = true := by
 intro fu
 induction fu with
 | zero => intro chosen steps out _ h; simp [refP] at h
 | succ fu ih =>
  intro chosen steps out hx h
  obtain ⟨k1, k2, k3⟩ := setAll_keeps (zeroVals_len hv) (zeroVals_tri vars) (zero0_zero vars hv) hx
  have kk := propGo_keeps hf (zeros (setAll (zeroVals vars) chosen) + 1) (setAll (zeroVals vars) chosen) [] k1 k2
  simp only [refP] at h
  have hru := fun cls => rup_of (cls := cls) hv hx
  generalize setAll (zeroVals vars) chosen = s at *
  generalize hR : propGo f (zeros s + 1) s [] = R at *
  obtain ⟨lst, at', w⟩ := R
  simp only at h kk
  cases h1 : decide (at' ≥ 0) with
  | true =>
   rw [h1] at h
   simp only [cond_true] at h
   obtain ⟨e, h2, _⟩ := finP_ok h
   refine ⟨[], (by rw [List.append_nil]; exact e), h2, (fun c (hc : c ∈ []) => (by cases hc)), (fun cls _ _ _ rest n => (by simp [adds])), fun cls hsub hcl hl => hru cls fun _ => ?_⟩
   refine rup_leaf hf (hcl.ok (by omega)) (fun c hc => hsub c (by simp [hc])) k1 k2 ?_
   rw [hR]; exact of_decide_eq_true h1
  | false =>
   rw [h1] at h
   simp only [cond_false] at h
   have hfz := findZ_get (vals := w) (vars := vars) (by omega)
   generalize findZ (w.drop 1) 0 + 1 = v at *
   cases h2 : v == 0 with
   | true => rw [h2] at h; simp at h
   | false =>
    rw [h2] at h
    simp only [cond_false] at h
    have hvl := (hfz (by simpa using h2)).1
    have hx1 : ∀ x ∈ chosen ++ [-v], litOK vars x := fun x hxm => (List.mem_append.1 hxm).elim (hx x) fun h => by rw [List.mem_singleton.1 h]; exact litOK_neg hvl
    have hx2 : ∀ x ∈ chosen ++ [v], litOK vars x := fun x hxm => (List.mem_append.1 hxm).elim (hx x) fun h => by rw [List.mem_singleton.1 h]; exact hvl
    have i1 := ih (chosen ++ [-v]) steps
    generalize refP vars f fu (chosen ++ [-v]) steps = A at h i1
    obtain ⟨s1, c1⟩ := A
    simp only at h
    cases h3 : c1 == 0 with
    | false => rw [h3] at h; simp only [cond_false, Prod.mk.injEq] at h; rw [h.2] at h3; cases h3
    | true =>
     rw [h3] at h
     simp only [cond_true] at h
     have i2 := ih (chosen ++ [v]) s1
     generalize refP vars f fu (chosen ++ [v]) s1 = B at h i2
     obtain ⟨s2, c2⟩ := B
     simp only at h
     cases h4 : c2 == 0 with
     | false => rw [h4] at h; simp only [cond_false, Prod.mk.injEq] at h; rw [h.2] at h4; cases h4
     | true =>
      rw [h4] at h
      simp only [cond_true] at h
      have e1 : c1 = 0 := by simpa using h3
      have e2 : c2 = 0 := by simpa using h4
      subst e1 e2
      obtain ⟨n1, o1, w1, l1, p1, r1⟩ := i1 s1 hx1 rfl
      obtain ⟨n2, o2, w2, l2, p2, r2⟩ := i2 s2 hx2 rfl
      obtain ⟨e, h5, _⟩ := finP_ok h
      have ca : Cl vars [negC (chosen ++ [-v])] := Cl.one (by rw [negC_len]; exact w1) (negC_lit hx1)
      have cb : Cl vars [negC (chosen ++ [v])] := Cl.one (by rw [negC_len]; exact w2) (negC_lit hx2)
      have pa := p1.snoc (c := negC (chosen ++ [-v])) l1 (by rw [negC_len]; simp) fun cls hsub => r1 cls hsub
      have pb := p2.snoc (c := negC (chosen ++ [v])) l2 (by rw [negC_len]; simp) fun cls hsub => r2 cls hsub
      refine ⟨(n1 ++ [negC (chosen ++ [-v])]) ++ (n2 ++ [negC (chosen ++ [v])]), ?_, h5, (l1.app ca).app (l2.app cb), pa.app pb (l1.app ca), fun cls hsub hcl hl => hru cls fun hs => ?_⟩
      ·rw [e, o2, o1]; simp only [List.append_assoc]
      ·refine rup_node (v := v) (ch := chosen) (hcl.ok (by omega)) hvl hx (hsub _ ?_) (hsub _ ?_) k1 k2 hs
       ·rw [negC_snoc, Int.neg_neg]; simp
       ·rw [negC_snoc chosen v]; simp
theorem refP_proof {vars : Int} {f out : List (List Int)} {fu : Nat} (hv : 0 ≤ vars) (hf : Cl vars f) (hl : f.length ≤ 1000) (h : refP vars f fu [] [] = (out, 0)) (ho : out.length ≤ 1000) : 1 ≤ out.length ∧ checkP vars (adds out) f 0 = (out.length - 1, 0) ∧ Cl vars out := by
 obtain ⟨new, e, _, hn, hp, hr⟩ := refP_check hv (hf.ok (by omega)) fu [] [] out (fun x hx => by cases hx) h
 rw [List.nil_append] at e
 subst e
 have e1 : negC [] = [] := rfl
 rw [e1] at hr ⊢
 rw [List.length_append, List.length_singleton] at ho ⊢
 have ha : adds (new ++ [[]]) = adds new ++ [(false, [])] := by simp [adds]
 refine ⟨by omega, ?_, hn.app (Cl.one (by simp) fun x hx => by cases hx)⟩
 rw [ha, hp f (fun c hc => hc) hf (by omega)]
 have h1 := hr (f ++ new) (fun d hd => hd) (hf.app hn) (by simp; omega)
 simp [checkP, h1]
/-- A refutation that finds a model. -/
theorem refP_model {vars : Int} {f : List (List Int)} (hv : 0 ≤ vars) (hf : ClsOK vars f) : ∀ (fu : Nat) (chosen : List Int) (steps : List (List Int)), (∀ x ∈ chosen, litOK vars x) → zeros (setAll (zeroVals vars) chosen) < fu → ((refP vars f fu chosen steps).2 = 0 ∨ (refP vars f fu chosen steps).2 = 7 ∨ ((refP vars f fu chosen steps).2 = 6 ∧ modelP vars f ≠ none)) ∧ ((refP vars f fu chosen steps).1.length ≤ 200 ∨ 200 < steps.length) := by
 intro fu
 induction fu with
 | zero => intro chosen steps _ h; omega
 | succ fu ih =>
  intro chosen steps hx hz
  obtain ⟨k1, k2, k3⟩ := setAll_keeps (zeroVals_len hv) (zeroVals_tri vars) (zero0_zero vars hv) hx
  have kk := propGo_keeps hf (zeros (setAll (zeroVals vars) chosen) + 1) (setAll (zeroVals vars) chosen) [] k1 k2
  have sp := propGo_spec hf (zeros (setAll (zeroVals vars) chosen) + 1) (setAll (zeroVals vars) chosen) [] (by omega) k1 k2
  have fin : ∀ st : List (List Int), ((finP chosen st).2 = 0 ∨ (finP chosen st).2 = 7 ∨ ((finP chosen st).2 = 6 ∧ modelP vars f ≠ none)) ∧ ((finP chosen st).1.length ≤ 200 ∨ 200 < st.length) := fun st => by
   unfold finP
   cases h1 : (decide (st.length = 200) || decide (12 < chosen.length)) with
   | true => exact ⟨.inr (.inl rfl), by simp only [cond_true]; omega⟩
   | false =>
    simp only [Bool.or_eq_false_iff, decide_eq_false_iff_not] at h1
    exact ⟨.inl rfl, by simp only [cond_false, List.length_append, List.length_singleton]; omega⟩
  have zs : ∀ x, litOK vars x → free (setAll (zeroVals vars) chosen) x → zeros (setAll (zeroVals vars) (chosen ++ [x])) < fu := fun x hx hfr => by
   rw [setAll_snoc]
   have := zeros_set k1 k2 hx hfr
   omega
  simp only [refP]
  generalize setAll (zeroVals vars) chosen = s at *
  generalize propGo f (zeros s + 1) s [] = R at *
  obtain ⟨lst, at', w⟩ := R
  simp only at kk sp ⊢
  cases h1 : decide (at' ≥ 0) with
  | true => exact fin steps
  | false =>
   simp only [cond_false]
   have hlt : at' < 0 := by have := of_decide_eq_false h1; omega
   have hfz := findZ_get (vals := w) (vars := vars) (by omega)
   have htot := findZ_total (vars := vars) (vals := w) (by omega) kk.2.1
   generalize findZ (w.drop 1) 0 + 1 = v at *
   cases h2 : v == 0 with
   | true =>
    have ht := htot (by simpa using h2)
    refine ⟨.inr (.inr ⟨rfl, model_some (bs := valsB w) hv hf ?_⟩), by simp only [cond_true]; omega⟩
    unfold evalB
    rw [List.all_eq_true]
    intro c hc
    obtain ⟨x, hxm, hxt⟩ := unit_total ht (hf.2 c hc) (sp.2.2 hlt c hc)
    rw [List.any_eq_true]
    exact ⟨x, hxm, by rw [litV_valsB (by omega) ht (hf.2 c hc x hxm)]; exact hxt⟩
   | false =>
    simp only [cond_false]
    obtain ⟨hvl, _, hfr1, hfr2⟩ := hfz (by simpa using h2)
    have down : ∀ x, litOK vars x → free w x → free s x := fun x hx h => by
     refine ⟨?_, ?_⟩
     ·cases e : isT s x with
      | false => rfl
      | true => have := sp.1 x hx e; rw [h.1] at this; cases this
     ·cases e : isT s (-x) with
      | false => rfl
      | true => have := sp.1 (-x) (litOK_neg hx) e; rw [h.2] at this; cases this
    have hx1 : ∀ x ∈ chosen ++ [-v], litOK vars x := fun x hxm => (List.mem_append.1 hxm).elim (hx x) fun h => by rw [List.mem_singleton.1 h]; exact litOK_neg hvl
    have hx2 : ∀ x ∈ chosen ++ [v], litOK vars x := fun x hxm => (List.mem_append.1 hxm).elim (hx x) fun h => by rw [List.mem_singleton.1 h]; exact hvl
    have i1 := ih (chosen ++ [-v]) steps hx1 (zs _ (litOK_neg hvl) (down _ (litOK_neg hvl) hfr2))
    generalize refP vars f fu (chosen ++ [-v]) steps = A at i1 ⊢
    obtain ⟨s1, c1⟩ := A
    simp only at i1 ⊢
    cases h3 : c1 == 0 with
    | false => exact i1
    | true =>
     simp only [cond_true]
     have i2 := ih (chosen ++ [v]) s1 hx2 (zs _ hvl (down _ hvl hfr1))
     generalize refP vars f fu (chosen ++ [v]) s1 = B at i2 ⊢
     obtain ⟨s2, c2⟩ := B
     simp only at i2 ⊢
     cases h4 : c2 == 0 with
     | false => exact ⟨i2.1, by simp only [cond_false]; omega⟩
     | true =>
      simp only [cond_true]
      exact ⟨(fin s2).1, by have := (fin s2).2; omega⟩
end
section
attribute [local irreducible] SRun DS DRun
variable {Γ : St} {σ σ0 : St}
/-- What is owned beside what is not needed any more. -/
theorem ownL_less {σ1 s : St} {es : Nat} {xs : List V} {q : V} (h : OwnL σ1 es xs q s) (hle : ∀ b c, σ b = some c → σ1 b = some c) : ∃ s2, (∀ b c, s2 b = some c → s b = some c) ∧ OwnL σ es xs q s2 := by
 rcases h.1 with ⟨hc, hl, rfl, es', rfl⟩ | ⟨b2, cap, hb, rfl, rfl, h4⟩
 ·exact ⟨σ, hle, .inl ⟨hc, hl, rfl, es', rfl⟩, h.2⟩
 ·have hb2 : σ b2 = none := by
   cases e : σ b2 with
   | none => rfl
   | some c => rw [hle _ _ e] at hb; cases hb
  refine ⟨upd σ b2 (flat xs), fun b c hbc => ?_, .inr ⟨b2, cap, hb2, rfl, rfl, h4⟩, h.2⟩
  by_cases e : b = b2
  ·subst e; rw [upd_same] at hbc ⊢; exact hbc
  ·rw [upd_ne _ _ e] at hbc ⊢; exact hle _ _ hbc
def clsF (ls : List (Bool × List Int)) : List V := ls.map fun p => .isl p.1 1 (ints p.2)
theorem clsF_len (ls : List (Bool × List Int)) : (clsF ls).length = ls.length := by simp [clsF]
section
variable {P : Program} {f : FuncId} {n : Nat} {Q : V → St → Prop} {k : List It} {T : Ts} {g : GI} {l : List GI}
theorem stepW_iaddr_clsF {ex : Bool} {cls : List (Bool × List Int)} {kk : IntKind} {m : Int} (h0 : 0 ≤ m) (h1 : m < cls.length) : stepW P Γ f n Q (.iaddr 1 (.c (.isl ex 1 (clsF cls))) (.c (.int kk m))) g l k T σ = W P Γ f n Q (.ops l :: k) (putT T g.d (.iptr [.isl (cls.getD m.toNat (false, [])).1 1 (ints (cls.getD m.toNat (false, [])).2)])) σ := stepW_iaddr_map h0 h1
theorem stepK_iaddr_clsF {K : V → St → Prop} {ex : Bool} {cls : List (Bool × List Int)} {kk : IntKind} {m : Int} (h0 : 0 ≤ m) (h1 : m < cls.length) : stepK (.iaddr 1 (.c (.isl ex 1 (clsF cls))) (.c (.int kk m))) σ K = K (.iptr [.isl (cls.getD m.toNat (false, [])).1 1 (ints (cls.getD m.toNat (false, [])).2)]) σ := stepK_iaddr_map h0 h1
end
attribute [go_sem] stepW_iaddr_clsF stepK_iaddr_clsF clsF_len
def joinF (ls : List (Bool × List Int)) : List Int := (ls.map (·.2)).flatten
theorem concatF_ok {ex : Bool} {ls : List (Bool × List Int)} (hl : ls.length ≤ 1000) (hs : ∀ c ∈ ls, c.2.length ≤ 1000) : Ret Tryz.prog Γ 68 [.isl ex 1 (clsF ls)] σ (intsV (joinF ls)) σ := by
 have step : ∀ i, i < ls.length → joinF (ls.take (i + 1)) = joinF (ls.take i) ++ (ls.getD i (false, [])).2 := fun i h => by
  unfold joinF
  rw [take_succ (false, []) h, List.map_append, List.flatten_append]; simp
 have hbound : ∀ i, i ≤ ls.length → (joinF (ls.take i)).length ≤ i * 1000 := by
  intro i
  induction i with
  | zero => intro _; simp [joinF]
  | succ i ih =>
   intro h
   rw [step i (by omega), List.length_append]
   have := hs _ (getD_mem (false, []) (by omega : i < ls.length))
   have := ih (by omega)
   omega
 have own : ACalls Tryz.prog Γ 68 [.isl ex 1 (clsF ls)] σ fun r σ' => OwnG σ 1 (ints (joinF ls)) r σ' := by
  refine acalls_W c68_ok rfl ?_
  simp (disch := omega) only [c68, go_sem]
  refine W_loopC (fun i : Nat => i ≤ ls.length) (fun i => [(0, .isl ex 1 (clsF ls)), (3, .int .i64 ((joinF (ls.take i)).length : Nat)), (9, .isl ex 1 (clsF ls)), (10, .int .i64 ls.length), (11, .int .i64 i)]) (fun _ => σ) (fun i => ls.length - i) 0 (by omega) (by simp (disch := omega) only [subT, Int.natCast_add, Int.cast_ofNat_Int, go_sem] <;> (repeat' apply And.intro) <;> first | rfl | (congr 1; omega) | assumption) rfl ?_
  intro i hi ih
  have hbi := hbound i hi
  simp (disch := omega) only [go_sem]
  first | refine iteW_dec (fun hq => ?_) (fun hq => ?_) | refine iteW_of (fun hq => ?_) (fun hq => ?_)
  ·have hsi := hs _ (getD_mem (false, []) (by omega : i < ls.length))
   have htk : (joinF (ls.take (i + 1))).length = (joinF (ls.take i)).length + (ls.getD i (false, [])).2.length := by
    rw [step i (by omega), List.length_append]
   simp (disch := omega) only [go_sem]
   refine ih (i + 1) _ _ (by omega) (by omega) (by simp (disch := omega) only [subT, Int.natCast_add, Int.cast_ofNat_Int, htk, go_sem] <;> (repeat' apply And.intro) <;> first | rfl | (congr 1; omega) | assumption) rfl
  ·obtain rfl : i = ls.length := by omega
   rw [List.take_length] at hbi
   simp (disch := omega) only [List.take_length, go_sem]
   refine SRun.callQ (growI_ok (n := ((joinF ls).length : Nat)) (by omega)) ⟨[], rfl, rfl⟩ rfl ?_
   intro r σ1 ho
   simp (disch := omega) only [go_sem]
   refine W_loopC (fun p : Nat × V × St => p.1 ≤ ls.length ∧ OwnG σ 1 (ints (joinF (ls.take p.1))) p.2.1 p.2.2) (fun p => [(6, p.2.1), (25, .isl ex 1 (clsF ls)), (26, .int .i64 ls.length), (27, .int .i64 p.1)]) (fun p => p.2.2) (fun p => ls.length - p.1) (0, r, σ1) ⟨by simp, .inl ⟨rfl, ho⟩⟩ (by simp (disch := omega) only [subT, Int.natCast_add, Int.cast_ofNat_Int, go_sem] <;> (repeat' apply And.intro) <;> first | rfl | (congr 1; omega) | assumption) rfl ?_
   rintro ⟨i, r6, σ2⟩ ⟨hi2, ho2⟩ ih2
   dsimp only at hi2 ho2 ⊢
   have hbi := hbound i hi2
   simp (disch := omega) only [go_sem]
   first | refine iteW_dec (fun hq2 => ?_) (fun hq2 => ?_) | refine iteW_of (fun hq2 => ?_) (fun hq2 => ?_)
   ·have hsi := hs _ (getD_mem (false, []) (by omega : i < ls.length))
    simp (disch := omega) only [go_sem]
    refine SRun.appG ho2 rfl (ints_ok _) (by rw [ints_len, ints_len]; omega) ?_
    intro r3 σ3 ho3
    simp (disch := omega) only [go_sem]
    refine ih2 (i + 1, r3, σ3) _ _ ⟨by simp only; omega, .inr ?_⟩ (by simp only; omega) (by simp (disch := omega) only [subT, Int.natCast_add, Int.cast_ofNat_Int, go_sem] <;> (repeat' apply And.intro) <;> first | rfl | (congr 1; omega) | assumption) rfl
    have : ints (joinF (ls.take (i + 1))) = ints (joinF (ls.take i)) ++ ints (ls.getD i (false, [])).2 := by
     rw [step i (by omega)]; simp [ints]
    rw [this]; exact ho3
   ·obtain rfl : i = ls.length := by omega
    rw [List.take_length] at ho2
    simp (disch := omega) only [go_sem]
    exact W_retR c68_ok rfl ho2
 exact own.conv fun r s ho => ⟨_, _, ho.conv, rfl, rfl⟩
theorem concat1_ok {e1 e2 e3 : Bool} {xs : List Int} {x : Int} (hl : xs.length ≤ 100) : Ret Tryz.prog Γ 68 [.isl e1 1 [.isl e2 1 (ints xs), .isl e3 1 [.int .i64 x]]] σ (intsV (xs ++ [x])) σ := by
 have h := concatF_ok (Γ := Γ) (σ := σ) (ex := e1) (ls := [(e2, xs), (e3, [x])]) (by simp) (by
  intro c hc
  simp only [List.mem_cons, List.not_mem_nil, or_false] at hc
  rcases hc with rfl | rfl
  ·simp only; omega
  ·simp)
 have e : joinF [(e2, xs), (e3, [x])] = xs ++ [x] := by simp [joinF]
 rw [e] at h
 exact h
def stepV (s : Bool × List Int) : V := .agg [.bool s.1, .isl false 1 (ints s.2)]
def stepsV (xs : List (Bool × List Int)) : List V := xs.map stepV
theorem stepsV_len (xs : List (Bool × List Int)) : (stepsV xs).length = xs.length := by simp [stepsV]
theorem stepsV_ok (xs : List (Bool × List Int)) : ∀ y ∈ stepsV xs, y.cells.length = 2 ∧ ∀ c ∈ y.cells, c.one = true := by
 intro y hy; obtain ⟨s, _, rfl⟩ := List.mem_map.1 hy; simp [stepV, V.cells, V.one]
theorem steps_app (xs : List (Bool × List Int)) (s : Bool × List Int) : stepsV xs ++ [stepV s] = stepsV (xs ++ [s]) := by simp [stepsV]
theorem adds_app (st : List (List Int)) (c : List Int) : adds (st ++ [c]) = adds st ++ [(false, c)] := by simp [adds]
theorem adds_len (st : List (List Int)) : (adds st).length = st.length := by simp [adds]
def refC (vars : Int) (cls : List (List Int)) (q : V) : List V := [.int .i64 vars, .isl false 1 (clsV cls), q]
/-- The refuter with its steps, over what is beside. -/
def RefO (σ0 : St) (vars : Int) (cls : List (List Int)) (st : List (Bool × List Int)) (rb : Nat) (σ : St) : Prop := ∃ q, OwnL (upd σ0 rb (refC vars cls q)) 2 (stepsV st) q σ
theorem RefO.push {σ1 : St} {vars vars2 : Int} {cls cls2 : List (List Int)} {st : List (Bool × List Int)} {vals : List Int} {rb b bv : Nat} (h : RefO σ0 vars cls st rb σ1) (hs : StO σ1 vars2 cls2 vals b bv σ) (hl : (vals.length : Int) = vars2 + 1) :
  ∃ σs, RefO σs vars cls st rb σ ∧ StAt (upd σs rb []) vars2 cls2 vals b bv ∧ b ≠ rb ∧ bv ≠ rb ∧ ∀ c x, c ≠ rb → σ0 c = some x → σs c = some x := by
 obtain ⟨q, ho⟩ := h
 have g := ho.get (upd_same _ rb _)
 obtain ⟨h1, h2, h3, cap, h4, rfl⟩ := hs
 have e1 : b ≠ rb := fun e => by subst e; rw [g] at h1; cases h1
 have e2 : bv ≠ rb := fun e => by subst e; rw [g] at h2; cases h2
 have ho1 := ho.ext (b := bv) (z := ints vals) h2
 have ho2 := ho1.ext (b := b) (z := stC vars2 cls2 bv vals.length cap) (by rw [upd_ne _ _ h3.symm]; exact h1)
 have e : upd (upd (upd σ0 rb (refC vars cls q)) bv (ints vals)) b (stC vars2 cls2 bv vals.length cap) = upd (upd (upd σ0 bv (ints vals)) b (stC vars2 cls2 bv vals.length cap)) rb (refC vars cls q) := by
  funext m
  simp only [upd]
  by_cases m1 : m = b
  ·subst m1; simp [e1]
  ·by_cases m2 : m = bv
   ·subst m2; simp [e2, m1]
   ·simp [m1, m2]
 rw [e] at ho2
 refine ⟨upd (upd σ0 bv (ints vals)) b (stC vars2 cls2 bv vals.length cap), ⟨q, ho2⟩, ⟨⟨cap, h4, ?_⟩, ?_, hl, h3⟩, e1, e2, fun c x hc hx => ?_⟩
 ·rw [upd_ne _ _ e1, upd_same]
 ·rw [upd_ne _ _ e2, upd_ne _ _ h3, upd_same]
 ·have n1 : c ≠ b := fun e => by
   subst e
   have := ho.get (b := c) (c := x) (by rw [upd_ne _ _ hc]; exact hx)
   rw [h1] at this; cases this
  have n2 : c ≠ bv := fun e => by
   subst e
   have := ho.get (b := c) (c := x) (by rw [upd_ne _ _ hc]; exact hx)
   rw [h2] at this; cases this
  rw [upd_ne _ _ n1, upd_ne _ _ n2]; exact hx
theorem RefO.less {σs : St} {vars : Int} {cls : List (List Int)} {st : List (Bool × List Int)} {rb : Nat} (h : RefO σs vars cls st rb σ) (hle : ∀ c x, c ≠ rb → σ0 c = some x → σs c = some x) : ∃ σ2, (∀ c x, σ2 c = some x → σ c = some x) ∧ RefO σ0 vars cls st rb σ2 := by
 obtain ⟨q, ho⟩ := h
 obtain ⟨s2, h1, h2⟩ := ownL_less (σ := upd σ0 rb (refC vars cls q)) ho (fun c x hx => by
  by_cases e : c = rb
  ·subst e; rw [upd_same] at hx ⊢; exact hx
  ·rw [upd_ne _ _ e] at hx ⊢; exact hle c x e hx)
 exact ⟨s2, h1, q, h2⟩
theorem RefO.le {vars : Int} {cls : List (List Int)} {st : List (Bool × List Int)} {rb : Nat} (h : RefO σ0 vars cls st rb σ) : ∀ c x, c ≠ rb → σ0 c = some x → σ c = some x := fun c x hc hx => by
 obtain ⟨q, ho⟩ := h
 exact ho.get (by rw [upd_ne _ _ hc]; exact hx)
theorem StAt.of {σs : St} {vars vars2 : Int} {cls cls2 : List (List Int)} {st : List (Bool × List Int)} {vals : List Int} {rb b bv : Nat} (h : StAt (upd σs rb []) vars2 cls2 vals b bv) (h1 : b ≠ rb) (h2 : bv ≠ rb) (hr : RefO σs vars cls st rb σ) : StAt σ vars2 cls2 vals b bv := by
 obtain ⟨cap, hcap, e1⟩ := h.st'
 have e2 := h.vl
 rw [upd_ne _ _ h1] at e1
 rw [upd_ne _ _ h2] at e2
 exact ⟨⟨cap, hcap, hr.le _ _ h1 e1⟩, hr.le _ _ h2 e2, h.len, h.ne⟩
/-- The values that the refuter has, and what was chosen, tell as much. -/
def alike (vars : Int) (cls : List (List Int)) (vals s : List Int) : Prop := ∀ w, (∀ c ∈ cls, quiet w c) → (under vars vals w ↔ under vars s w)
theorem alike_next {vars x : Int} {cls : List (List Int)} {s : List Int} (hv : 0 ≤ vars) (hc : ClsOK vars cls) (hl : (s.length : Int) = vars + 1) (ht : tri s) (hx : litOK vars x) (hn : (propGo cls (zeros s + 1) s []).2.1 < 0) (hf : free (propGo cls (zeros s + 1) s []).2.2 x) (hlv : ((propGo cls (zeros s + 1) s []).2.2.length : Int) = vars + 1) : alike vars cls (setT (propGo cls (zeros s + 1) s []).2.2 x) (setT s x) := by
 intro w hq
 have u1 : under vars s (propGo cls (zeros s + 1) s []).2.2 := (propGo_spec hc (zeros s + 1) s [] (by omega) hl ht).1
 have fs : isT s (-x) = false := by
  cases e : isT s (-x) with
  | false => rfl
  | true => have := u1 _ (litOK_neg hx) e; rw [hf.2] at this; cases this
 constructor
 ·intro h
  refine under_set hl hx ?_ (h x hx (set_self hlv hx))
  exact u1.trans ((set_over hlv hx hf.2).trans h)
 ·intro h
  have h1 : under vars s w := (set_over hl hx fs).trans h
  have h2 := (propGo_least hc hq (zeros s + 1) s [] (by omega) hl ht h1).2
  exact under_set hlv hx h2 (h x hx (set_self hl hx))
end
section
attribute [local irreducible] SRun DS DRun
variable {Γ : St} {σ σ0 : St}
theorem neg1_ok (x : Int) : ∀ y ∈ [V.int .i64 x], y.cells.length = 1 ∧ ∀ c ∈ y.cells, c.one = true := by
 intro y hy; rw [List.mem_singleton.1 hy]; simp [V.cells, V.one]
set_option maxHeartbeats 2000000 in
theorem goOn_ok {vars : Int} {cls : List (List Int)} (hv : 1 ≤ vars ∧ vars ≤ 40) (hc : ClsOK vars cls) : ∀ (fu : Nat) (σ σ1 σ0 : St) (chosen : List Int) (st : List (List Int)) (vals : List Int) (b bv rb : Nat),
  zeros (setAll (zeroVals vars) chosen) < fu → chosen.length + zeros (setAll (zeroVals vars) chosen) ≤ 60 → (∀ x ∈ chosen, litOK vars x) → (vals.length : Int) = vars + 1 → tri vals → zero0 vals → alike vars cls vals (setAll (zeroVals vars) chosen) → st.length ≤ 200 → RefO σ0 vars cls (adds st) rb σ1 → StO σ1 vars cls vals b bv σ →
  ACalls Tryz.prog Γ 35 [.ptr rb 0, .ptr b 0, .isl false 1 (ints chosen)] σ fun r σ' => r = .int .i64 (refP vars cls fu chosen st).2 ∧ RefO σ0 vars cls (adds (refP vars cls fu chosen st).1) rb σ' := by
 intro fu
 induction fu with
 | zero => intro σ σ1 σ0 chosen st vals b bv rb h; omega
 | succ fu ihf =>
  intro σ σ1 σ0 chosen st vals b bv rb hz hcl hx hl ht h0 hal hst hr ho
  obtain ⟨k1, k2, k3⟩ := setAll_keeps (zeroVals_len (by omega)) (zeroVals_tri vars) (zero0_zero vars (by omega)) hx
  obtain ⟨p1, p2⟩ := prop_same hc hl k1 ht k2 h0 k3 hal
  obtain ⟨m1, m2, _⟩ := propGo_keeps hc (zeros vals + 1) vals [] hl ht
  obtain ⟨m3, m4, m5⟩ := propGo_keeps hc (zeros (setAll (zeroVals vars) chosen) + 1) (setAll (zeroVals vars) chosen) [] k1 k2
  have spx := (propGo_spec hc (zeros (setAll (zeroVals vars) chosen) + 1) (setAll (zeroVals vars) chosen) [] (by omega) k1 k2).1
  have hnx := fun x (hxl : litOK vars x) => alike_next (x := x) (by omega) hc k1 k2 hxl
  have hzx : ∀ x, litOK vars x → free (setAll (zeroVals vars) chosen) x → zeros (setAll (zeroVals vars) (chosen ++ [x])) + 1 = zeros (setAll (zeroVals vars) chosen) := fun x hx hfr => by rw [setAll_snoc]; exact zeros_set k1 k2 hx hfr
  have hsx : ∀ x, setAll (zeroVals vars) (chosen ++ [x]) = setT (setAll (zeroVals vars) chosen) x := fun x => setAll_snoc _ _ _
  generalize hS : refP vars cls (fu + 1) chosen st = S
  simp only [refP] at hS
  refine acalls_W c35_ok rfl ?_
  simp (disch := omega) only [c35, go_sem]
  refine SRun.callR (propagate_frz (ho.at hl) (by omega) hc ht) ⟨[], rfl, rfl⟩ rfl ?_
  have ho2 := ho.set (vals' := (propGo cls (zeros vals + 1) vals []).2.2) m1
  generalize upd σ bv (ints (propGo cls (zeros vals + 1) vals []).2.2) = σa at *
  obtain ⟨σs, hr1, hst1, e1, e2, hle⟩ := hr.push ho2 (by omega)
  clear ho ho2 hr
  have hz0 := propGo_zero0 hc (zeros vals + 1) vals [] h0
  generalize propGo cls (zeros vals + 1) vals [] = R1 at *
  obtain ⟨l1, a1, v1⟩ := R1
  generalize setAll (zeroVals vars) chosen = s at *
  generalize propGo cls (zeros s + 1) s [] = R2 at *
  obtain ⟨l2, a2, v2⟩ := R2
  dsimp only at *
  have back : ∀ st' s', RefO σs vars cls (adds st') rb s' → ∃ s2, (∀ c x, s2 c = some x → s' c = some x) ∧ RefO σ0 vars cls (adds st') rb s2 := fun st' s' h => h.less hle
  simp (disch := omega) only [go_sem]
  refine iteW_join (fun T s' => ∃ st', RefO σs vars cls (adds st') rb s' ∧ st'.length ≤ 200 ∧ finP chosen st' = S ∧ look T 0 = .ptr rb 0 ∧ look T 2 = .isl false 1 (ints chosen)) (fun k' key => ?_) ?_
  ·first | refine iteW_dec (fun hq => ?_) (fun hq => ?_) | refine iteW_of (fun hq => ?_) (fun hq => ?_)
   ·have hq2 := p1.1 hq
    obtain rfl := p2 hq
    have hd : decide (a2 ≥ 0) = false := decide_eq_false (by omega)
    rw [hd] at hS
    simp only [cond_false] at hS
    have sa1 := hst1.of e1 e2 hr1
    have hfz := findZ_get (vals := v1) (vars := vars) (by omega)
    have hin := findZ_in (v1.drop 1) 0
    have hvl : (v1.drop 1).length = v1.length - 1 := List.length_drop
    simp (disch := omega) only [go_sem]
    refine SRun.callR (open_ok sa1 (by omega)) ⟨[], rfl, rfl⟩ rfl ?_
    have hvr : 0 ≤ findZ (v1.drop 1) 0 + 1 ∧ findZ (v1.drop 1) 0 + 1 ≤ 41 := by omega
    clear hin
    generalize findZ (v1.drop 1) 0 + 1 = v at *
    have hneg : (0 : Int) - v = -v := by omega
    simp (disch := omega) only [go_sem]
    first | refine iteW_dec (fun h2 => ?_) (fun h2 => ?_) | refine iteW_of (fun h2 => ?_) (fun h2 => ?_)
    ·have : (v == 0) = true := by simpa using h2
     rw [this] at hS
     simp only [cond_true] at hS
     simp (disch := omega) only [go_sem]
     obtain ⟨s2, q1, q2⟩ := back _ _ hr1
     refine W_retC c35_ok rfl (Conv.drop _ q1) ⟨?_, ?_⟩
     ·rw [← hS]; simp only [look, ev, V.bool.injEq, V.int.injEq, V.str.injEq, V.tup.injEq, V.agg.injEq, V.isl.injEq, List.cons.injEq, true_and, and_true, Nat.reduceEqDiff, Nat.reduceAdd, Nat.reduceSub, Nat.reduceMul, Nat.reducePow, Nat.reduceDiv, Nat.reduceMod, Int.reduceToNat, Nat.reduceLeDiff, Nat.reduceLT, Int.reduceEq, Int.reduceLT, Int.reduceLE, Int.reduceGT, Int.reduceGE, Int.reduceNeg, Int.reduceSub, Int.reduceAdd, Int.reduceMul, Int.reducePow, ne_eq, reduceCtorEq, ↓reduceIte]
     ·rw [← hS]; exact q2
    ·have : (v == 0) = false := by simpa using h2
     rw [this] at hS
     simp only [cond_false] at hS
     obtain ⟨hvl2, _, hf1, hf2⟩ := hfz h2
     simp (disch := omega) only [hneg, go_sem]
     generalize hA : refP vars cls fu (chosen ++ [-v]) st = A at hS
     generalize hB : refP vars cls fu (chosen ++ [v]) A.1 = B at hS
     refine W_loopC (α := Nat × List (List Int) × St) (fun p => p.1 ≤ 2 ∧ RefO σs vars cls (adds p.2.1) rb p.2.2 ∧ p.2.1.length ≤ 200 ∧ (p.1 = 0 → p.2.1 = st) ∧ (p.1 = 1 → A.2 = 0 ∧ p.2.1 = A.1) ∧ (p.1 = 2 → A.2 = 0 ∧ B.2 = 0 ∧ p.2.1 = B.1)) (fun p => [(0, .ptr rb 0), (1, .ptr b 0), (2, .isl false 1 (ints chosen)), (31, .isl true 1 (ints [-v, v])), (32, .int .i64 2), (33, .int .i64 (p.1 : Nat))]) (fun p => p.2.2) (fun p => 2 - p.1) (0, st, _) ⟨by simp, hr1, hst, fun _ => rfl, fun h => by simp at h, fun h => by simp at h⟩ (by simp (disch := omega) only [subT, Int.natCast_add, Int.cast_ofNat_Int, go_sem] <;> (repeat' apply And.intro) <;> first | rfl | (congr 1; omega) | assumption) rfl ?_
     rintro ⟨i, st1, s1⟩ ⟨hi, hr2, hl2, q0, q1, q2⟩ ih
     dsimp only at hi hr2 hl2 q0 q1 q2
     have h2l : ([-v, v] : List Int).length = 2 := rfl
     simp (disch := omega) only [go_sem]
     first | refine iteW_dec (fun h3 => ?_) (fun h3 => ?_) | refine iteW_of (fun h3 => ?_) (fun h3 => ?_)
     ·have hxi : litOK vars ([-v, v].getD i 0) ∧ free v1 ([-v, v].getD i 0) ∧ refP vars cls fu (chosen ++ [[-v, v].getD i 0]) st1 = (if i = 0 then A else B) := by
       have : i = 0 ∨ i = 1 := by omega
       rcases this with rfl | rfl
       ·exact ⟨litOK_neg hvl2, hf2, by rw [q0 rfl]; exact hA⟩
       ·exact ⟨hvl2, hf1, by rw [(q1 rfl).2]; exact hB⟩
      simp (disch := omega) only [h2l, go_sem]
      generalize [-v, v].getD i 0 = x at *
      obtain ⟨hx1, hx2, hx3⟩ := hxi
      have sa := hst1.of e1 e2 hr2
      refine SRun.callQ (stclone_ok sa (by omega)) ⟨[], rfl, rfl⟩ rfl ?_
      rintro r s2 hown
      obtain ⟨bc, bvc, rfl, hoc⟩ := hown.o
      simp (disch := omega) only [go_sem]
      refine SRun.callR (set_ok (x := x) (hoc.at (by omega)) ⟨by have := hx1.2; omega, by have := hx1.2; omega⟩ (by omega)) ⟨[], rfl, rfl⟩ rfl ?_
      have hoc2 := hoc.set (vals' := setT v1 x) (setT_length _ _)
      generalize upd s2 bvc (ints (setT v1 x)) = s3 at *
      simp (disch := omega) only [intsV, go_sem]
      refine SRun.callR (concat1_ok (e1 := true) (e2 := false) (e3 := true) (xs := chosen) (x := x) (by omega)) ⟨[], rfl, rfl⟩ rfl ?_
      simp (disch := omega) only [intsV, go_sem]
      have hsz : free s x := by
       refine ⟨?_, ?_⟩
       ·cases e : isT s x with
        | false => rfl
        | true => have := spx x hx1 e; rw [hx2.1] at this; cases this
       ·cases e : isT s (-x) with
        | false => rfl
        | true => have := spx (-x) (litOK_neg hx1) e; rw [hx2.2] at this; cases this
      have hzz := hzx x hx1 hsz
      have hlx : ∀ y ∈ chosen ++ [x], litOK vars y := fun y hy => (List.mem_append.1 hy).elim (hx y) fun h => by rw [List.mem_singleton.1 h]; exact hx1
      refine SRun.callQ (ihf _ s1 σs (chosen ++ [x]) st1 (setT v1 x) bc bvc rb (by omega) (by rw [List.length_append, List.length_singleton]; omega) hlx (by rw [setT_length]; omega) (tri_set m2 _) (zero0_set hx1 hz0) (by rw [hsx]; exact hnx x hx1 hq2 hx2 (by omega)) hl2 hr2 hoc2) ⟨[], rfl, rfl⟩ rfl ?_
      rintro _ s4 ⟨rfl, hr4⟩
      have hl4 := (refP_model (by omega) hc fu (chosen ++ [x]) st1 hlx (by omega)).2
      rw [hx3] at hr4 hl4 ⊢
      generalize hD : (if i = 0 then A else B) = D at *
      simp (disch := omega) only [go_sem]
      first | refine iteW_dec (fun h4 => ?_) (fun h4 => ?_) | refine iteW_of (fun h4 => ?_) (fun h4 => ?_)
      ·simp (disch := omega) only [go_sem]
       obtain ⟨s5, r1, r2⟩ := back _ _ hr4
       have hSD : S = D := by
        have hd2 : (D.2 == 0) = false := by simpa using h4
        have : i = 0 ∨ i = 1 := by omega
        rcases this with rfl | rfl
        ·rw [if_pos rfl] at hD; subst hD
         rw [hd2] at hS; exact hS.symm
        ·rw [if_neg (by omega)] at hD; subst hD
         have : (A.2 == 0) = true := by simpa using (q1 rfl).1
         rw [this] at hS
         simp only [cond_true] at hS
         rw [hd2] at hS; exact hS.symm
       subst hSD
       refine W_retC c35_ok rfl (Conv.drop _ r1) ⟨?_, r2⟩
       simp only [look, ev, V.bool.injEq, V.int.injEq, V.str.injEq, V.tup.injEq, V.agg.injEq, V.isl.injEq, List.cons.injEq, true_and, and_true, Nat.reduceEqDiff, Nat.reduceAdd, Nat.reduceSub, Nat.reduceMul, Nat.reducePow, Nat.reduceDiv, Nat.reduceMod, Int.reduceToNat, Nat.reduceLeDiff, Nat.reduceLT, Int.reduceEq, Int.reduceLT, Int.reduceLE, Int.reduceGT, Int.reduceGE, Int.reduceNeg, Int.reduceSub, Int.reduceAdd, Int.reduceMul, Int.reducePow, ne_eq, reduceCtorEq, ↓reduceIte]
      ·simp (disch := omega) only [go_sem]
       refine ih (i + 1, D.1, s4) _ _ ⟨by simp only; omega, hr4, by simp only; omega, fun h => by simp at h, fun h => ?_, fun h => ?_⟩ (by simp only; omega) (by simp (disch := omega) only [subT, Int.natCast_add, Int.cast_ofNat_Int, go_sem] <;> (repeat' apply And.intro) <;> first | rfl | (congr 1; omega) | assumption) rfl
       ·have : i = 0 := by simpa using h
        subst this
        rw [if_pos rfl] at hD; subst hD
        exact ⟨by omega, rfl⟩
       ·have : i = 1 := by simp only at h; omega
        subst this
        rw [if_neg (by omega)] at hD; subst hD
        exact ⟨(q1 rfl).1, by omega, rfl⟩
     ·obtain ⟨q3, q4, q5⟩ := q2 (by omega)
      simp (disch := omega) only [go_sem]
      refine key _ _ ⟨B.1, by rw [← q5]; exact hr2, by rw [← q5]; exact hl2, ?_, rfl, rfl⟩
      have z1 : (A.2 == 0) = true := by simpa using q3
      have z2 : (B.2 == 0) = true := by simpa using q4
      rw [z1] at hS
      simp only [cond_true] at hS
      rw [z2] at hS
      exact hS
   ·simp (disch := omega) only [go_sem]
    refine key _ _ ⟨st, hr1, hst, ?_, rfl, rfl⟩
    have hd : decide (a2 ≥ 0) = true := decide_eq_true (by omega)
    rw [hd] at hS
    exact hS
  ·rintro T s' ⟨st', ⟨q, hr2⟩, hst2, hfin, t0, t2⟩
   have g := hr2.get (upd_same _ rb _)
   have hcl2 : chosen.length ≤ 60 := by omega
   simp (disch := omega) only [t0, t2, g, refC, stepW_len_own hr2, stepsV_len, adds_len, go_sem]
   have out : (decide (st'.length = 200) || decide (12 < chosen.length)) = true → S = (st', 7) := fun h => by
    rw [← hfin]; unfold finP; rw [h]; rfl
   have fin2 : (decide (st'.length = 200) || decide (12 < chosen.length)) = false → S = (st' ++ [negC chosen], 0) := fun h => by
    rw [← hfin]; unfold finP; rw [h]; rfl
   obtain ⟨s5, r1, r2⟩ := back st' s' ⟨q, hr2⟩
   first | refine guardW_dec (fun h5 => ?_) (fun h5 => ?_) | refine guardW_by (fun h5 => ?_) (fun h5 => ?_)
   ·simp (disch := omega) only [t0, t2, go_sem]
    have hS2 := out (by rw [decide_eq_true (by omega), Bool.true_or])
    subst hS2
    refine W_retC c35_ok rfl (Conv.drop _ r1) ⟨?_, r2⟩
    simp only [look, ev, V.bool.injEq, V.int.injEq, V.str.injEq, V.tup.injEq, V.agg.injEq, V.isl.injEq, List.cons.injEq, true_and, and_true, Nat.reduceEqDiff, Nat.reduceAdd, Nat.reduceSub, Nat.reduceMul, Nat.reducePow, Nat.reduceDiv, Nat.reduceMod, Int.reduceToNat, Nat.reduceLeDiff, Nat.reduceLT, Int.reduceEq, Int.reduceLT, Int.reduceLE, Int.reduceGT, Int.reduceGE, Int.reduceNeg, Int.reduceSub, Int.reduceAdd, Int.reduceMul, Int.reducePow, ne_eq, reduceCtorEq, ↓reduceIte]
   ·simp (disch := omega) only [t0, t2, go_sem]
    first | refine iteW_dec (fun h6 => ?_) (fun h6 => ?_) | refine iteW_of (fun h6 => ?_) (fun h6 => ?_)
    ·simp (disch := omega) only [t0, t2, go_sem]
     have hS2 := out (by rw [decide_eq_true (by omega : 12 < chosen.length), Bool.or_true])
     subst hS2
     refine W_retC c35_ok rfl (Conv.drop _ r1) ⟨?_, r2⟩
     simp only [look, ev, V.bool.injEq, V.int.injEq, V.str.injEq, V.tup.injEq, V.agg.injEq, V.isl.injEq, List.cons.injEq, true_and, and_true, Nat.reduceEqDiff, Nat.reduceAdd, Nat.reduceSub, Nat.reduceMul, Nat.reducePow, Nat.reduceDiv, Nat.reduceMod, Int.reduceToNat, Nat.reduceLeDiff, Nat.reduceLT, Int.reduceEq, Int.reduceLT, Int.reduceLE, Int.reduceGT, Int.reduceGE, Int.reduceNeg, Int.reduceSub, Int.reduceAdd, Int.reduceMul, Int.reducePow, ne_eq, reduceCtorEq, ↓reduceIte]
    ·simp (disch := omega) only [t0, t2, go_sem]
     have hS2 := fin2 (by rw [decide_eq_false (by omega : ¬ 12 < chosen.length), decide_eq_false (by omega)]; rfl)
     subst hS2
     refine SRun.allocR ?_
     intro b14 h14
     simp (disch := omega) only [t0, t2, go_sem]
     refine W_loopC (α := Nat × V × St) (fun p => p.1 ≤ chosen.length ∧ OwnL (upd s' b14 [.bool false, p.2.1]) 1 (ints (negC (chosen.take p.1))) p.2.1 p.2.2) (fun p => [(0, .ptr rb 0), (14, .ptr b14 0), (65, .isl false 1 (ints chosen)), (66, .int .i64 chosen.length), (67, .int .i64 (p.1 : Nat))]) (fun p => p.2.2) (fun p => chosen.length - p.1) (0, _, _) ⟨by simp, OwnL.nil 1 0⟩ (by simp (disch := omega) only [subT, Int.natCast_add, Int.cast_ofNat_Int, t0, go_sem] <;> (repeat' apply And.intro) <;> first | rfl | (congr 1; omega) | assumption) rfl ?_
     rintro ⟨i, qc, s6⟩ ⟨hi, ho6⟩ ih
     dsimp only at hi ho6
     have hlen6 : (negC (chosen.take i)).length = i := by rw [negC_len, List.length_take]; omega
     have g14 := ho6.get (upd_same _ b14 _)
     simp (disch := omega) only [go_sem]
     first | refine iteW_dec (fun h7 => ?_) (fun h7 => ?_) | refine iteW_of (fun h7 => ?_) (fun h7 => ?_)
     ·have hxm := hx _ (getD_mem 0 (by omega : i < chosen.length))
      have hneg : (0 : Int) - chosen.getD i 0 = - chosen.getD i 0 := by omega
      have hnx2 := hxm.2
      simp (disch := omega) only [g14, hneg, go_sem]
      refine SRun.appL ho6 rfl (neg1_ok _) (by rw [ints_len, hlen6]; simp only [List.length_singleton]; omega) ?_
      intro q7 s7 ho7
      have hap : ints (negC (chosen.take i)) ++ [V.int .i64 (-chosen.getD i 0)] = ints (negC (chosen.take (i + 1))) := by
       rw [take_succ 0 (by omega)]; simp [ints, negC]
      rw [hap] at ho7
      have g15 := ho7.get (upd_same _ b14 _)
      have ho8 := ho7.upd (c' := [.bool false, q7]) (upd_same _ b14 _)
      rw [upd_upd] at ho8
      simp (disch := omega) only [g15, ho7.one, ho7.cells, go_sem]
      refine ih (i + 1, q7, _) _ _ ⟨by simp only; omega, ho8⟩ (by simp only; omega) (by simp (disch := omega) only [subT, Int.natCast_add, Int.cast_ofNat_Int, go_sem] <;> (repeat' apply And.intro) <;> first | rfl | (congr 1; omega) | assumption) rfl
     ·obtain rfl : i = chosen.length := by omega
      rw [List.take_length] at ho6
      have hin := ownL_frzIn (cs' := [.bool false, .isl false 1 (ints (negC chosen))]) ho6 (by simp [V.one]) (fun hf => by exact ⟨.refl _, hf, trivial⟩)
      simp (disch := omega) only [go_sem]
      rw [W_draw]
      refine SRun.freezeIn (T' := [(0, .ptr rb 0), (14, .ptr b14 0)]) hin (frzT_of_sub (by simp (disch := omega) only [subT, Int.natCast_add, Int.cast_ofNat_Int, go_sem] <;> (repeat' apply And.intro) <;> first | rfl | (congr 1; omega) | assumption)) ?_
      have hoe := hr2.ext (z := [.bool false, .isl false 1 (ints (negC chosen))]) h14
      have ge := hoe.get (b := rb) (c := refC vars cls q) (by
       by_cases e : rb = b14
       ·subst e; rw [h14] at g; cases g
       ·rw [upd_ne _ _ e, upd_same])
      have ge2 : upd s' b14 [.bool false, .isl false 1 (ints (negC chosen))] b14 = some _ := upd_same _ _ _
      clear hin ho6 g14
      have hoe2 : OwnL (upd (upd σs rb (refC vars cls q)) b14 [.bool false, .isl false 1 (ints (negC chosen))]) 2 (stepsV (adds st')) q (upd s' b14 [.bool false, .isl false 1 (ints (negC chosen))]) := hoe
      have e14 : rb ≠ b14 := fun e => by subst e; rw [h14] at g; cases g
      have hb8 : upd (upd σs rb (refC vars cls q)) b14 [.bool false, .isl false 1 (ints (negC chosen))] rb = some (refC vars cls q) := by rw [upd_ne _ _ e14, upd_same]
      have hb9 : upd (upd σs rb (refC vars cls q)) b14 [.bool false, .isl false 1 (ints (negC chosen))] b14 = some [.bool false, .isl false 1 (ints (negC chosen))] := upd_same _ _ _
      refine DRun.start (DRun.mixO hoe2 rfl ?_)
      intro s1 hs
      simp (disch := omega) only [hb8, hb9, refC, go_sem]
      refine DS.wrQ (WrF.appL hs rfl (show ∀ y ∈ [V.agg [.bool false, .isl false 1 (ints (negC chosen))]], y.cells.length = 2 ∧ ∀ c ∈ y.cells, c.one = true from stepsV_ok [(false, negC chosen)]) (by simp only [stepsV_len, adds_len, List.length_singleton]; omega)) rfl ?_
      rintro q8 s2 ho7 hd
      have ho8 := ownL_join (hs.of_app (show ∀ y ∈ [V.agg [.bool false, .isl false 1 (ints (negC chosen))]], y.cells.length = 2 ∧ ∀ c ∈ y.cells, c.one = true from stepsV_ok [(false, negC chosen)]) ho7) hd
      have hap : stepsV (adds st') ++ [V.agg [.bool false, .isl false 1 (ints (negC chosen))]] = stepsV (adds (st' ++ [negC chosen])) := by rw [adds_app, ← steps_app]; rfl
      rw [hap] at ho8
      have g8 := ho8.get hb8
      have ho9 := ho8.upd (c' := refC vars cls q8) hb8
      simp (disch := omega) only [g8, refC, ho8.one, ho8.cells, go_sem]
      have e9 : ∀ z, upd (upd (upd σs rb z) b14 [.bool false, .isl false 1 (ints (negC chosen))]) rb (refC vars cls q8) = upd (upd σs b14 [.bool false, .isl false 1 (ints (negC chosen))]) rb (refC vars cls q8) := by
       intro z
       funext m
       simp only [upd]
       by_cases m1 : m = rb
       ·simp [m1]
       ·simp [m1]
      rw [e9] at ho9
      have hfinal : RefO (upd σs b14 [.bool false, .isl false 1 (ints (negC chosen))]) vars cls (adds (st' ++ [negC chosen])) rb _ := ⟨q8, ho9⟩
      obtain ⟨s9, r3, r4⟩ := hfinal.less (σ0 := σ0) (fun c x hc hx => by
       by_cases e : c = b14
       ·subst e
        have := hr2.get (b := c) (c := x) (by rw [upd_ne _ _ hc]; exact hle c x hc hx)
        rw [h14] at this; cases this
       ·rw [upd_ne _ _ e]; exact hle c x hc hx)
      exact W_retC c35_ok rfl (Conv.drop _ r3) ⟨rfl, r4⟩
end
end Go.Proofs.YtlidjjjpjndneaaGreat.Lg
