/- The plain law of FnImplied: what is found by propagation and by cases is right. No program is in sight here. -/
import Derived.Test.YtlojopaebdnacaaXa
set_option linter.unusedSimpArgs false
set_option linter.unusedVariables false
namespace Go.Proofs.Ytlojopaebdnacaa.Lg
open Go

theorem litV_neg {bs : List Bool} {x : Int} (h : x ≠ 0) : litV bs (-x) = !litV bs x := by
  unfold litV
  rw [Int.natAbs_neg]
  by_cases hx : x > 0
  · rw [decide_eq_true hx, decide_eq_false (by omega)]
    cases bs.getD (x.natAbs - 1) false <;> rfl
  · rw [decide_eq_false hx, decide_eq_true (by omega)]
    cases bs.getD (x.natAbs - 1) false <;> rfl
/-- Values in which all that is known is so. -/
def agrees (vars : Int) (vals : List Int) (bs : List Bool) : Prop := ∀ x, litOK vars x → isT vals x = true → litV bs x = true
theorem litOK_neg {vars x : Int} (h : litOK vars x) : litOK vars (-x) := ⟨by have := h.1; omega, by have := h.2; omega⟩
theorem agrees_false {vars : Int} {vals : List Int} {bs : List Bool} (ha : agrees vars vals bs) {x : Int} (hx : litOK vars x) (h : isT vals (-x) = true) : litV bs x = false := by
  have := ha (-x) (litOK_neg hx) h
  rw [litV_neg hx.1] at this
  simpa using this
theorem isT_val {vals : List Int} {x : Int} (h : x ≠ 0) : isT vals x = (vals.getD x.natAbs 0 == if x < 0 then -1 else 1) := by
  unfold isT
  split
  · rw [show (-x).toNat = x.natAbs by omega]
  · rw [show x.toNat = x.natAbs by omega]
theorem isT_setT {vars : Int} {vals : List Int} {x y : Int} (hl : (vals.length : Int) = vars + 1) (hx : litOK vars x) (hy : litOK vars y) : isT (setT vals y) x = if x = y then true else if x = -y then false else isT vals x := by
  have hylt : y.natAbs < vals.length := by have := hy.2; omega
  rw [isT_val hx.1, isT_val hx.1, setT_eq]
  by_cases h : y.natAbs = x.natAbs
  · have hg : (vals.set y.natAbs (if y < 0 then -1 else 1)).getD x.natAbs 0 = if y < 0 then -1 else 1 := by
      rw [← h]; simp [List.getD, hylt]
    rw [hg]
    by_cases hxy : x = y
    · subst hxy; simp
    · have hxn : x = -y := by omega
      rw [if_neg hxy, if_pos hxn]
      have := hy.1
      by_cases hyn : y < 0
      · rw [if_pos hyn, if_neg (by omega)]; rfl
      · rw [if_neg hyn, if_pos (by omega)]; rfl
  · have hg : (vals.set y.natAbs (if y < 0 then -1 else 1)).getD x.natAbs 0 = vals.getD x.natAbs 0 := by
      simp [List.getD, List.getElem?_set_ne h]
    have n1 : ¬ x = y := fun e => h (by rw [e])
    have n2 : ¬ x = -y := fun e => h (by rw [e, Int.natAbs_neg])
    rw [if_neg n1, if_neg n2, hg]
theorem isT_zero {vars x : Int} (hx : litOK vars x) : isT (zeroVals vars) x = false := by
  rw [isT_val hx.1]
  have : (zeroVals vars).getD x.natAbs 0 = 0 := by
    unfold zeroVals
    rw [List.getD_eq_getElem?_getD, List.getElem?_replicate]
    split <;> rfl
  rw [this]
  split <;> rfl
/-! One clause -/
theorem unit_false {vals : List Int} : ∀ {c : List Int} {one : Int}, (∀ x ∈ c, x ≠ 0) → (unitGo vals c one).2 = true → one = 0 ∧ ∀ x ∈ c, isT vals (-x) = true := by
  intro c
  induction c with
  | nil => intro one _ h; simp [unitGo] at h; exact ⟨h, fun x hx => by cases hx⟩
  | cons x r ih =>
    intro one hne h
    simp only [unitGo] at h
    cases h1 : isT vals x with
    | true => rw [h1] at h; simp at h
    | false =>
      rw [h1] at h
      simp only [cond_false] at h
      cases h2 : (isT vals (-x) || x == one) with
      | true =>
        rw [h2] at h
        simp only [cond_true] at h
        obtain ⟨a, b⟩ := ih (fun y hy => hne y (by simp [hy])) h
        refine ⟨a, fun y hy => ?_⟩
        rcases List.mem_cons.1 hy with rfl | hy
        · have hx0 := hne y (by simp)
          rw [a] at h2
          simpa [hx0] using h2
        · exact b y hy
      | false =>
        rw [h2] at h
        simp only [cond_false] at h
        cases h3 : one != 0 with
        | true => rw [h3] at h; simp at h
        | false =>
          rw [h3] at h
          simp only [cond_false] at h
          have := (ih (fun y hy => hne y (by simp [hy])) h).1
          exact absurd this (hne x (by simp))
theorem unit_one {vals : List Int} : ∀ {c : List Int} {one : Int}, (∀ x ∈ c, x ≠ 0) → (unitGo vals c one).1 ≠ 0 → (one = 0 ∨ one = (unitGo vals c one).1) ∧ ∀ x ∈ c, isT vals (-x) = true ∨ x = (unitGo vals c one).1 := by
  intro c
  induction c with
  | nil => intro one _ h; exact ⟨.inr rfl, fun x hx => by cases hx⟩
  | cons x r ih =>
    intro one hne h
    have hx0 := hne x (by simp)
    have hne' : ∀ y ∈ r, y ≠ 0 := fun y hy => hne y (by simp [hy])
    simp only [unitGo] at h ⊢
    cases h1 : isT vals x with
    | true => rw [h1] at h; simp at h
    | false =>
      rw [h1] at h
      simp only [cond_false] at h ⊢
      cases h2 : (isT vals (-x) || x == one) with
      | true =>
        rw [h2] at h
        simp only [cond_true] at h ⊢
        obtain ⟨a, b⟩ := ih hne' h
        refine ⟨a, fun y hy => ?_⟩
        rcases List.mem_cons.1 hy with rfl | hy
        · rw [Bool.or_eq_true] at h2
          rcases h2 with h3 | h3
          · exact .inl h3
          · have h3 : y = one := by simpa using h3
            rcases a with a | a
            · exact absurd (h3.trans a) hx0
            · exact .inr (h3.trans a)
        · exact b y hy
      | false =>
        rw [h2] at h
        simp only [cond_false] at h ⊢
        cases h3 : one != 0 with
        | true => rw [h3] at h; simp at h
        | false =>
          rw [h3] at h
          simp only [cond_false] at h ⊢
          obtain ⟨a, b⟩ := ih hne' h
          refine ⟨.inl (by simpa using h3), fun y hy => ?_⟩
          rcases List.mem_cons.1 hy with rfl | hy
          · exact .inr (a.resolve_left hx0)
          · exact b y hy
/-- Of every variable it is known. -/
def total (vars : Int) (vals : List Int) : Prop := ∀ x, litOK vars x → isT vals x = true ∨ isT vals (-x) = true
theorem unit_total {vars : Int} {vals : List Int} (ht : total vars vals) : ∀ {c : List Int}, (∀ x ∈ c, litOK vars x) → (unitGo vals c 0).2 = false → ∃ x ∈ c, isT vals x = true := by
  intro c
  induction c with
  | nil => intro _ h; simp [unitGo] at h
  | cons x r ih =>
    intro hlit h
    have hx := hlit x (by simp)
    cases h1 : isT vals x with
    | true => exact ⟨x, by simp, h1⟩
    | false =>
      have h2 : isT vals (-x) = true := (ht x hx).resolve_left (by simp [h1])
      simp only [unitGo, h1, h2, cond_false, Bool.true_or, cond_true] at h
      obtain ⟨y, hy, hyt⟩ := ih (fun y hy => hlit y (by simp [hy])) h
      exact ⟨y, by simp [hy], hyt⟩
/-! All clauses -/
theorem scan_some {vals : List Int} : ∀ {cls : List (List Int)} {i : Nat} {next : Int} {j : Nat}, (scanGo vals cls i next).1 = some j → ∃ c ∈ cls, (unitGo vals c 0).2 = true := by
  intro cls
  induction cls with
  | nil => intro i next j h; simp [scanGo] at h
  | cons c r ih =>
    intro i next j h
    simp only [scanGo] at h
    cases h1 : (unitGo vals c 0).2 with
    | true => exact ⟨c, by simp, h1⟩
    | false =>
      rw [h1] at h
      obtain ⟨c2, hc2, h2⟩ := ih h
      exact ⟨c2, by simp [hc2], h2⟩
theorem scan_none {vals : List Int} : ∀ {cls : List (List Int)} {i : Nat} {next : Int}, (scanGo vals cls i next).1 = none → (∀ c ∈ cls, (unitGo vals c 0).2 = false) ∧ ((scanGo vals cls i next).2 = next ∨ ∃ c ∈ cls, (unitGo vals c 0).1 = (scanGo vals cls i next).2) := by
  intro cls
  induction cls with
  | nil => intro i next _; exact ⟨fun c hc => (by cases hc), .inl rfl⟩
  | cons c r ih =>
    intro i next h
    simp only [scanGo] at h ⊢
    cases h1 : (unitGo vals c 0).2 with
    | true => rw [h1] at h; simp at h
    | false =>
      rw [h1] at h
      simp only [cond_false] at h ⊢
      obtain ⟨a, b⟩ := ih h
      refine ⟨fun c2 hc2 => ?_, ?_⟩
      · rcases List.mem_cons.1 hc2 with rfl | hc2
        · exact h1
        · exact a c2 hc2
      · rcases b with b | ⟨c2, hc2, b⟩
        · cases hn : next == 0 with
          | true => rw [hn] at b; exact .inr ⟨c, by simp, b.symm⟩
          | false => rw [hn] at b; exact .inl b
        · exact .inr ⟨c2, by simp [hc2], b⟩
theorem eval_mem {cls : List (List Int)} {bs : List Bool} (h : evalB cls bs = true) {c : List Int} (hc : c ∈ cls) : ∃ x ∈ c, litV bs x = true := by
  simp only [evalB, List.all_eq_true, List.any_eq_true] at h
  exact h c hc
/-- What follows is so. -/
theorem propGo_spec {vars : Int} {cls : List (List Int)} (hc : ClsOK vars cls) : ∀ (f : Nat) (vals list : List Int), zeros vals < f → (vals.length : Int) = vars + 1 → tri vals →
    (∀ x, litOK vars x → isT vals x = true → isT (propGo cls f vals list).2.2 x = true) ∧
    (∀ bs, agrees vars vals bs → evalB cls bs = true → (propGo cls f vals list).2.1 < 0 ∧ agrees vars (propGo cls f vals list).2.2 bs) ∧
    ((propGo cls f vals list).2.1 < 0 → ∀ c ∈ cls, (unitGo (propGo cls f vals list).2.2 c 0).2 = false) := by
  intro f
  induction f with
  | zero => intro vals list h; omega
  | succ f ih =>
    intro vals list hz hl ht
    have hfr := scanGo_free (vals := vals) (cls := cls) (i := 0) (next := 0) (.inl rfl)
    have hs1 := fun j => scan_some (vals := vals) (cls := cls) (i := 0) (next := 0) (j := j)
    have hs2 := scan_none (vals := vals) (cls := cls) (i := 0) (next := 0)
    simp only [propGo]
    generalize scanGo vals cls 0 0 = q at hfr hs1 hs2
    obtain ⟨o, next⟩ := q
    cases o with
    | some i =>
      refine ⟨fun x _ h => h, fun bs ha he => ?_, fun h => by simp only at h; omega⟩
      exfalso
      obtain ⟨c, hcm, hu⟩ := hs1 i rfl
      obtain ⟨x, hx, hxt⟩ := eval_mem he hcm
      have hlit := hc.2 c hcm x hx
      have := agrees_false ha hlit ((unit_false (fun y hy => (hc.2 c hcm y hy).1) hu).2 x hx)
      rw [this] at hxt; cases hxt
    | none =>
      simp only
      obtain ⟨hall, hnx⟩ := hs2 rfl
      cases hd : next == 0 with
      | true => exact ⟨fun x _ h => h, fun bs ha he => ⟨by simp only [cond_true]; omega, ha⟩, fun _ => hall⟩
      | false =>
        simp only [cond_false]
        have hne : next ≠ 0 := by simpa using hd
        obtain ⟨hf, hin⟩ := hfr.resolve_left hne
        obtain ⟨c0, hcm0, hnm⟩ := hin.resolve_right hne
        have hlo := hc.2 c0 hcm0 next hnm
        have hzs := zeros_set hl ht hlo hf
        obtain ⟨i1, i2, i3⟩ := ih (setT vals next) (list ++ [next]) (by omega) (by rw [setT_length]; exact hl) (tri_set ht _)
        refine ⟨fun x hx h => i1 x hx ?_, fun bs ha he => i2 bs ?_ he, i3⟩
        · rw [isT_setT hl hx hlo]
          split
          · rfl
          · rename_i hxy
            split
            · rename_i hxn; subst hxn; rw [hf.2] at h; exact h
            · exact h
        · have hnt : litV bs next = true := by
            obtain ⟨c, hcm, hu⟩ := hnx.resolve_left hne
            simp only at hu
            obtain ⟨x, hx, hxt⟩ := eval_mem he hcm
            rcases (unit_one (fun y hy => (hc.2 c hcm y hy).1) (by rw [hu]; exact hne)).2 x hx with h | h
            · rw [agrees_false ha (hc.2 c hcm x hx) h] at hxt; cases hxt
            · rw [← hu, ← h]; exact hxt
          intro x hx hxt
          rw [isT_setT hl hx hlo] at hxt
          split at hxt
          · rename_i e; rw [e]; exact hnt
          · split at hxt
            · cases hxt
            · exact ha x hx hxt
theorem findZ_total {vars : Int} {vals : List Int} (hl : (vals.length : Int) = vars + 1) (ht : tri vals) (h : findZ (vals.drop 1) 0 + 1 = 0) : total vars vals := by
  intro x hx
  have hn : (vals.drop 1).findIdx? (· == 0) = none := by
    unfold findZ at h
    cases hf : (vals.drop 1).findIdx? (· == 0) with
    | none => rfl
    | some i => rw [hf] at h; simp only at h; omega
  rw [List.findIdx?_eq_none_iff] at hn
  have hlt : x.natAbs < vals.length := by have := hx.2; omega
  have h0 : x.natAbs ≠ 0 := by have := hx.1; omega
  have hg : vals[x.natAbs]? = some vals[x.natAbs] := by simp [hlt]
  have hm : vals[x.natAbs] ∈ vals.drop 1 := by
    have : (vals.drop 1)[x.natAbs - 1]? = some vals[x.natAbs] := by rw [List.getElem?_drop, show 1 + (x.natAbs - 1) = x.natAbs by omega]; exact hg
    exact List.mem_of_getElem? this
  have hne := hn _ hm
  have htr := ht _ (List.getElem_mem hlt)
  have e : vals.getD x.natAbs 0 = vals[x.natAbs] := by simp [List.getD, hlt]
  rw [isT_val hx.1, isT_val (litOK_neg hx).1, Int.natAbs_neg, e]
  have hx0 := hx.1
  rcases htr with h | h | h
  · by_cases hneg : x < 0
    · left; rw [if_pos hneg, h]; rfl
    · right; rw [if_pos (by omega), h]; rfl
  · rw [h] at hne; simp at hne
  · by_cases hneg : x < 0
    · right; rw [if_neg (by omega), h]; rfl
    · left; rw [if_neg hneg, h]; rfl
theorem litV_valsB {vars : Int} {vals : List Int} (hl : (vals.length : Int) = vars + 1) (ht : total vars vals) {x : Int} (hx : litOK vars x) : litV (valsB vals) x = isT vals x := by
  have hx0 := hx.1
  have hlt : x.natAbs < vals.length := by have := hx.2; omega
  have hb : (valsB vals).getD (x.natAbs - 1) false = (vals.getD x.natAbs 0 == 1) := by
    have : x.natAbs - 1 + 1 = x.natAbs := by omega
    simp [valsB, List.getD, this, hlt]
  unfold litV
  rw [hb, isT_val hx0]
  have h2 := ht x hx
  rw [isT_val hx0, isT_val (litOK_neg hx).1, Int.natAbs_neg] at h2
  generalize vals.getD x.natAbs 0 = v at h2 ⊢
  by_cases hneg : x < 0
  · rw [if_pos hneg] at h2 ⊢
    rw [if_neg (by omega)] at h2
    rw [decide_eq_false (by omega : ¬ x > 0)]
    rcases h2 with h2 | h2
    · have : v = -1 := by simpa using h2
      subst this; rfl
    · have : v = 1 := by simpa using h2
      subst this; rfl
  · rw [if_neg hneg] at h2 ⊢
    rw [decide_eq_true (by omega : x > 0)]
    cases v == 1 <;> rfl
/-- By cases: a model is found just when there is one. -/
theorem solveP_spec {vars : Int} {cls : List (List Int)} (hv : 0 ≤ vars) (hc : ClsOK vars cls) : ∀ (f : Nat) (vals : List Int), zeros vals < f → (vals.length : Int) = vars + 1 → tri vals →
    (solveP cls f vals = none → ∀ bs, agrees vars vals bs → evalB cls bs = false) ∧ (∀ v, solveP cls f vals = some v → agrees vars vals (valsB v) ∧ evalB cls (valsB v) = true) := by
  intro f
  induction f with
  | zero => intro vals h; omega
  | succ f ih =>
    intro vals hz hl ht
    obtain ⟨k1, k2, k3⟩ := propGo_keeps hc (zeros vals + 1) vals [] hl ht
    obtain ⟨s1, s2, s3⟩ := propGo_spec hc (zeros vals + 1) vals [] (Nat.lt_succ_self _) hl ht
    simp only [solveP]
    generalize propGo cls (zeros vals + 1) vals [] = R at k1 k2 k3 s1 s2 s3
    have hl2 : (R.2.2.length : Int) = vars + 1 := by rw [k1]; exact hl
    cases hq : decide (R.2.1 ≥ 0) with
    | true =>
      have hq' := of_decide_eq_true hq
      simp only [cond_true]
      refine ⟨fun _ bs ha => ?_, fun v h => by cases h⟩
      cases he : evalB cls bs with
      | false => rfl
      | true => have := (s2 bs ha he).1; omega
    | false =>
      have hq' := of_decide_eq_false hq
      have hneg : R.2.1 < 0 := by omega
      have hfz := findZ_get hl2
      simp only [cond_false]
      cases hd : findZ (R.2.2.drop 1) 0 + 1 == 0 with
      | true =>
        have hz0 : findZ (R.2.2.drop 1) 0 + 1 = 0 := by simpa using hd
        have htot := findZ_total hl2 k2 hz0
        simp only [cond_true]
        refine ⟨fun h => (by cases h), fun v h => ?_⟩
        obtain rfl := Option.some.inj h
        refine ⟨fun x hx hxt => by rw [litV_valsB hl2 htot hx]; exact s1 x hx hxt, ?_⟩
        simp only [evalB, List.all_eq_true, List.any_eq_true]
        intro c hcm
        obtain ⟨x, hx, hxt⟩ := unit_total htot (hc.2 c hcm) (s3 hneg c hcm)
        exact ⟨x, hx, by rw [litV_valsB hl2 htot (hc.2 c hcm x hx)]; exact hxt⟩
      | false =>
        have hne : findZ (R.2.2.drop 1) 0 + 1 ≠ 0 := by simpa using hd
        obtain ⟨hlit, hg, hf1, hf2⟩ := hfz hne
        generalize findZ (R.2.2.drop 1) 0 + 1 = z at hlit hg hf1 hf2
        simp only [cond_false]
        have hlitn := litOK_neg hlit
        have hz1 := zeros_set hl2 k2 hlitn hf2
        have hz2 := zeros_set hl2 k2 hlit hf1
        obtain ⟨a1, a2⟩ := ih (setT R.2.2 (-z)) (by omega) (by rw [setT_length]; exact hl2) (tri_set k2 _)
        obtain ⟨b1, b2⟩ := ih (setT R.2.2 z) (by omega) (by rw [setT_length]; exact hl2) (tri_set k2 _)
        -- what is set is so, or its opposite
        have step : ∀ (y : Int), litOK vars y → ∀ bs, agrees vars R.2.2 bs → litV bs y = true → agrees vars (setT R.2.2 y) bs := by
          intro y hy bs ha hyt x hx hxt
          rw [isT_setT hl2 hx hy] at hxt
          split at hxt
          · rename_i e; rw [e]; exact hyt
          · split at hxt
            · cases hxt
            · exact ha x hx hxt
        have back : ∀ (y : Int), litOK vars y → free R.2.2 y → ∀ bs, agrees vars (setT R.2.2 y) bs → agrees vars vals bs := by
          intro y hy hfy bs ha x hx hxt
          refine ha x hx ?_
          rw [isT_setT hl2 hx hy]
          have h3 := s1 x hx hxt
          split
          · rfl
          · split
            · rename_i e; subst e; rw [hfy.2] at h3; cases h3
            · exact h3
        cases hs : solveP cls f (setT R.2.2 (-z)) with
        | some r =>
          simp only
          refine ⟨fun h => (by cases h), fun v h => ?_⟩
          obtain rfl := Option.some.inj h
          obtain ⟨c1, c2⟩ := a2 r hs
          exact ⟨back _ hlitn hf2 _ c1, c2⟩
        | none =>
          simp only
          refine ⟨fun h bs ha => ?_, fun v h => ?_⟩
          · cases he : evalB cls bs with
            | false => rfl
            | true =>
              have hag := (s2 bs ha he).2
              cases hzt : litV bs z with
              | true =>
                have := b1 h bs (step z hlit bs hag hzt)
                rw [this] at he; cases he
              | false =>
                have hzn : litV bs (-z) = true := by rw [litV_neg hlit.1, hzt]; rfl
                have := a1 hs bs (step (-z) hlitn bs hag hzn)
                rw [this] at he; cases he
          · obtain ⟨c1, c2⟩ := b2 v h
            exact ⟨back _ hlit hf1 _ c1, c2⟩
theorem modelP_spec {vars : Int} {cls : List (List Int)} (hv : 0 ≤ vars) (hc : ClsOK vars cls) : (modelP vars cls = none → ∀ bs, evalB cls bs = false) ∧ (∀ v, modelP vars cls = some v → evalB cls (valsB v) = true ∧ ((valsB v).length : Int) = vars) := by
  have hz0 : zeros (zeroVals vars) < vars.toNat + 2 := by
    have : zeros (zeroVals vars) ≤ ((zeroVals vars).drop 1).length := List.count_le_length
    simp only [zeroVals, List.length_drop, List.length_replicate] at this ⊢
    omega
  have hl0 : ((zeroVals vars).length : Int) = vars + 1 := by simp only [zeroVals, List.length_replicate]; omega
  have ht0 : tri (zeroVals vars) := fun x hx => by have := List.eq_of_mem_replicate hx; omega
  obtain ⟨h1, h2⟩ := solveP_spec hv hc _ _ hz0 hl0 ht0
  refine ⟨fun h bs => h1 h bs fun x hx hxt => (by rw [isT_zero hx] at hxt; cases hxt), fun v h => ⟨(h2 v h).2, ?_⟩⟩
  have := (solveP_len hc _ _ _ hl0 ht0 h).1
  simp only [valsB, List.length_map, List.length_drop]
  omega
/-! All values are told by numbers -/
end Go.Proofs.Ytlojopaebdnacaa.Lg
