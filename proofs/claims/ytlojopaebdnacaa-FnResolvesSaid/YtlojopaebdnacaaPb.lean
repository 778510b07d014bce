/- The plain law of FnModels: the model that is found is the least one, and models are as many whichever way they are counted. No program is in sight here. -/
import Derived.Test.YtlojopaebdnacaaPa
set_option linter.unusedSimpArgs false
set_option linter.unusedVariables false
namespace Go.Proofs.Ytlojopaebdnacaa.Lg
open Go

/-- A number's values, the first variable counting most. -/
def hiP (i N : Nat) : List Bool := (List.range N).map fun j => bitP (i : Nat) (N - 1 - j)
theorem hiP_rev (i N : Nat) : hiP i N = (valuesP i N).reverse := by
  apply List.ext_getElem
  · simp [hiP, valuesP]
  · intro j h1 h2
    simp [hiP, valuesP]
def numH (bs : List Bool) : Nat := numB bs.reverse
theorem numB_append (r : List Bool) (b : Bool) : numB (r ++ [b]) = numB r + 2 ^ r.length * b.toNat := by
  induction r with
  | nil => simp [numB]
  | cons a r ih => simp only [List.cons_append, numB, ih, List.length_cons, Nat.pow_succ]; cases b <;> simp <;> omega
theorem numH_cons (b : Bool) (r : List Bool) : numH (b :: r) = numH r + 2 ^ r.length * b.toNat := by
  simp only [numH, List.reverse_cons, numB_append, List.length_reverse]
theorem numH_pow (r : List Bool) : numH r < 2 ^ r.length := by have := numB_lt r.reverse; simpa [numH] using this
theorem numH_lt : ∀ (a b : List Bool), a.length = b.length → ∀ i, i < a.length → (∀ j, j < i → a.getD j false = b.getD j false) → a.getD i false = false → b.getD i false = true → numH a < numH b := by
  intro a
  induction a with
  | nil => intro b _ i hi; simp at hi
  | cons x r ih =>
    intro b hl i hi hj h0 h1
    cases b with
    | nil => simp at hl
    | cons y s =>
      have hrs : r.length = s.length := by simpa using hl
      rw [numH_cons, numH_cons]
      cases i with
      | zero =>
        simp at h0 h1; subst h0 h1
        have := numH_pow r
        simp [← hrs]; omega
      | succ i =>
        have hxy : x = y := by simpa using hj 0 (by omega)
        subst hxy
        have := ih s hrs i (by simpa using hi) (fun j hj' => by simpa using hj (j + 1) (by omega)) (by simpa using h0) (by simpa using h1)
        rw [hrs]; omega
theorem numB_values {i N : Nat} (hN : N ≤ 6) (hi : i < 2 ^ N) : numB (valuesP i N) = i := by
  have hl : (valuesP i N).length = N := by simp [valuesP]
  have hp : 2 ^ N ≤ 64 := Nat.pow_le_pow_right (n := 2) (by omega) hN
  apply Nat.eq_of_testBit_eq
  intro j
  rcases Nat.lt_or_ge j N with h | h
  · rw [numB_bit _ j (by omega)]
    simp only [valuesP, List.getD, List.getElem?_map, List.getElem?_range h, Option.map_some, Option.getD_some]
    exact bitP_eq (by omega) (by omega)
  · have h1 : numB (valuesP i N) < 2 ^ j := Nat.lt_of_lt_of_le (numB_lt _) (by rw [hl]; exact Nat.pow_le_pow_right (by omega) h)
    have h2 : i < 2 ^ j := Nat.lt_of_lt_of_le hi (Nat.pow_le_pow_right (by omega) h)
    rw [Nat.testBit_lt_two_pow h1, Nat.testBit_lt_two_pow h2]
theorem values_numB {N : Nat} (hN : N ≤ 6) {bs : List Bool} (hl : bs.length = N) : valuesP (numB bs : Nat) N = bs := by
  apply List.ext_getElem?
  intro i
  have hp : 2 ^ N ≤ 64 := Nat.pow_le_pow_right (n := 2) (by omega) hN
  have hlt := numB_lt bs
  rw [hl] at hlt
  simp only [valuesP, List.getElem?_map]
  rcases Nat.lt_or_ge i N with h | h
  · rw [List.getElem?_range h, Option.map_some, bitP_eq (by omega) (by omega), numB_bit bs i (by omega)]
    simp [List.getD, hl, h]
  · rw [List.getElem?_eq_none (by simpa using h), List.getElem?_eq_none (by omega)]; rfl
theorem numH_hi {i N : Nat} (hN : N ≤ 6) (hi : i < 2 ^ N) : numH (hiP i N) = i := by rw [hiP_rev, numH, List.reverse_reverse]; exact numB_values hN hi
theorem hi_numH {N : Nat} (hN : N ≤ 6) {bs : List Bool} (hl : bs.length = N) : hiP (numH bs) N = bs := by
  rw [hiP_rev, numH, values_numB hN (by simpa using hl), List.reverse_reverse]

theorem findZ_before {vals : List Int} {vars : Int} (hl : (vals.length : Int) = vars + 1) (ht : tri vals) (h : findZ (vals.drop 1) 0 + 1 ≠ 0) : ∀ x : Int, litOK vars x → (x.natAbs : Int) < findZ (vals.drop 1) 0 + 1 → isT vals x = true ∨ isT vals (-x) = true := by
  intro x hx hlt
  have hin := findZ_in (vals.drop 1) 0
  have h0 : x.natAbs ≠ 0 := by have := hx.1; omega
  have hne : vals.getD x.natAbs 0 ≠ 0 := by
    unfold findZ at hlt h
    cases hf : (vals.drop 1).findIdx? (· == 0) with
    | none => rw [hf] at h; exact absurd rfl h
    | some i =>
      rw [hf] at hlt
      simp only at hlt
      have h3 := (List.findIdx?_eq_some_iff_getElem.1 hf).2.2 (x.natAbs - 1) (by omega)
      have hlen := (List.findIdx?_eq_some_iff_getElem.1 hf).1
      simp only [List.length_drop] at hlen
      have h4 : x.natAbs < vals.length := by omega
      have e : (vals.drop 1)[x.natAbs - 1]'(by simp; omega) = vals.getD x.natAbs 0 := by
        have h5 : x.natAbs - 1 + 1 = x.natAbs := by omega
        simp [List.getD, h4, h5]
      rw [e] at h3
      simpa using h3
  have hlt2 : x.natAbs < vals.length := by have := hx.2; omega
  have htr := ht _ (List.getElem_mem hlt2)
  have e : vals.getD x.natAbs 0 = vals[x.natAbs] := by simp [List.getD, hlt2]
  rw [isT_val hx.1, isT_val (litOK_neg hx).1, Int.natAbs_neg]
  rw [← e] at htr
  generalize vals.getD x.natAbs 0 = v at htr hne
  have hx0 := hx.1
  by_cases hneg : x < 0
  · rw [if_pos hneg, if_neg (by omega)]
    rcases htr with rfl | rfl | rfl <;> first | exact absurd rfl hne | simp
  · rw [if_neg hneg, if_pos (by omega)]
    rcases htr with rfl | rfl | rfl <;> first | exact absurd rfl hne | simp
theorem litV_pos {bs : List Bool} {i : Nat} : litV bs ((i : Int) + 1) = bs.getD i false := by
  unfold litV
  rw [show ((i : Int) + 1).natAbs - 1 = i by omega, decide_eq_true (by omega : (i : Int) + 1 > 0)]
  cases bs.getD i false <;> rfl
/-- Of all models that agree with what is known, the one that is found is the least. -/
theorem solveP_least {vars : Int} {cls : List (List Int)} (hv : 0 ≤ vars) (hc : ClsOK vars cls) : ∀ (f : Nat) (vals v : List Int), zeros vals < f → (vals.length : Int) = vars + 1 → tri vals → solveP cls f vals = some v →
    ∀ bs, (bs.length : Int) = vars → agrees vars vals bs → evalB cls bs = true → numH (valsB v) ≤ numH bs := by
  intro f
  induction f with
  | zero => intro vals v h; omega
  | succ f ih =>
    intro vals v hz hl ht hsol bs hbl hag hev
    obtain ⟨k1, k2, k3⟩ := propGo_keeps hc (zeros vals + 1) vals [] hl ht
    obtain ⟨s1, s2, s3⟩ := propGo_spec hc (zeros vals + 1) vals [] (Nat.lt_succ_self _) hl ht
    simp only [solveP] at hsol
    generalize propGo cls (zeros vals + 1) vals [] = R at k1 k2 k3 s1 s2 s3 hsol
    have hl2 : (R.2.2.length : Int) = vars + 1 := by rw [k1]; exact hl
    obtain ⟨hneg, hagR⟩ := s2 bs hag hev
    have hq : decide (R.2.1 ≥ 0) = false := decide_eq_false (by omega)
    rw [hq] at hsol
    simp only [cond_false] at hsol
    cases hd : findZ (R.2.2.drop 1) 0 + 1 == 0 with
    | true =>
      rw [hd] at hsol
      simp only [cond_true, Option.some.injEq] at hsol
      subst hsol
      have hz0 : findZ (R.2.2.drop 1) 0 + 1 = 0 := by simpa using hd
      have htot := findZ_total hl2 k2 hz0
      have : valsB R.2.2 = bs := by
        have hvl : (valsB R.2.2).length = bs.length := by simp [valsB]; omega
        apply List.ext_getElem hvl
        intro i h1 h2
        have hx : litOK vars ((i : Int) + 1) := ⟨by omega, by omega, by omega⟩
        have e1 := litV_valsB hl2 htot hx
        rw [litV_pos] at e1
        have e2 : isT R.2.2 ((i : Int) + 1) = bs.getD i false := by
          rcases htot _ hx with h | h
          · rw [h]; have := hagR _ hx h; rw [litV_pos] at this; exact this.symm
          · have h3 := agrees_false hagR hx h
            rw [litV_pos] at h3
            rw [h3]
            cases hh : isT R.2.2 ((i : Int) + 1) with
            | false => rfl
            | true => have := hagR _ hx hh; rw [litV_pos, h3] at this; cases this
        rw [e2] at e1
        simpa [List.getD, h1, h2] using e1
      rw [this]; exact Nat.le_refl _
    | false =>
      have hne : findZ (R.2.2.drop 1) 0 + 1 ≠ 0 := by simpa using hd
      obtain ⟨hlit, hg, hf1, hf2⟩ := findZ_get hl2 hne
      have hbef := findZ_before hl2 k2 hne
      have hin := findZ_in (R.2.2.drop 1) 0
      rw [hd] at hsol
      simp only [cond_false] at hsol
      have hzp : 1 ≤ findZ (R.2.2.drop 1) 0 + 1 := by omega
      generalize findZ (R.2.2.drop 1) 0 + 1 = z at hlit hg hf1 hf2 hbef hsol hzp
      have hlitn := litOK_neg hlit
      have hz1 := zeros_set hl2 k2 hlitn hf2
      have hz2 := zeros_set hl2 k2 hlit hf1
      have step : ∀ (y : Int), litOK vars y → ∀ bs, agrees vars R.2.2 bs → litV bs y = true → agrees vars (setT R.2.2 y) bs := by
        intro y hy bs ha hyt x hx hxt
        rw [isT_setT hl2 hx hy] at hxt
        split at hxt
        · rename_i e; rw [e]; exact hyt
        · split at hxt
          · cases hxt
          · exact ha x hx hxt
      have back : ∀ (y : Int), litOK vars y → free R.2.2 y → ∀ bs, agrees vars (setT R.2.2 y) bs → agrees vars R.2.2 bs := by
        intro y hy hfy bs ha x hx hxt
        refine ha x hx ?_
        rw [isT_setT hl2 hx hy]
        split
        · rfl
        · split
          · rename_i e; subst e; rw [hfy.2] at hxt; cases hxt
          · exact hxt
      cases hs : solveP cls f (setT R.2.2 (-z)) with
      | some r =>
        rw [hs] at hsol
        simp only [Option.some.injEq] at hsol
        subst hsol
        cases hzt : litV bs z with
        | false =>
          exact ih _ _ (by omega) (by rw [setT_length]; exact hl2) (tri_set k2 _) hs bs hbl (step _ hlitn bs hagR (by rw [litV_neg hlit.1, hzt]; rfl)) hev
        | true =>
          obtain ⟨_, q2⟩ := solveP_spec hv hc f (setT R.2.2 (-z)) (by omega) (by rw [setT_length]; exact hl2) (tri_set k2 _)
          obtain ⟨qa, qe⟩ := q2 r hs
          have hrl := (solveP_len hc _ _ _ (by rw [setT_length]; exact hl2) (tri_set k2 _) hs).1
          rw [setT_length] at hrl
          have hvl : (valsB r).length = bs.length := by simp [valsB]; omega
          have hqaR := back _ hlitn hf2 _ qa
          have hzf : litV (valsB r) z = false := by
            have := qa (-z) hlitn (by rw [isT_setT hl2 hlitn hlitn, if_pos rfl])
            rw [litV_neg hlit.1] at this
            simpa using this
          obtain ⟨i, hi⟩ : ∃ i : Nat, z = (i : Int) + 1 := ⟨(z - 1).toNat, by omega⟩
          subst hi
          rw [litV_pos] at hzt hzf
          refine Nat.le_of_lt (numH_lt _ _ hvl i (by have := hlit.2; omega) (fun j hj => ?_) hzf hzt)
          have hx : litOK vars ((j : Int) + 1) := ⟨by omega, by have := hlit.2; omega, by have := hlit.2; omega⟩
          rw [← litV_pos, ← litV_pos]
          rcases hbef _ hx (by omega) with h | h
          · rw [hqaR _ hx h, hagR _ hx h]
          · rw [agrees_false hqaR hx h, agrees_false hagR hx h]
      | none =>
        rw [hs] at hsol
        simp only at hsol
        obtain ⟨q1, _⟩ := solveP_spec hv hc f (setT R.2.2 (-z)) (by omega) (by rw [setT_length]; exact hl2) (tri_set k2 _)
        cases hzt : litV bs z with
        | false =>
          have := q1 hs bs (step _ hlitn bs hagR (by rw [litV_neg hlit.1, hzt]; rfl))
          rw [this] at hev; cases hev
        | true => exact ih _ _ (by omega) (by rw [setT_length]; exact hl2) (tri_set k2 _) hsol bs hbl (step _ hlit bs hagR hzt) hev
theorem modelP_least {vars : Int} {cls : List (List Int)} (hv : 0 ≤ vars) (hc : ClsOK vars cls) {v : List Int} (h : modelP vars cls = some v) : ∀ bs, (bs.length : Int) = vars → evalB cls bs = true → numH (valsB v) ≤ numH bs := by
  have hz0 : zeros (zeroVals vars) < vars.toNat + 2 := by
    have : zeros (zeroVals vars) ≤ ((zeroVals vars).drop 1).length := List.count_le_length
    simp only [zeroVals, List.length_drop, List.length_replicate] at this ⊢
    omega
  have hl0 : ((zeroVals vars).length : Int) = vars + 1 := by simp only [zeroVals, List.length_replicate]; omega
  have ht0 : tri (zeroVals vars) := fun x hx => by have := List.eq_of_mem_replicate hx; omega
  exact fun bs hbl he => solveP_least hv hc _ _ _ hz0 hl0 ht0 h bs hbl (fun x hx hxt => by rw [isT_zero hx] at hxt; cases hxt) he

theorem perm_hi : ((List.range 7).all fun N => ((List.range (2 ^ N)).map fun i : Nat => numB (valuesP (i : Int) N).reverse).isPerm (List.range (2 ^ N))) = true := by kernel_rfl
/-- The models, by their numbers. -/
def modelsH (N : Nat) (cls : List (List Int)) (i : Nat) : List Nat := (List.range i).filter fun j => evalB cls (hiP j N)
def countP' (N : Nat) (cls : List (List Int)) (i : Nat) : Nat := ((List.range i).filter fun j : Nat => evalB cls (valuesP (j : Int) N)).length
theorem count_same {N : Nat} (hN : N ≤ 6) (cls : List (List Int)) : countP' N cls (2 ^ N) = (modelsH N cls (2 ^ N)).length := by
  have hp := perm_hi
  rw [List.all_eq_true] at hp
  have := List.isPerm_iff.1 (hp N (List.mem_range.2 (by omega)))
  have h2 := this.countP_eq (fun j => evalB cls (valuesP (j : Nat) N))
  rw [List.countP_map] at h2
  simp only [countP', modelsH, ← List.countP_eq_length_filter]
  rw [← h2]
  apply List.countP_congr
  intro i hi
  have hi' : i < 2 ^ N := List.mem_range.1 hi
  simp only [Function.comp_apply]
  rw [values_numB hN (by simp [valuesP]), hiP_rev]
theorem models_law {N : Nat} (h6 : N ≤ 6) {cls : List (List Int)} (hc : ClsOK N cls) :
    (modelP N cls = none → modelsH N cls (2 ^ N) = []) ∧ ∀ v, modelP N cls = some v → ∃ j r, modelsH N cls (2 ^ N) = j :: r ∧ hiP j N = valsB v := by
  obtain ⟨m1, m2⟩ := modelP_spec (by omega) hc
  refine ⟨fun h => ?_, fun v h => ?_⟩
  · have hall := m1 h
    simp only [modelsH, List.filter_eq_nil_iff]
    intro i _; rw [hall]; simp
  · obtain ⟨e1, e2⟩ := m2 v h
    have hvl : (valsB v).length = N := by omega
    have hleast := modelP_least (by omega) hc h
    have hin : numH (valsB v) ∈ modelsH N cls (2 ^ N) := by
      simp only [modelsH, List.mem_filter, List.mem_range]
      exact ⟨by have := numH_pow (valsB v); rwa [hvl] at this, by rw [hi_numH h6 hvl]; exact e1⟩
    have hmin : ∀ i ∈ modelsH N cls (2 ^ N), numH (valsB v) ≤ i := by
      intro i hi
      simp only [modelsH, List.mem_filter, List.mem_range] at hi
      have := hleast (hiP i N) (by simp [hiP]) hi.2
      rwa [numH_hi h6 hi.1] at this
    have hsort : (modelsH N cls (2 ^ N)).Pairwise (· < ·) := List.Pairwise.filter _ List.pairwise_lt_range
    cases hm : modelsH N cls (2 ^ N) with
    | nil => rw [hm] at hin; cases hin
    | cons j r =>
      refine ⟨j, r, rfl, ?_⟩
      rw [hm] at hin hmin hsort
      have h1 := hmin j (by simp)
      have h2 : j ≤ numH (valsB v) := by
        rcases List.mem_cons.1 hin with e | hin
        · omega
        · have := (List.pairwise_cons.1 hsort).1 _ hin; omega
      have : j = numH (valsB v) := by omega
      rw [this]; exact hi_numH h6 hvl
end Go.Proofs.Ytlojopaebdnacaa.Lg
