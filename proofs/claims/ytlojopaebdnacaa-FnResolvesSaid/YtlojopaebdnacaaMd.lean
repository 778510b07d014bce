/- The program's functions, one by one: the least model as values, and what is implied. -/
import Derived.Test.YtlojopaebdnacaaMc
set_option linter.unusedSimpArgs false
set_option linter.unusedVariables false
namespace Go.Proofs.Ytlojopaebdnacaa.Lg
open Go
attribute [local irreducible] SRun DS DRun
variable {Γ : St} {σ σ0 : St}
theorem solveP_len {vars : Int} {cls : List (List Int)} (hc : ClsOK vars cls) : ∀ (fu : Nat) (vals v : List Int), (vals.length : Int) = vars + 1 → tri vals → solveP cls fu vals = some v → v.length = vals.length ∧ tri v := by
  intro fu
  induction fu with
  | zero => intro vals v _ _ h; simp [solveP] at h
  | succ fu ih =>
    intro vals v hl ht h
    obtain ⟨k1, k2, k3⟩ := propGo_keeps hc (zeros vals + 1) vals [] hl ht
    simp only [solveP] at h
    generalize propGo cls (zeros vals + 1) vals [] = R at k1 k2 k3 h
    have hl2 : (R.2.2.length : Int) = vars + 1 := by rw [k1]; exact hl
    cases hq : decide (R.2.1 ≥ 0) with
    | true => rw [hq] at h; simp at h
    | false =>
      rw [hq] at h
      simp only [cond_false] at h
      cases hd : findZ (R.2.2.drop 1) 0 + 1 == 0 with
      | true => rw [hd] at h; simp only [cond_true, Option.some.injEq] at h; subst h; exact ⟨k1, k2⟩
      | false =>
        rw [hd] at h
        simp only [cond_false] at h
        split at h
        · rename_i r hr
          obtain rfl := Option.some.inj h
          obtain ⟨a1, a2⟩ := ih _ _ (by rw [setT_length]; exact hl2) (tri_set k2 _) hr
          exact ⟨a1.trans ((setT_length _ _).trans k1), a2⟩
        · obtain ⟨a1, a2⟩ := ih _ _ (by rw [setT_length]; exact hl2) (tri_set k2 _) h
          exact ⟨a1.trans ((setT_length _ _).trans k1), a2⟩
def zeroVals (vars : Int) : List Int := List.replicate (vars + 1).toNat 0
def modelP (vars : Int) (cls : List (List Int)) : Option (List Int) := solveP cls (vars.toNat + 2) (zeroVals vars)
def bools (xs : List Bool) : List V := xs.map V.bool
def boolsV (xs : List Bool) : V := .isl false 1 (bools xs)
theorem bools_one (xs : List Bool) : ∀ c ∈ bools xs, c.one = true := by
  intro c hc; simp only [bools, List.mem_map] at hc; obtain ⟨x, _, rfl⟩ := hc; rfl
/-- What is known, as values. -/
def valsB (v : List Int) : List Bool := (v.drop 1).map (· == 1)
def partB (v : List Int) (N i : Nat) : List V := (List.range N).map fun j => V.bool (decide (j < i) && v.getD (j + 1) 0 == 1)
theorem partB_set {v : List Int} {N i : Nat} {y : Int} (hi : i < N) (hy : v[i + 1]? = some y) : (partB v N i).set i (.bool (y == 1)) = partB v N (i + 1) := by
  apply List.ext_getElem?
  intro j
  simp only [partB, List.getElem?_set, List.getElem?_map, List.length_map, List.length_range]
  by_cases hj : i = j
  · subst hj
    simp [hi, List.getD, hy]
  · rw [if_neg hj]
    rcases Nat.lt_or_ge j N with h | h
    · have : decide (j < i) = decide (j < i + 1) := by
        by_cases h2 : j < i
        · rw [decide_eq_true h2, decide_eq_true (by omega)]
        · rw [decide_eq_false h2, decide_eq_false (by omega)]
      simp [h, this]
    · simp [List.getElem?_eq_none, h]
theorem partB_all {v : List Int} {N : Nat} (hl : v.length = N + 1) : partB v N N = bools (valsB v) := by
  apply List.ext_getElem?
  intro j
  simp only [partB, bools, valsB, List.getElem?_map, List.getElem?_drop]
  rcases Nat.lt_or_ge j N with h | h
  · have h2 : j + 1 < v.length := by omega
    simp [h, h2, Nat.add_comm 1 j]
  · have h2 : v.length ≤ 1 + j := by omega
    simp [List.getElem?_eq_none, h, h2]
theorem leastModel_ok {vars : Int} {cls : List (List Int)} (hv : 1 ≤ vars ∧ vars ≤ 1000000) (hc : ClsOK vars cls) :
    ACalls Try.prog Γ 49 [cnfV vars cls] σ fun r σ' => σ' = σ ∧ ((modelP vars cls = none ∧ r = .tup [.isl true 0 [], .bool false]) ∨ ∃ v, modelP vars cls = some v ∧ r = .tup [boolsV (valsB v), .bool true]) := by
  refine acalls_W c49_ok rfl ?_
  simp only [c49, cnfV, go_sem, stepW_iaddr_isl, stepW_iaddr_msl, stepW_idxs, stepK_iaddr_isl, stepK_iaddr_msl, stepK_idxs, ne_eq, ↓reduceIte]
  refine SRun.boxR (by simp [ev, look, V.cells, V.one]) ?_
  intro b1 hb1
  simp only [go_sem, stepW_iaddr_isl, stepW_iaddr_msl, stepW_idxs, stepK_iaddr_isl, stepK_iaddr_msl, stepK_idxs, ne_eq, ↓reduceIte]
  refine SRun.callQ (newState_ok (vars := vars) (cls := cls) (by omega)) ⟨[], rfl, rfl⟩ rfl ?_
  intro r s1 hr
  obtain ⟨b, bv, rfl, ho⟩ := hr.o
  simp only [go_sem, stepW_iaddr_isl, stepW_iaddr_msl, stepW_idxs, stepK_iaddr_isl, stepK_iaddr_msl, stepK_idxs, ne_eq, ↓reduceIte]
  have hz0 : zeros (zeroVals vars) < vars.toNat + 2 := by
    have : zeros (zeroVals vars) ≤ ((zeroVals vars).drop 1).length := List.count_le_length
    simp only [zeroVals, List.length_drop, List.length_replicate] at this ⊢
    omega
  have hl0 : ((zeroVals vars).length : Int) = vars + 1 := by simp only [zeroVals, List.length_replicate]; omega
  have ht0 : tri (zeroVals vars) := fun x hx => by have := List.eq_of_mem_replicate hx; omega
  refine SRun.callQ (solve_ok hv hc (vars.toNat + 2) _ _ (zeroVals vars) b bv hz0 hl0 ht0 ho) ⟨[], rfl, rfl⟩ rfl ?_
  rintro r s2 (⟨hn, rfl, rfl⟩ | ⟨v, hsome, hown⟩)
  · simp only [go_sem, stepW_iaddr_isl, stepW_iaddr_msl, stepW_idxs, stepK_iaddr_isl, stepK_iaddr_msl, stepK_idxs, ne_eq, ↓reduceIte]
    exact W_retC c49_ok rfl (Conv.drop _ (le_upd hb1)) ⟨rfl, .inl ⟨hn, rfl⟩⟩
  · obtain ⟨hlv, htv⟩ := solveP_len hc _ _ _ hl0 ht0 hsome
    obtain ⟨b3, bv3, rfl, ho3⟩ := hown.o
    have hlv2 : (v.length : Int) = vars + 1 := by rw [hlv]; exact hl0
    have hst := ho3.at hlv2
    have hb1' := ho3.le _ _ (upd_same σ b1 _)
    obtain ⟨N, hN⟩ : ∃ N : Nat, vars = N := ⟨vars.toNat, by omega⟩
    have hb1N : s2 b1 = some [.int .i64 (N : Int), .isl false 1 (clsV cls)] := by rw [← hN]; exact hb1'
    simp only [hb1N, go_sem, stepW_iaddr_isl, stepW_iaddr_msl, stepW_idxs, stepK_iaddr_isl, stepK_iaddr_msl, stepK_idxs, ne_eq, ↓reduceIte]
    refine SRun.mkslR (n' := N) (m := N) rfl rfl rfl (Nat.le_refl _) (by omega) (by omega) ?_
    intro b5 hb5
    obtain ⟨cap, hcap, hst0⟩ := hst.st'
    have hz : (List.replicate N [V.bool false]).flatten = partB v N 0 := by
      simp [partB, List.map_const']
    rw [hz]
    simp only [go_sem, stepW_iaddr_isl, stepW_iaddr_msl, stepW_idxs, stepK_iaddr_isl, stepK_iaddr_msl, stepK_idxs, ne_eq, ↓reduceIte]
    refine W_loopR (fun m T σ' => ∃ i : Nat, i + m = N ∧ look T 5 = .msl b5 1 0 N N ∧ look T 4 = .ptr b3 0 ∧ look T 16 = .int .i64 N ∧ look T 17 = .int .i64 i ∧ σ' = upd s2 b5 (partB v N i)) N ?_ ?_
    · exact ⟨0, by omega, rfl, rfl, rfl, rfl, rfl⟩
    · rintro m T σ' ih ⟨i, hm, h5, h4, h16, h17, rfl⟩
      simp only [h5, h4, h16, h17, go_sem, stepW_iaddr_isl, stepW_iaddr_msl, stepW_idxs, stepK_iaddr_isl, stepK_iaddr_msl, stepK_idxs, ne_eq, ↓reduceIte]
      refine iteW_of (fun hq => ?_) (fun hq => ?_)
      · have h' := of_decide_eq_true hq
        have hlt : i < N := by omega
        have w1 := wrap64 (a := (i : Int) + 1) (by omega) (by omega)
        have hne3 : b3 ≠ b5 := fun e => by subst e; rw [hst0] at hb5; cases hb5
        have hnev : bv3 ≠ b5 := fun e => by subst e; rw [hst.vl] at hb5; cases hb5
        have g3 : ∀ x, upd s2 b5 x b3 = some (stC vars cls bv3 v.length cap) := fun x => by rw [upd_ne _ _ hne3]; exact hst0
        have gv : ∀ x, upd s2 b5 x bv3 = some (ints v) := fun x => by rw [upd_ne _ _ hnev]; exact hst.vl
        have hlt2 : i + 1 < v.length := by omega
        have hget : (ints v)[((i : Int) + 1).toNat]? = some (.int .i64 v[i + 1]) := by rw [show ((i : Int) + 1).toNat = i + 1 by omega]; exact ints_get (by simp [hlt2])
        have c1 : (0 : Int) ≤ (i : Int) + 1 := by omega
        have c2 : (i : Int) + 1 < (v.length : Int) := by omega
        have c3 : (0 : Int) ≤ (i : Int) := by omega
        have c4 : (i : Int) < (N : Int) := by omega
        have c5 : i + 1 ≤ N := hlt
        have c6 : (partB v N i).length = N := by simp [partB]
        simp only [h5, h4, h16, h17, w1, g3, gv, stC, hget, c1, c2, c3, c4, c5, c6, Int.toNat_natCast, go_sem, stepW_iaddr_isl, stepW_iaddr_msl, stepW_idxs, stepK_iaddr_isl, stepK_iaddr_msl, stepK_idxs, ne_eq, ↓reduceIte]
        rw [partB_set hlt (List.getElem?_eq_getElem hlt2)]
        refine ih (m - 1) _ _ (by omega) ⟨i + 1, by omega, ?_, ?_, ?_, rfl, rfl⟩
        · simp only [go_sem, stepW_iaddr_isl, stepW_iaddr_msl, stepW_idxs, stepK_iaddr_isl, stepK_iaddr_msl, stepK_idxs, ne_eq, ↓reduceIte]; exact h5
        · simp only [go_sem, stepW_iaddr_isl, stepW_iaddr_msl, stepW_idxs, stepK_iaddr_isl, stepK_iaddr_msl, stepK_idxs, ne_eq, ↓reduceIte]; exact h4
        · simp only [go_sem, stepW_iaddr_isl, stepW_iaddr_msl, stepW_idxs, stepK_iaddr_isl, stepK_iaddr_msl, stepK_idxs, ne_eq, ↓reduceIte]; exact h16
      · have h' := of_decide_eq_false hq
        simp only [h5, go_sem, stepW_iaddr_isl, stepW_iaddr_msl, stepW_idxs, stepK_iaddr_isl, stepK_iaddr_msl, stepK_idxs, ne_eq, ↓reduceIte]
        have hiN : i = N := by omega
        subst hiN
        rw [partB_all (by omega)]
        have hle : ∀ c x, σ c = some x → s2 c = some x := fun c x hc => ho3.le _ _ (le_upd hb1 _ _ hc)
        have hb5' : σ b5 = none := by
          cases hs : σ b5 with
          | none => rfl
          | some x => rw [hle _ _ hs] at hb5; cases hb5
        have hvl : (bools (valsB v)).length = i := by simp [bools, valsB]; omega
        refine W_retC c49_ok (r := .tup [.msl b5 1 0 i i, .bool true]) (r' := .tup [boolsV (valsB v), .bool true]) rfl ⟨fun c x hc => le_upd hb5 _ _ (hle c x hc), .tup _ _ rfl fun j x y hy hx => ?_⟩ ⟨rfl, .inr ⟨v, hsome, rfl⟩⟩
        match j with
        | 0 => simp at hx hy; subst hx hy; exact Frz.row (upd_same _ _ _) hb5' (List.take_of_length_le (by omega)) hvl (bools_one _)
        | 1 => simp at hx hy; subst hx hy; exact .refl _
        | j + 2 => simp at hx
end Go.Proofs.Ytlojopaebdnacaa.Lg
