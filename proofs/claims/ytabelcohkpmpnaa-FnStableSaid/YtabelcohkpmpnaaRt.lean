/- Ways that come to a router: the program's test and the reference's. No program. -/
import Derived.Test.YtabelcohkpmpnaaRs
set_option linter.unusedSimpArgs false
set_option linter.unusedVariables false
namespace Go.Proofs.Ytabelcohkpmpnaa.Lg
open Go
def comP (rs : List Rt) (router : Int) : Nat → Int → Bool
  | 0, _ => true
  | m + 1, k => if k = router then true else if k < 0 then false else comP rs router m (rtAt rs k).via
theorem comP_succ (rs : List Rt) (router : Int) (m : Nat) (k : Int) : comP rs router (m + 1) k = if k = router then true else if k < 0 then false else comP rs router m (rtAt rs k).via := rfl
theorem end_one {rs : List Rt} (hr : ∀ i : Nat, i < rs.length → (rs.getD i default).via < rs.length) {M i : Nat} (hi : i < rs.length) (h : ends rs M i) : ends rs rs.length i := by
  have hex : ∀ m : Nat, (∃ m', m' < m ∧ ∀ i : Nat, i < rs.length → ends rs (m' + 1) i → ends rs m' i) ∨ m ≤ endN rs m := by
    intro m
    induction m with
    | zero => exact .inr (Nat.zero_le _)
    | succ m ih =>
      rcases ih with ⟨m', h1, h2⟩ | ih
      · exact .inl ⟨m', by omega, h2⟩
      · have hf := filter_more (p := fun (i : Nat) => endB rs m i) (q := fun (i : Nat) => endB rs (m + 1) i) (fun i h => endB_iff.2 (endB_iff.1 h).succ) (List.range rs.length)
        by_cases he : endN rs m = endN rs (m + 1)
        · exact .inl ⟨m, by omega, fun i hi h => endB_iff.1 (hf.2 he i (List.mem_range.2 hi) (endB_iff.2 h))⟩
        · right
          have h1 := hf.1
          unfold endN at he ih ⊢
          omega
  rcases hex (rs.length + 1) with ⟨m', h1, h2⟩ | h2
  · exact (end_stop hr h2 M i hi (h.le (by omega))).le (by omega)
  · have : endN rs (rs.length + 1) ≤ rs.length := by
      unfold endN
      have := List.length_filter_le (fun (i : Nat) => endB rs (rs.length + 1) i) (List.range rs.length)
      simpa using this
    omega
theorem com_thr {rs : List Rt} {router : Int} : ∀ {m : Nat} {k : Int}, comP rs router m k = false → thr rs router m k = false := by
  intro m
  induction m with
  | zero => intro k h; exact h
  | succ m ih =>
    intro k h
    simp only [comP] at h
    simp only [thr]
    split at h
    · cases h
    · rename_i h1
      rw [if_neg h1]
      split at h
      · rename_i h2; rw [if_pos h2]
      · rename_i h2
        rw [if_neg h2]
        split
        · rfl
        · exact ih h
theorem thr_com {rs : List Rt} {router : Int} (hr : 0 ≤ router) : ∀ {m : Nat} {k : Int}, thr rs router m k = false → comP rs router (m + 1) k = false := by
  intro m
  induction m with
  | zero => intro k h; cases h
  | succ m ih =>
    intro k h
    simp only [thr] at h
    split at h
    · cases h
    · rename_i h1
      split at h
      · rename_i h2
        rw [comP, if_neg h1, if_pos h2]
      · rename_i h2
        rw [comP, if_neg h1, if_neg h2]
        split at h
        · rename_i h3
          rw [comP, if_neg (by omega), if_pos h3]
        · exact ih h
theorem com_ends {rs : List Rt} {router : Int} : ∀ {m : Nat} {k : Int}, comP rs router m k = false → ends rs m k := by
  intro m
  induction m with
  | zero => intro k h; cases h
  | succ m ih =>
    intro k h
    simp only [comP] at h
    split at h
    · cases h
    · split at h
      · rename_i h2; exact .inl h2
      · exact .inr (ih h)
theorem com_within {rs : List Rt} {router : Int} (hr : 0 ≤ router) : ∀ {m M : Nat} {k : Int}, comP rs router M k = false → ends rs m k → comP rs router (m + 1) k = false := by
  intro m
  induction m with
  | zero =>
    intro M k h he
    have he : k < 0 := he
    rw [comP, if_neg (by omega), if_pos he]
  | succ m ih =>
    intro M k h he
    cases M with
    | zero => cases h
    | succ M =>
      simp only [comP] at h
      split at h
      · cases h
      · rename_i h1
        by_cases h2 : k < 0
        · rw [comP, if_neg h1, if_pos h2]
        · rw [if_neg h2] at h
          rw [comP, if_neg h1, if_neg h2]
          exact ih h (he.resolve_left h2)
theorem com_same {rs : List Rt} {router k : Int} (hv : ∀ v : Int, (rtAt rs v).via < rs.length) (hr : 0 ≤ router) (hk : k < rs.length) : comP rs router (rs.length + 1) k = throughP rs k router := by
  unfold throughP
  cases ht : thr rs router (rs.length + 1) k with
  | true =>
    cases hc : comP rs router (rs.length + 1) k with
    | true => rfl
    | false => rw [com_thr hc] at ht; cases ht
  | false =>
    have h1 := thr_com hr ht
    have h2 := com_ends h1
    refine com_within hr h1 ?_
    by_cases h0 : k < 0
    · cases rs.length with
      | zero => exact h0
      | succ m => exact .inl h0
    · obtain ⟨i, rfl⟩ : ∃ i : Nat, k = i := ⟨k.toNat, by omega⟩
      exact end_one (fun j hj => by have := hv j; rwa [rtAt_nat] at this) (by omega) h2
theorem net_do {n : Net} (h : netB n = true) : ∀ x ∈ n.imports, 1 ≤ x.do_ ∧ x.do_ ≤ 4 := by
  intro x hx
  simp only [netB, Bool.and_eq_true, List.all_eq_true] at h
  have := h.1.1.1.1.2 x hx
  simp only [impOn, impB, inB, Bool.and_eq_true, decide_eq_true_eq] at this
  omega
/-- The first of the best, where there is none that has no way. -/
def firstBest : List Rt → Rt
  | [] => noRt
  | x :: r => (x :: r).foldl (fun o y => if betterP y o then y else o) x
theorem better_self (a : Rt) : betterP a a = false := by unfold betterP; simp
theorem first_best {l : List Rt} (h : ∀ r ∈ l, r.via ≠ -3) : firstBest l = bestP l := by
  cases l with
  | nil => rfl
  | cons x r =>
    have h1 : ∀ (l : List Rt) (o : Rt), o.via ≠ -3 → (∀ r ∈ l, r.via ≠ -3) → l.foldl (fun o y => if betterP y o then y else o) o = l.foldl bestStep o := by
      intro l
      induction l with
      | nil => intro o _ _; rfl
      | cons y l ih =>
        intro o ho hl
        rw [List.foldl_cons, List.foldl_cons]
        have : bestStep o y = if betterP y o then y else o := by
          unfold bestStep
          by_cases hb : betterP y o = true
          · rw [if_pos (.inr hb), if_pos hb]
          · rw [if_neg (by simp [ho, hb]), if_neg hb]
        rw [this]
        refine ih _ ?_ fun r hr => hl r (by simp [hr])
        split
        · exact hl y (by simp)
        · exact ho
    show (x :: r).foldl _ x = (x :: r).foldl bestStep noRt
    rw [List.foldl_cons, List.foldl_cons, better_self]
    have : bestStep noRt x = x := by unfold bestStep; rw [if_pos (.inl rfl)]
    rw [this]
    exact h1 r x (h x (by simp)) fun y hy => h y (by simp [hy])
theorem cand_via {n : Net} {env : List Int} {down : List Bool} {rs : List Rt} {i : Int} : ∀ r ∈ candP n i env down rs, r.via ≠ -3 := by
  intro r hr
  simp only [candP, List.mem_append, List.mem_filterMap] at hr
  rcases hr with (hr | hr) | ⟨v, hv, hr⟩
  · unfold ownL at hr; split at hr <;> simp at hr; subst hr; simp
  · unfold outL at hr; split at hr <;> simp at hr; subst hr; simp
  · have h1 := near_mem hv
    have h2 := (viaO_via hr).1
    omega
end Go.Proofs.Ytabelcohkpmpnaa.Lg
