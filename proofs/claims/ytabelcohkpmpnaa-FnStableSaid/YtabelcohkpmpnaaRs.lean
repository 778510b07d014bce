/- A state in which none would choose anew is found among all choices. No program. -/
import Derived.Test.YtabelcohkpmpnaaRb
set_option linter.unusedSimpArgs false
set_option linter.unusedVariables false
namespace Go.Proofs.Ytabelcohkpmpnaa.Lg
open Go
theorem best_in : ∀ {l : List Rt} {o : Rt}, l.foldl bestStep o = o ∨ l.foldl bestStep o ∈ l := by
  intro l
  induction l with
  | nil => intro o; exact .inl rfl
  | cons a r ih =>
    intro o
    rw [List.foldl_cons]
    rcases ih (o := bestStep o a) with h | h
    · rw [h]
      unfold bestStep
      split
      · exact .inr (by simp)
      · exact .inl rfl
    · exact .inr (by simp [h])
theorem bestP_mem {l : List Rt} (h : l ≠ []) : bestP l ∈ l := by
  cases l with
  | nil => exact absurd rfl h
  | cons a r =>
    unfold bestP
    rw [List.foldl_cons, show bestStep noRt a = a by simp [bestStep, noRt]]
    rcases best_in (l := r) (o := a) with h | h
    · rw [h]; simp
    · simp [h]
/-- Whence a candidate is. -/
theorem cand_of {n : Net} {env : List Int} {down : List Bool} {rs : List Rt} {i : Int} {r : Rt} (h : r ∈ candP n i env down rs) :
    (0 ≤ hasI n.origins i ∧ r = ⟨-2, 200, 0, false⟩) ∨ (outB n i env = true ∧ r = ⟨-1, 100, 2, decide (env.getD (hasI n.externals i).toNat 0 = 2)⟩) ∨ ∃ v, v ∈ nearP n i down ∧ viaO n i rs v = some r := by
  simp only [candP, List.mem_append, List.mem_filterMap] at h
  rcases h with (h | h) | ⟨v, hv, h⟩
  · simp only [ownL] at h
    split at h
    · simp at h; exact .inl ⟨by assumption, h⟩
    · cases h
  · simp only [outL] at h
    split at h
    · simp at h; exact .inr (.inl ⟨by assumption, h⟩)
    · cases h
  · exact .inr (.inr ⟨v, hv, h⟩)
theorem impGo_via {router from_ : Int} : ∀ {xs : List Imp} {r s : Rt}, impGo router from_ xs r = some s → s.via = r.via := by
  intro xs
  induction xs with
  | nil => intro r s h; simp [impGo] at h; rw [h]
  | cons x xs ih =>
    intro r s h
    simp only [impGo] at h
    split at h
    · exact ih h
    split at h
    · cases h
    split at h
    · have := ih h; exact this
    · have := ih h; exact this
theorem viaO_via {n : Net} {i : Int} {rs : List Rt} {v : Int} {r : Rt} (h : viaO n i rs v = some r) : r.via = v ∧ (rtAt rs v).via ≠ -3 ∧ throughP rs v i = false ∧ importO n i v (rtAt rs v) = some r := by
  unfold viaO at h
  split at h
  · cases h
  rename_i hno
  simp only [not_or, Bool.not_eq_true] at hno
  exact ⟨impGo_via h, hno.1, hno.2, h⟩
theorem thr_ends {rs : List Rt} {i : Int} : ∀ {m : Nat} {k : Int}, thr rs i m k = false → ends rs m k := by
  intro m
  induction m with
  | zero => intro k h; simp [thr] at h
  | succ m ih =>
    intro k h
    unfold thr at h
    split at h
    · cases h
    split at h
    · exact .inl (by assumption)
    split at h
    · right
      cases m with
      | zero => assumption
      | succ m => exact .inl (by assumption)
    · exact .inr (ih h)
/-- A state in which none would choose anew. -/
structure Still (n : Net) (env : List Int) (down : List Bool) (rs : List Rt) : Prop where
  len : rs.length = n.routers.length
  best : ∀ i : Nat, i < rs.length → bestP (candP n i env down rs) = rs.getD i default
theorem still_of {n : Net} {env : List Int} {down : List Bool} {rs : List Rt} (hl : rs.length = n.routers.length) (h : stableB n env down rs = true) : Still n env down rs := by
  refine ⟨hl, fun i hi => ?_⟩
  have := List.all_eq_true.1 h i (List.mem_range.2 hi)
  simpa using this
theorem Still.or {n : Net} {env : List Int} {down : List Bool} {rs : List Rt} (h : Still n env down rs) {i : Nat} (hi : i < rs.length) : (rs.getD i default = noRt ∧ candP n i env down rs = []) ∨ rs.getD i default ∈ candP n i env down rs := by
  have hb := h.best i hi
  by_cases hc : candP n i env down rs = []
  · rw [hc] at hb; exact .inl ⟨hb.symm, hc⟩
  · rw [← hb]; exact .inr (bestP_mem hc)
theorem Still.via {n : Net} {env : List Int} {down : List Bool} {rs : List Rt} (h : Still n env down rs) {i : Nat} (hi : i < rs.length) (hv : 0 ≤ (rs.getD i default).via) :
    (rs.getD i default).via ∈ nearP n i down ∧ viaO n i rs (rs.getD i default).via = some (rs.getD i default) := by
  rcases h.or hi with ⟨h1, _⟩ | h1
  · rw [h1] at hv; simp [noRt] at hv
  · rcases cand_of h1 with ⟨_, e⟩ | ⟨_, e⟩ | ⟨v, hv1, e⟩
    · rw [e] at hv; simp at hv
    · rw [e] at hv; simp at hv
    · have := (viaO_via e).1
      rw [this]; exact ⟨hv1, e⟩
theorem Still.lt {n : Net} {env : List Int} {down : List Bool} {rs : List Rt} (h : Still n env down rs) {i : Nat} (hi : i < rs.length) : -3 ≤ (rs.getD i default).via ∧ (rs.getD i default).via < rs.length := by
  by_cases hv : 0 ≤ (rs.getD i default).via
  · have := near_mem (h.via hi hv).1
    have hl := h.len
    omega
  · rcases h.or hi with ⟨h1, _⟩ | h1
    · rw [h1] at hv ⊢; simp [noRt]; omega
    · rcases cand_of h1 with ⟨_, e⟩ | ⟨_, e⟩ | ⟨v, hv1, e⟩
      · rw [e]; simp; omega
      · rw [e]; simp; omega
      · have := near_mem hv1
        have := (viaO_via e).1
        omega
theorem rtAt_nat (rs : List Rt) (i : Nat) : rtAt rs (i : Int) = rs.getD i default := by simp only [rtAt, Int.toNat_natCast]
theorem Still.some_end {n : Net} {env : List Int} {down : List Bool} {rs : List Rt} (h : Still n env down rs) {i : Nat} (hi : i < rs.length) : ends rs (rs.length + 2) i := by
  right
  rw [rtAt_nat]
  by_cases hv : 0 ≤ (rs.getD i default).via
  · have := (viaO_via (h.via hi hv).2).2.2.1
    exact thr_ends this
  · exact .inl (by omega)
/-- As a test. -/
def endB (rs : List Rt) : Nat → Int → Bool
  | 0, k => decide (k < 0)
  | m + 1, k => decide (k < 0) || endB rs m (rtAt rs k).via
theorem endB_iff {rs : List Rt} : ∀ {m : Nat} {k : Int}, endB rs m k = true ↔ ends rs m k := by
  intro m
  induction m with
  | zero => intro k; simp [endB, ends]
  | succ m ih => intro k; simp [endB, ends, ih]
theorem filter_more {α : Type} {p q : α → Bool} (hpq : ∀ x, p x = true → q x = true) : ∀ (l : List α), (l.filter p).length ≤ (l.filter q).length ∧ ((l.filter p).length = (l.filter q).length → ∀ x ∈ l, q x = true → p x = true) := by
  intro l
  induction l with
  | nil => exact ⟨Nat.le_refl _, fun _ x hx => by cases hx⟩
  | cons a r ih =>
    cases hp : p a with
    | true =>
      have hq := hpq a hp
      simp only [List.filter_cons, hp, hq, ↓reduceIte, List.length_cons]
      refine ⟨by omega, fun e x hx hqx => ?_⟩
      rcases List.mem_cons.1 hx with rfl | hx
      · exact hp
      · exact ih.2 (by omega) x hx hqx
    | false =>
      cases hq : q a with
      | true =>
        simp only [List.filter_cons, hp, hq, ↓reduceIte, List.length_cons, Bool.false_eq_true]
        exact ⟨by omega, fun e => by omega⟩
      | false =>
        simp only [List.filter_cons, hp, hq, ↓reduceIte, Bool.false_eq_true]
        refine ⟨ih.1, fun e x hx hqx => ?_⟩
        rcases List.mem_cons.1 hx with rfl | hx
        · rw [hq] at hqx; cases hqx
        · exact ih.2 e x hx hqx
def endN (rs : List Rt) (m : Nat) : Nat := ((List.range rs.length).filter fun (i : Nat) => endB rs m i).length
/-- Where a step brings none more to its end, no further one does. -/
theorem end_stop {rs : List Rt} (hr : ∀ i : Nat, i < rs.length → (rs.getD i default).via < rs.length) {m : Nat} (h : ∀ i : Nat, i < rs.length → ends rs (m + 1) i → ends rs m i) : ∀ (d : Nat) (i : Nat), i < rs.length → ends rs (m + d) i → ends rs m i := by
  intro d
  induction d with
  | zero => intro i _ h; exact h
  | succ d ih =>
    intro i hi he
    have he : ends rs ((m + d) + 1) i := he
    rcases he with he | he
    · omega
    · refine h i hi (.inr ?_)
      rw [rtAt_nat] at he ⊢
      by_cases hv : 0 ≤ (rs.getD i default).via
      · obtain ⟨v, hvn⟩ : ∃ v : Nat, (rs.getD i default).via = v := ⟨(rs.getD i default).via.toNat, by omega⟩
        have := hr i hi
        rw [hvn] at he this ⊢
        exact ih v (by omega) he
      · cases m with
        | zero => exact (by omega : (rs.getD i default).via < 0)
        | succ m => exact .inl (by omega)
theorem end_within {rs : List Rt} (hr : ∀ i : Nat, i < rs.length → (rs.getD i default).via < rs.length) {M : Nat} (hM : ∀ i : Nat, i < rs.length → ends rs M i) : ∀ i : Nat, i < rs.length → ends rs rs.length i := by
  have hall : ∀ m : Nat, (∀ i : Nat, i < rs.length → ends rs m i) ∨ m ≤ endN rs m := by
    intro m
    induction m with
    | zero => exact .inr (Nat.zero_le _)
    | succ m ih =>
      rcases ih with ih | ih
      · exact .inl fun i hi => (ih i hi).succ
      · have hf := filter_more (p := fun (i : Nat) => endB rs m i) (q := fun (i : Nat) => endB rs (m + 1) i) (fun i h => endB_iff.2 (endB_iff.1 h).succ) (List.range rs.length)
        by_cases he : endN rs m = endN rs (m + 1)
        · left
          have hst := hf.2 he
          have h1 := end_stop hr (m := m) fun i hi h => endB_iff.1 (hst i (List.mem_range.2 hi) (endB_iff.2 h))
          intro i hi
          have : ends rs (m + M) i := (hM i hi).le (by omega)
          exact (h1 M i hi this).succ
        · right
          have h1 := hf.1
          unfold endN at he ih ⊢
          omega
  rcases hall (rs.length + 1) with h | h
  · -- all are at their end a step later
    intro i hi
    rcases hall rs.length with h2 | h2
    · exact h2 i hi
    · have hfull := filter_more (p := fun (i : Nat) => endB rs rs.length i) (q := fun _ => true) (fun _ _ => rfl) (List.range rs.length)
      have hq : ((List.range rs.length).filter fun _ => true).length = rs.length := by rw [List.filter_eq_self.2 (fun _ _ => rfl), List.length_range]
      have := hfull.2 (by have := hfull.1; unfold endN at h2; omega) i (List.mem_range.2 hi) rfl
      exact endB_iff.1 this
  · have : endN rs (rs.length + 1) ≤ rs.length := by
      unfold endN
      have := List.length_filter_le (fun (i : Nat) => endB rs (rs.length + 1) i) (List.range rs.length)
      simpa using this
    omega
/-- What is kept where the routes are worked out that are there already. -/
structure OfT (rs : List Rt) (s : List Rt × List Bool) : Prop where
  l1 : s.1.length = rs.length
  l2 : s.2.length = rs.length
  yes : ∀ i : Nat, s.2.getD i false = true → s.1.getD i default = rs.getD i default
  no : ∀ i : Nat, i < rs.length → s.2.getD i false = false → s.1.getD i default = noRt
  shut : ∀ i : Nat, s.2.getD i false = true → 0 ≤ (rs.getD i default).via → doneAt s.2 (rs.getD i default).via = true
theorem thr_same {rs : List Rt} {s : List Rt × List Bool} (h : OfT rs s) {i : Int} : ∀ {m : Nat} {k : Int}, (0 ≤ k → doneAt s.2 k = true) → thr s.1 i m k = thr rs i m k := by
  intro m
  induction m with
  | zero => intro k _; rfl
  | succ m ih =>
    intro k hk
    unfold thr
    by_cases h0 : k = i
    · rw [if_pos h0, if_pos h0]
    rw [if_neg h0, if_neg h0]
    by_cases h1 : k < 0
    · rw [if_pos h1, if_pos h1]
    rw [if_neg h1, if_neg h1]
    have hd := hk (by omega)
    have he : rtAt s.1 k = rtAt rs k := h.yes _ hd
    rw [he]
    by_cases h2 : (rtAt rs k).via < 0
    · rw [if_pos h2, if_pos h2]
    rw [if_neg h2, if_neg h2]
    exact ih fun hv => h.shut _ hd hv
theorem ofStep_target {n : Net} {env : List Int} {down : List Bool} {rs : List Rt} (hs : Still n env down rs) {s : List Rt × List Bool} (h : OfT rs s) {i : Nat} (hi : i < rs.length) :
    ∃ t, ofStep n env down (rs.map (·.via)) s i = some t ∧ OfT rs t ∧ (∀ j, s.2.getD j false = true → t.2.getD j false = true) ∧ (((rs.getD i default).via < 0 ∨ doneAt s.2 (rs.getD i default).via = true) → t.2.getD i false = true) := by
  have hvi : (rs.map (·.via)).getD i 0 = (rs.getD i default).via := by simp [List.getD, hi]
  unfold ofStep
  rw [hvi]
  by_cases hd : s.2.getD i false = true
  · rw [if_pos (.inl hd)]
    exact ⟨s, rfl, h, fun _ h => h, fun _ => hd⟩
  by_cases hw : 0 ≤ (rs.getD i default).via ∧ s.2.getD (rs.getD i default).via.toNat false = false
  · rw [if_pos (.inr hw)]
    refine ⟨s, rfl, h, fun _ h => h, fun he => ?_⟩
    rcases he with he | he
    · omega
    · unfold doneAt at he; rw [hw.2] at he; cases he
  rw [if_neg (by simp only [not_or]; exact ⟨hd, hw⟩)]
  have hd' : s.2.getD i false = false := by simpa using hd
  have hdv : 0 ≤ (rs.getD i default).via → doneAt s.2 (rs.getD i default).via = true := fun h0 => by
    unfold doneAt
    cases hq : s.2.getD (rs.getD i default).via.toNat false with
    | true => rfl
    | false => exact absurd ⟨h0, hq⟩ hw
  have mono : ∀ j, s.2.getD j false = true → (s.2.set i true).getD j false = true := fun j hj => by
    by_cases e : j = i
    · subst e; exact getD_set_same (by rw [h.l2]; exact hi)
    · rw [getD_set_ne e]; exact hj
  have main : OfT rs (s.1.set i (rs.getD i default), s.2.set i true) := by
    refine ⟨by simp [h.l1], by simp [h.l2], fun j hj => ?_, fun j hj hjd => ?_, fun j hj hjv => ?_⟩
    · by_cases e : j = i
      · subst e; exact getD_set_same (by rw [h.l1]; exact hi)
      · simp only at hj ⊢
        rw [getD_set_ne e] at hj ⊢
        exact h.yes j hj
    · by_cases e : j = i
      · subst e
        simp only at hjd
        rw [getD_set_same (by rw [h.l2]; exact hi)] at hjd
        cases hjd
      · simp only at hjd ⊢
        rw [getD_set_ne e] at hjd ⊢
        exact h.no j hj hjd
    · have : doneAt s.2 (rs.getD j default).via = true := by
        by_cases e : j = i
        · subst e; exact hdv hjv
        · simp only at hj
          rw [getD_set_ne e] at hj
          exact h.shut j hj hjv
      exact mono _ this
  have hset : (s.2.set i true).getD i false = true := getD_set_same (by rw [h.l2]; exact hi)
  by_cases h3 : (rs.getD i default).via = -3
  · rw [if_pos h3]
    have hr : rs.getD i default = noRt := by
      rcases hs.or hi with ⟨h1, _⟩ | h1
      · exact h1
      · rcases cand_of h1 with ⟨_, e⟩ | ⟨_, e⟩ | ⟨v, hv1, e⟩
        · rw [e] at h3; simp at h3
        · rw [e] at h3; simp at h3
        · have := near_mem hv1
          have := (viaO_via e).1
          omega
    have he : s.1.set i (rs.getD i default) = s.1 := by
      have h0 := h.no i hi hd'
      have hil : i < s.1.length := by rw [h.l1]; exact hi
      rw [List.getD_eq_getElem?_getD, List.getElem?_eq_getElem hil, Option.getD_some] at h0
      rw [hr, ← h0]; exact List.set_getElem_self hil
    rw [he] at main
    exact ⟨_, rfl, main, mono, fun _ => hset⟩
  rw [if_neg h3]
  have hmem : rs.getD i default ∈ candP n i env down rs := (hs.or hi).resolve_left fun h1 => h3 (by rw [h1.1]; rfl)
  have hthr : ∀ v, doneAt s.2 v = true → throughP s.1 v i = throughP rs v i := fun v hv => by
    unfold throughP; rw [h.l1]; exact thr_same h fun _ => hv
  have hvia : ∀ v, doneAt s.2 v = true → viaO n i s.1 v = viaO n i rs v := fun v hv => by
    have he : rtAt s.1 v = rtAt rs v := h.yes _ hv
    unfold viaO; rw [he, hthr v hv]
  have hmem2 : rs.getD i default ∈ candP n i env down s.1 := by
    rcases cand_of hmem with ⟨e1, e2⟩ | ⟨e1, e2⟩ | ⟨v, hv1, e⟩
    · rw [e2]; simp [candP, ownL, e1]
    · rw [e2]; simp [candP, outL, e1]
    · have hv := (viaO_via e).1
      have hv0 := near_mem hv1
      rw [← hvia v (by rw [← hv]; exact hdv (by omega))] at e
      simp only [candP, List.mem_append, List.mem_filterMap]
      exact .inr ⟨v, hv1, e⟩
  have huniq : ∀ x ∈ candP n i env down s.1, x.via = (rs.getD i default).via → x = rs.getD i default := by
    intro x hx hxv
    rcases cand_of hmem with ⟨_, e2⟩ | ⟨_, e2⟩ | ⟨v, hv1, e⟩
    · rcases cand_of hx with ⟨_, f⟩ | ⟨_, f⟩ | ⟨w, hw1, f⟩
      · rw [e2, f]
      · rw [e2, f] at hxv; simp at hxv
      · have := near_mem hw1
        have := (viaO_via f).1
        rw [e2] at hxv; simp at hxv; omega
    · rcases cand_of hx with ⟨_, f⟩ | ⟨_, f⟩ | ⟨w, hw1, f⟩
      · rw [e2, f] at hxv; simp at hxv
      · rw [e2, f]
      · have := near_mem hw1
        have := (viaO_via f).1
        rw [e2] at hxv; simp at hxv; omega
    · have hv := (viaO_via e).1
      have hv0 := near_mem hv1
      rcases cand_of hx with ⟨_, f⟩ | ⟨_, f⟩ | ⟨w, hw1, f⟩
      · rw [f] at hxv; have : (-2 : Int) = (rs.getD i default).via := hxv; omega
      · rw [f] at hxv; have : (-1 : Int) = (rs.getD i default).via := hxv; omega
      · have hw := (viaO_via f).1
        have hwv : w = v := by omega
        subst hwv
        rw [hvia w (by rw [← hv]; exact hdv (by omega)), e] at f
        exact (Option.some.inj f).symm
  have hne : ((candP n i env down s.1).filter fun r => decide (r.via = (rs.getD i default).via)) ≠ [] := by
    intro e
    have : rs.getD i default ∈ (candP n i env down s.1).filter fun r => decide (r.via = (rs.getD i default).via) := List.mem_filter.2 ⟨hmem2, by simp⟩
    rw [e] at this
    cases this
  cases hl : ((candP n i env down s.1).filter fun r => decide (r.via = (rs.getD i default).via)).getLast? with
  | none => rw [List.getLast?_eq_none_iff] at hl; exact absurd hl hne
  | some x =>
    have hx := List.mem_of_getLast? hl
    simp only [List.mem_filter, decide_eq_true_eq] at hx
    rw [huniq x hx.1 hx.2]
    exact ⟨_, rfl, main, mono, fun _ => hset⟩
theorem ofSteps_target {n : Net} {env : List Int} {down : List Bool} {rs : List Rt} (hs : Still n env down rs) : ∀ (l : List Nat) (s : List Rt × List Bool), (∀ i ∈ l, i < rs.length) → OfT rs s →
    ∃ t, l.foldlM (ofStep n env down (rs.map (·.via))) s = some t ∧ OfT rs t ∧ (∀ j, s.2.getD j false = true → t.2.getD j false = true) ∧ ∀ i ∈ l, ((rs.getD i default).via < 0 ∨ doneAt s.2 (rs.getD i default).via = true) → t.2.getD i false = true := by
  intro l
  induction l with
  | nil => intro s _ h; exact ⟨s, rfl, h, fun _ h => h, fun i hi => by cases hi⟩
  | cons a r ih =>
    intro s hl h
    obtain ⟨t, e1, e2, e3, e4⟩ := ofStep_target hs h (hl a (by simp))
    obtain ⟨u, f1, f2, f3, f4⟩ := ih t (fun i hi => hl i (by simp [hi])) e2
    refine ⟨u, by rw [List.foldlM_cons, e1]; exact f1, f2, fun j hj => f3 j (e3 j hj), fun i hi he => ?_⟩
    rcases List.mem_cons.1 hi with rfl | hi
    · exact f3 _ (e4 he)
    · exact f4 i hi (he.imp_right fun hd => e3 _ hd)
theorem ofRounds_target {n : Net} {env : List Int} {down : List Bool} {rs : List Rt} (hs : Still n env down rs) : ∀ (m : Nat),
    ∃ t, (List.range m).foldlM (fun s _ => ofRound n env down (rs.map (·.via)) s) (List.replicate rs.length noRt, List.replicate rs.length false) = some t ∧ OfT rs t ∧ ∀ i : Nat, i < rs.length → ends rs m i → t.2.getD i false = true := by
  intro m
  induction m with
  | zero =>
    have hf : ∀ i : Nat, (List.replicate rs.length false).getD i false = false := fun i => by
      simp only [List.getD, List.getElem?_replicate]
      split <;> rfl
    refine ⟨_, rfl, ⟨by simp, by simp, fun i hi => ?_, fun i hi _ => by simp only [List.getD, List.getElem?_replicate, hi, ↓reduceIte, Option.getD_some], fun i hi => ?_⟩, fun i hi he => ?_⟩
    · simp only at hi; rw [hf] at hi; cases hi
    · simp only at hi; rw [hf] at hi; cases hi
    · exact absurd he (by simp only [ends]; omega)
  | succ m ih =>
    obtain ⟨t, e1, e2, e3⟩ := ih
    obtain ⟨u, f1, f2, f3, f4⟩ := ofSteps_target hs (List.range rs.length) t (fun i hi => List.mem_range.1 hi) e2
    refine ⟨u, ?_, f2, fun i hi he => f4 i (List.mem_range.2 hi) ?_⟩
    · rw [List.range_succ, List.foldlM_append, e1]
      show [m].foldlM (fun s _ => ofRound n env down (rs.map (·.via)) s) t = some u
      rw [List.foldlM_cons]
      have : ofRound n env down (rs.map (·.via)) t = some u := by unfold ofRound; rw [List.length_map]; exact f1
      rw [this]; rfl
    · rcases he with he | he
      · omega
      · rw [rtAt_nat] at he
        by_cases hv : 0 ≤ (rs.getD i default).via
        · right
          obtain ⟨v, hvn⟩ : ∃ v : Nat, (rs.getD i default).via = v := ⟨(rs.getD i default).via.toNat, by omega⟩
          have := (hs.lt hi).2
          rw [hvn] at he this ⊢
          exact e3 v (by omega) he
        · left; omega
theorem Still.of {n : Net} {env : List Int} {down : List Bool} {rs : List Rt} (hs : Still n env down rs) : ofP n env down (rs.map (·.via)) = some rs := by
  obtain ⟨t, e1, e2, e3⟩ := ofRounds_target hs (rs.length + 1)
  have hend := end_within (fun i hi => (hs.lt hi).2) (M := rs.length + 2) fun i hi => hs.some_end hi
  have hdone : ∀ i : Nat, i < rs.length → t.2.getD i false = true := fun i hi => e3 i hi (hend i hi).succ
  have hall : t.2.all id = true := by
    rw [List.all_eq_true]
    intro b hb
    obtain ⟨i, hi, rfl⟩ := List.getElem_of_mem hb
    have := hdone i (by rw [← e2.l2]; exact hi)
    simpa [List.getD, hi] using this
  have heq : t.1 = rs := by
    refine List.ext_getElem e2.l1 fun i h1 h2 => ?_
    have := e2.yes i (hdone i h2)
    simpa [List.getD, h1, h2] using this
  unfold ofP
  rw [List.length_map, e1, Option.bind_some, if_pos hall, heq]
theorem choice_mem {n : Net} {env : List Int} {down : List Bool} : ∀ (m : Nat) (vs : List Int), vs.length = m → (∀ i : Nat, i < m → vs.getD i 0 ∈ optP n i env down) → vs ∈ (List.range m).foldl (growP n env down) [[]] := by
  intro m
  induction m with
  | zero => intro vs h _; have := List.eq_nil_of_length_eq_zero h; subst this; simp
  | succ m ih =>
    intro vs h ho
    have hne : vs ≠ [] := fun e => by subst e; simp at h
    have hsplit := List.dropLast_concat_getLast hne
    have hlast : vs.getLast hne = vs.getD m 0 := by
      rw [List.getLast_eq_getElem]; simp [List.getD, h]
    rw [List.range_succ, List.foldl_append]
    simp only [List.foldl_cons, List.foldl_nil, growP, List.mem_flatMap, List.mem_map]
    refine ⟨vs.dropLast, ih _ (by simp [h]) fun i hi => ?_, vs.getD m 0, ho m (by omega), by rw [← hlast]; exact hsplit⟩
    have := ho i (by omega)
    have e : vs.dropLast.getD i 0 = vs.getD i 0 := by
      rw [List.getD_eq_getElem?_getD, List.getD_eq_getElem?_getD, List.getElem?_dropLast, if_pos (by omega)]
    rw [e]; exact this
theorem Still.mem {n : Net} {env : List Int} {down : List Bool} {rs : List Rt} (hs : Still n env down rs) (hb : stableB n env down rs = true) : rs ∈ statesP n env down := by
  simp only [statesP, List.mem_filterMap]
  refine ⟨rs.map (·.via), ?_, by simp [stateO, hs.of, hb]⟩
  refine choice_mem _ _ (by rw [List.length_map, hs.len]) fun i hi => ?_
  have hi' : i < rs.length := by rw [hs.len]; exact hi
  have hvi : (rs.map (·.via)).getD i 0 = (rs.getD i default).via := by simp [List.getD, hi']
  rw [hvi]
  unfold optP
  rw [List.mem_append]
  rcases hs.or hi' with ⟨h1, h2⟩ | h1
  · left
    have ho : ownL n i = [] ∧ outL n i env = [] := by
      simp only [candP, List.append_eq_nil_iff] at h2; exact h2.1
    have hz : optL n i env = [] := by
      unfold optL
      have h3 := ho.1
      have h4 := ho.2
      unfold ownL at h3
      unfold outL at h4
      split at h3
      · cases h3
      · split at h4
        · cases h4
        · simp_all
    rw [if_pos hz, h1]; simp [noRt]
  · rcases cand_of h1 with ⟨e1, e2⟩ | ⟨e1, e2⟩ | ⟨v, hv1, e⟩
    · left
      rw [e2]
      have : (-2 : Int) ∈ optL n i env := by simp [optL, e1]
      rw [if_neg (fun e => by rw [e] at this; cases this)]; exact this
    · left
      rw [e2]
      have : (-1 : Int) ∈ optL n i env := by simp [optL, e1]
      rw [if_neg (fun e => by rw [e] at this; cases this)]; exact this
    · right
      rw [(viaO_via e).1]; exact hv1
end Go.Proofs.Ytabelcohkpmpnaa.Lg
