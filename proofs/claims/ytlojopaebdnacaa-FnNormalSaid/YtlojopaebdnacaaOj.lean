/- Literals put in order one by one: plain. -/
import Derived.Test.YtlojopaebdnacaaOa
import Derived.Test.YtlojopaebdnacaaOg
set_option linter.unusedSimpArgs false
set_option linter.unusedVariables false
namespace Go.Proofs.Ytlojopaebdnacaa.Lg
open Go
/-- Where a literal belongs. -/
def insKR (x : Int) : List Int → Nat
  | [] => 0
  | y :: ys => if rankP y < rankP x then insKR x ys + 1 else 0
def insR (ys : List Int) (x : Int) : List Int := if insKR x ys < ys.length ∧ ys.getD (insKR x ys) 0 = x then ys else ys.take (insKR x ys) ++ [x] ++ ys.drop (insKR x ys)
theorem insKR_le (x : Int) : ∀ ys : List Int, insKR x ys ≤ ys.length := by
  intro ys
  induction ys with
  | nil => exact Nat.le_refl _
  | cons y ys ih => unfold insKR; split <;> simp <;> omega
theorem insKR_before (x : Int) : ∀ {ys : List Int} {i : Nat}, i < insKR x ys → rankP (ys.getD i 0) < rankP x := by
  intro ys
  induction ys with
  | nil => intro i h; exact absurd h (Nat.not_lt_zero _)
  | cons y ys ih =>
    intro i h
    unfold insKR at h
    split at h
    · rename_i h1
      cases i with
      | zero => exact h1
      | succ i => exact ih (i := i) (by omega)
    · exact absurd h (Nat.not_lt_zero _)
theorem insKR_stop (x : Int) : ∀ {ys : List Int}, insKR x ys < ys.length → ¬ rankP (ys.getD (insKR x ys) 0) < rankP x := by
  intro ys
  induction ys with
  | nil => intro h; exact absurd h (Nat.not_lt_zero _)
  | cons y ys ih =>
    intro h
    by_cases h1 : rankP y < rankP x
    · have e : insKR x (y :: ys) = insKR x ys + 1 := by simp [insKR, h1]
      rw [e] at h ⊢
      exact ih (by simpa using h)
    · have e : insKR x (y :: ys) = 0 := by simp [insKR, h1]
      rw [e]; exact h1
theorem insR_ord {c ys : List Int} {x : Int} (h : OrdOf c ys) : OrdOf (c ++ [x]) (insR ys x) := by
  have hk := insKR_le x ys
  have hb := fun i => insKR_before x (ys := ys) (i := i)
  have hs := insKR_stop x (ys := ys)
  have hlt : ∀ p q, p < q → q < ys.length → rankP (ys.getD p 0) < rankP (ys.getD q 0) := fun p q h1 h2 => by
    have := List.pairwise_iff_getElem.1 h.1 p q (by omega) h2 h1
    simpa [List.getD, h2, show p < ys.length by omega] using this
  unfold insR
  generalize insKR x ys = k at *
  split
  · rename_i he
    refine ⟨h.1, fun z => ?_⟩
    rw [List.mem_append, h.2 z, List.mem_singleton]
    constructor
    · exact .inl
    · rintro (e | rfl)
      · exact e
      · rw [← h.2, ← he.2]; exact getD_mem 0 he.1
  · rename_i he
    have hA : ∀ y ∈ ys.take k, rankP y < rankP x := fun y hy => by
      obtain ⟨p, hp, rfl⟩ := List.getElem_of_mem hy
      rw [List.length_take] at hp
      have e : (ys.take k)[p] = ys.getD p 0 := by simp [List.getD, show p < ys.length by omega]
      rw [e]; exact hb p (by omega)
    have hB : ∀ y ∈ ys.drop k, rankP x < rankP y := fun y hy => by
      obtain ⟨p, hp, rfl⟩ := List.getElem_of_mem hy
      rw [List.length_drop] at hp
      have e : (ys.drop k)[p] = ys.getD (k + p) 0 := by simp [List.getD, show k + p < ys.length by omega]
      rw [e]
      have h1 := hs (by omega)
      have h2 : ys.getD k 0 ≠ x := fun e => he ⟨by omega, e⟩
      have h3 : rankP (ys.getD k 0) ≠ rankP x := fun e => h2 (rankP_inj e)
      rcases Nat.eq_zero_or_pos p with e0 | e0
      · subst e0; rw [Nat.add_zero]; omega
      · have := hlt k (k + p) (by omega) (by omega); omega
    have hp := h.1
    rw [strictP, ← List.take_append_drop k ys] at hp
    obtain ⟨p1, p2, p3⟩ := List.pairwise_append.1 hp
    refine ⟨?_, fun z => ?_⟩
    · refine List.pairwise_append.2 ⟨List.pairwise_append.2 ⟨p1, List.pairwise_singleton _ _, fun a ha b hb => ?_⟩, p2, fun a ha b hb => ?_⟩
      · rw [List.mem_singleton.1 hb]; exact hA a ha
      · rcases List.mem_append.1 ha with ha | ha
        · exact p3 a ha b hb
        · rw [List.mem_singleton.1 ha]; exact hB b hb
    · have hz : z ∈ ys ↔ z ∈ ys.take k ∨ z ∈ ys.drop k := by
        rw [← List.mem_append, List.take_append_drop]
      rw [List.mem_append, List.mem_append, List.mem_append, List.mem_singleton, ← h.2 z, hz]
      constructor
      · rintro ((e | e) | e)
        · exact .inl (.inl e)
        · exact .inr e
        · exact .inl (.inr e)
      · rintro ((e | e) | e)
        · exact .inl (.inl e)
        · exact .inr e
        · exact .inl (.inr e)
end Go.Proofs.Ytlojopaebdnacaa.Lg
/- The reference's order of literals. -/
set_option linter.unusedSimpArgs false
set_option linter.unusedVariables false
namespace Go.Proofs.Ytlojopaebdnacaa.Lg
open Go
attribute [local irreducible] SRun DS DRun
variable {Γ : St} {σ σ0 : St}
def litN (x : Int) : Prop := x ≠ 0 ∧ -1000000 ≤ x ∧ x ≤ 1000000
theorem l01Before_ok {x y : Int} (hx : litN x) (hy : litN y) : Ret Try.prog Γ 115 [.int .i64 x, .int .i64 y] σ (.bool (decide (rankP x < rankP y))) σ := by
  obtain ⟨x0, x1, x2⟩ := hx
  obtain ⟨y0, y1, y2⟩ := hy
  have r1 : rankP x = if x < 0 then 1 - 2 * x else 2 * x := rfl
  have r2 : rankP y = if y < 0 then 1 - 2 * y else 2 * y := rfl
  have hA := fun Γ σ => l01Abs_ok (Γ := Γ) (σ := σ) (x := x) ⟨x1, x2⟩
  have hB := fun Γ σ => l01Abs_ok (Γ := Γ) (σ := σ) (x := y) ⟨y1, y2⟩
  generalize rankP x = p at *
  generalize rankP y = q at *
  refine ret_of c115_ok rfl ?_
  simp (disch := omega) only [c115, go_sem]
  refine SRun.callR (hA _ _) ⟨[], rfl, rfl⟩ rfl ?_
  simp (disch := omega) only [go_sem]
  refine SRun.callR (hB _ _) ⟨[], rfl, rfl⟩ rfl ?_
  simp (disch := omega) only [go_sem]
  by_cases h1 : (x.natAbs : Int) = y.natAbs
  · have d1 : (decide ¬ (x.natAbs : Int) = y.natAbs) = false := decide_eq_false (fun h => h h1)
    simp (disch := omega) only [d1, go_sem]
    refine W_retR c115_ok rfl ⟨?_, rfl⟩
    have : (y < x) = (p < q) := by
      apply propext
      split at r1 <;> split at r2 <;> omega
    simp [look, this]
  · have d1 : (decide ¬ (x.natAbs : Int) = y.natAbs) = true := decide_eq_true h1
    simp (disch := omega) only [d1, go_sem]
    refine SRun.callR (hA _ _) ⟨[], rfl, rfl⟩ rfl ?_
    simp (disch := omega) only [go_sem]
    refine SRun.callR (hB _ _) ⟨[], rfl, rfl⟩ rfl ?_
    simp (disch := omega) only [go_sem]
    refine W_retR c115_ok rfl ⟨?_, rfl⟩
    have : ((x.natAbs : Int) < y.natAbs) = (p < q) := by
      apply propext
      split at r1 <;> split at r2 <;> omega
    simp only [look, this]
    rfl
end Go.Proofs.Ytlojopaebdnacaa.Lg
/- The reference's literals in order. -/
set_option linter.unusedSimpArgs false
set_option linter.unusedVariables false
namespace Go.Proofs.Ytlojopaebdnacaa.Lg
open Go
attribute [local irreducible] SRun DS DRun
variable {Γ : St} {σ σ0 : St}
theorem ints1K_ok (x : Int) : ∀ y ∈ [V.int .i64 x], y.cells.length = 1 ∧ ∀ c ∈ y.cells, c.one = true := by
  intro y hy; rw [List.mem_singleton.1 hy]; simp [V.cells, V.one]
theorem intsK_ok (xs : List Int) : ∀ y ∈ ints xs, y.cells.length = 1 ∧ ∀ c ∈ y.cells, c.one = true := by
  intro y hy; simp only [ints, List.mem_map] at hy; obtain ⟨x, _, rfl⟩ := hy; simp [V.cells, V.one]
set_option maxHeartbeats 1000000 in
theorem l01Sorted_ok {ex : Bool} {c : List Int} (hl : c.length ≤ 1000) (hx : ∀ x ∈ c, litN x) : ACalls Try.prog Γ 76 [.isl ex 1 (ints c)] σ fun r s => ∃ ys, OrdOf c ys ∧ r = .tup [intsV ys, .bool (!tautP ys)] ∧ s = σ := by
  refine acalls_W c76_ok rfl ?_
  simp (disch := omega) only [c76, go_sem]
  refine W_loopC (α := Nat × List Int × Bool) (fun p => p.1 ≤ c.length ∧ OrdOf (c.take p.1) p.2.1 ∧ p.2.1.length ≤ p.1) (fun p => [(0, .isl ex 1 (ints c)), (4, .isl p.2.2 1 (ints p.2.1)), (5, .int .i64 (p.1 : Nat))]) (fun _ => σ) (fun p => c.length - p.1) (0, [], true) ⟨by simp, by simpa using ordOf_nil, Nat.le_refl _⟩ (by simp (disch := omega) only [subT, Int.natCast_add, Int.cast_ofNat_Int, go_sem] <;> (repeat' apply And.intro) <;> first | rfl | (congr 1; omega) | assumption) rfl ?_
  rintro ⟨i, ys, e4⟩ ⟨hi, ho, hyl⟩ ih
  dsimp only at hi ho hyl
  have hyN : ∀ p, p < ys.length → litN (ys.getD p 0) := fun p hp => hx _ (List.mem_of_mem_take ((ho.2 _).1 (getD_mem 0 hp)))
  simp (disch := omega) only [go_sem]
  first | refine iteW_dec (fun h1 => ?_) (fun h1 => ?_) | refine iteW_of (fun h1 => ?_) (fun h1 => ?_)
  · have hxi := hx _ (getD_mem 0 (by omega : i < c.length))
    have hnext : OrdOf (c.take (i + 1)) (insR ys (c.getD i 0)) := by
      rw [take_succ 0 (by omega)]; exact insR_ord ho
    generalize hxx : c.getD i 0 = x at *
    have hkl := insKR_le x ys
    simp (disch := omega) only [go_sem]
    refine W_loopC (α := Nat) (fun k => k ≤ insKR x ys) (fun k => [(0, .isl ex 1 (ints c)), (4, .isl e4 1 (ints ys)), (5, .int .i64 (i : Nat)), (6, .int .i64 (k : Nat))]) (fun _ => σ) (fun k => insKR x ys - k) 0 (Nat.zero_le _) (by simp (disch := omega) only [subT, Int.natCast_add, Int.cast_ofNat_Int, go_sem] <;> (repeat' apply And.intro) <;> first | rfl | (congr 1; omega) | assumption) rfl ?_
    intro k hk ih2
    simp (disch := omega) only [go_sem]
    refine W_drawW ?_
    by_cases c1 : k < insKR x ys
    · have hb := insKR_before x c1
      have d1 : decide ((k : Int) < ys.length) = true := decide_eq_true (by omega)
      simp (disch := omega) only [d1, hxx, go_sem]
      refine DRun.callG (l01Before_ok (hyN k (by omega)) hxi) ⟨[], rfl, rfl⟩ rfl ?_
      rintro _ _ ⟨rfl, hs⟩
      obtain rfl := hs.symm
      rw [decide_eq_true hb]
      simp (disch := omega) only [go_sem]
      exact ih2 (k + 1) _ _ (by omega) (by omega) (by simp (disch := omega) only [subT, Int.natCast_add, Int.cast_ofNat_Int, go_sem] <;> (repeat' apply And.intro) <;> first | rfl | (congr 1; omega) | assumption) rfl
    · have hkk : k = insKR x ys := by omega
      clear ih2
      have hst := insKR_stop x (ys := ys)
      have hR : insR ys x = if insKR x ys < ys.length ∧ ys.getD (insKR x ys) 0 = x then ys else ys.take (insKR x ys) ++ [x] ++ ys.drop (insKR x ys) := rfl
      rw [← hkk] at hst hR hkl
      clear hkk hk c1
      by_cases c2 : k < ys.length
      case' pos =>
        have d1 : decide ((k : Int) < ys.length) = true := decide_eq_true (by omega)
        simp (disch := omega) only [d1, hxx, go_sem]
        refine DRun.callG (l01Before_ok (hyN k c2) hxi) ⟨[], rfl, rfl⟩ rfl ?_
        rintro _ _ ⟨rfl, hs⟩
        obtain rfl := hs.symm
        rw [decide_eq_false (hst c2)]
        simp (disch := omega) only [go_sem]
        refine W_drawW ?_
        by_cases c3 : ys.getD k 0 = x
        case' pos =>
          have d3 : decide (ys.getD k 0 = x) = true := decide_eq_true c3
          rw [if_pos ⟨c2, c3⟩] at hR
          rw [hR] at hnext
          simp (disch := omega) only [d1, d3, hxx, go_sem]
          refine ih (i + 1, ys, e4) _ _ ⟨by simp only; omega, hnext, by simp only; omega⟩ (by simp only; omega) (by simp (disch := omega) only [subT, Int.natCast_add, Int.cast_ofNat_Int, go_sem] <;> (repeat' apply And.intro) <;> first | rfl | (congr 1; omega) | assumption) rfl
        have d3 : decide (ys.getD k 0 = x) = false := decide_eq_false c3
        rw [if_neg (fun e => c3 e.2)] at hR
        simp (disch := omega) only [d1, d3, hxx, go_sem]
      case' neg =>
        have d1 : decide ((k : Int) < ys.length) = false := decide_eq_false (by omega)
        rw [if_neg (fun e => c2 e.1)] at hR
        simp (disch := omega) only [d1, go_sem]
        refine DRun.skipG rfl ?_
        simp (disch := omega) only [go_sem]
        refine W_drawW ?_
        simp (disch := omega) only [d1, go_sem]
      all_goals
        rw [hR] at hnext
        rw [W_draw]
        have t1 : List.take ((k : Int) - 0).toNat (ints ys) = ints (ys.take k) := by rw [show ((k : Int) - 0).toNat = k by omega]; simp [ints, List.map_take]
        have t2 : List.take ((ys.length : Int) - k).toNat (List.drop k (ints ys)) = ints (ys.drop k) := by rw [List.take_of_length_le (by rw [List.length_drop, ints_len]; omega)]; simp [ints, List.map_drop]
        refine DRun.start (DRun.mixN rfl ?_)
        simp (disch := omega) only [hxx, go_sem]
        refine DS.wrQ (WrF.appL (OwnL.nil (σ0 := emp) 1 1) (congrArg (V.isl _ 1) t1) (intsK_ok (ys.take k)) (by simp only [ints_len, List.length_nil, List.length_take]; omega)) rfl ?_
        intro q1 s1' hr1 _
        have hr1' := OwnL.of_app (OwnL.nil (σ0 := emp) 1 1) (intsK_ok (ys.take k)) hr1
        rw [List.nil_append] at hr1'
        simp (disch := omega) only [go_sem]
        refine DS.wrQ (WrF.appL hr1' rfl (ints1K_ok x) (by simp only [ints_len, List.length_take, List.length_singleton]; omega)) rfl ?_
        intro q2 s2' hr2 hdj
        have hr2' := OwnL.of_app hr1' (ints1K_ok x) hr2
        rw [ints_app] at hr2'
        have hr3 := ownL_join hr2' hdj
        simp (disch := omega) only [go_sem]
        refine DRun.appL hr3 (congrArg (V.isl _ 1) t2) (intsK_ok (ys.drop k)) (by simp only [ints_len, List.length_append, List.length_take, List.length_singleton, List.length_drop]; omega) ?_
        intro q3 s3 hr4
        have he : ints (ys.take k ++ [x]) ++ ints (ys.drop k) = ints (ys.take k ++ [x] ++ ys.drop k) := by simp [ints]
        rw [he] at hr4
        have hnl : (ys.take k ++ [x] ++ ys.drop k).length = ys.length + 1 := by simp only [List.length_append, List.length_take, List.length_singleton, List.length_drop]; omega
        generalize ys.take k ++ [x] ++ ys.drop k = zs at *
        simp (disch := omega) only [go_sem]
        refine W_freezeL (σ' := σ) (T' := [(0, .isl ex 1 (ints c)), (4, .isl false 1 (ints zs)), (5, .int .i64 ((i : Int) + 1))]) hr4.le (by exact ⟨.refl _, hr4.conv.2, .refl _, trivial⟩) ?_
        exact ih (i + 1, zs, false) _ _ ⟨by simp only; omega, hnext, by simp only; omega⟩ (by simp only; omega) (by simp (disch := omega) only [subT, Int.natCast_add, Int.cast_ofNat_Int, go_sem] <;> (repeat' apply And.intro) <;> first | rfl | (congr 1; omega) | assumption) rfl
  · have hil : i = c.length := by omega
    subst hil
    rw [List.take_length] at ho
    have h0 : ∀ x ∈ ys, x ≠ 0 := fun x hxm => (hx x ((ho.2 x).1 hxm)).1
    have hnx := taut_next ho.1 h0
    clear ih
    simp (disch := omega) only [go_sem]
    refine W_loopC (α := Nat) (fun m => 1 ≤ m ∧ (m ≤ ys.length ∨ m = 1) ∧ ∀ j, 1 ≤ j → j < m → ys.getD (j - 1) 0 ≠ - ys.getD j 0) (fun m => [(4, .isl e4 1 (ints ys)), (7, .int .i64 (m : Nat))]) (fun _ => σ) (fun m => ys.length - m) 1 ⟨Nat.le_refl _, .inr rfl, fun j h1 h2 => by omega⟩ (by simp (disch := omega) only [subT, Int.natCast_add, Int.cast_ofNat_Int, go_sem] <;> (repeat' apply And.intro) <;> first | rfl | (congr 1; omega) | assumption) rfl ?_
    rintro m ⟨hm1, hm2, hno⟩ ih
    simp (disch := omega) only [go_sem]
    first | refine iteW_dec (fun h2 => ?_) (fun h2 => ?_) | refine iteW_of (fun h2 => ?_) (fun h2 => ?_)
    · have hj1 : ((m : Int) - 1).toNat = m - 1 := by omega
      have hneg : (0 : Int) - ys.getD m 0 = - ys.getD m 0 := by omega
      have hlm := hyN m (by omega)
      obtain ⟨_, b1, b2⟩ := hlm
      simp (disch := omega) only [go_sem]
      refine W_drawW ?_
      simp (disch := omega) only [hj1, hneg, go_sem]
      first | refine iteW_dec (fun h3 => ?_) (fun h3 => ?_) | refine iteW_of (fun h3 => ?_) (fun h3 => ?_)
      · have ht : tautP ys = true := hnx.2 ⟨m, hm1, by omega, h3⟩
        simp (disch := omega) only [go_sem]
        exact W_retC c76_ok (r := .tup [.isl e4 1 (ints ys), .bool false]) (r' := .tup [intsV ys, .bool false]) (σ' := _) rfl ⟨fun _ _ h => h, frz_tup (by exact ⟨.isl _ _ _, .refl _, trivial⟩)⟩ ⟨ys, ho, by rw [ht]; rfl, rfl⟩
      · simp (disch := omega) only [go_sem]
        refine ih (m + 1) _ _ ⟨by omega, .inl (by omega), fun j g1 g2 => ?_⟩ (by omega) (by simp (disch := omega) only [subT, Int.natCast_add, Int.cast_ofNat_Int, go_sem] <;> (repeat' apply And.intro) <;> first | rfl | (congr 1; omega) | assumption) rfl
        by_cases e : j = m
        · subst e; exact h3
        · exact hno j g1 (by omega)
    · have ht : tautP ys = false := by
        rw [Bool.eq_false_iff]
        intro e
        obtain ⟨j, g1, g2, g3⟩ := hnx.1 e
        exact hno j g1 (by omega) g3
      simp (disch := omega) only [go_sem]
      exact W_retC c76_ok (r := .tup [.isl e4 1 (ints ys), .bool true]) (r' := .tup [intsV ys, .bool true]) (σ' := _) rfl ⟨fun _ _ h => h, frz_tup (by exact ⟨.isl _ _ _, .refl _, trivial⟩)⟩ ⟨ys, ho, by rw [ht]; rfl, rfl⟩
end Go.Proofs.Ytlojopaebdnacaa.Lg
