/- Circuits: gates, in the reference. -/
import Derived.Test.YtlidjjjpjndneaaEg
set_option linter.unusedSimpArgs false
set_option linter.unusedVariables false
namespace Go.Proofs.Ytlidjjjpjndneaa.Lg
open Go
attribute [local irreducible] SRun DS DRun
variable {Γ : St} {σ σ0 : St}
/-- A circuit that is made, in a block of its own. -/
def Mk (A : St) (b : Nat) (inp : Int) (gs : List (Int × Int)) (σ : St) : Prop := ∃ q, OwnL (upd A b [.int .i64 inp, q]) 2 (gsV gs) q σ
def LitOK (inp : Int) (gs : List (Int × Int)) (l : Int) : Prop := 0 ≤ l ∧ l < 2 * (1 + inp + gs.length)
theorem notP_ok {inp : Int} {gs : List (Int × Int)} {l : Int} (h : LitOK inp gs l) : LitOK inp gs (notP l) := by
  unfold LitOK notP at *
  split <;> omega
theorem notP_notP (l : Int) : notP (notP l) = l := by
  unfold notP
  split <;> split <;> omega
theorem LitOK.mono {inp : Int} {gs gs' : List (Int × Int)} {l : Int} (h : LitOK inp gs l) (hp : gs <+: gs') : LitOK inp gs' l := by
  have := hp.length_le
  unfold LitOK at *
  omega
theorem andP_ok {inp : Int} {gs : List (Int × Int)} {x y : Int} (hi : 0 ≤ inp) (hx : LitOK inp gs x) (hy : LitOK inp gs y) : LitOK inp (andP inp gs x y).2 (andP inp gs x y).1 ∧ gs <+: (andP inp gs x y).2 ∧ (andP inp gs x y).2.length ≤ gs.length + 1 := by
  unfold LitOK at *
  unfold andP
  split
  · exact ⟨⟨by simp, by simp only; omega⟩, List.prefix_refl _, by simp⟩
  split
  · exact ⟨⟨by simp only; omega, by simp only; omega⟩, List.prefix_refl _, by simp⟩
  split
  · exact ⟨⟨by simp, by simp only; omega⟩, List.prefix_refl _, by simp⟩
  split
  · rename_i i hf
    rw [List.findIdx?_eq_some_iff_getElem] at hf
    have := hf.1
    exact ⟨⟨by simp only; omega, by simp only; omega⟩, List.prefix_refl _, by simp⟩
  · exact ⟨⟨by simp only; omega, by simp only [List.length_append, List.length_singleton]; omega⟩, List.prefix_append _ _, by simp⟩
def orP (inp : Int) (gs : List (Int × Int)) (x y : Int) : Int × List (Int × Int) := (notP (andP inp gs (notP x) (notP y)).1, (andP inp gs (notP x) (notP y)).2)
theorem orP_ok {inp : Int} {gs : List (Int × Int)} {x y : Int} (hi : 0 ≤ inp) (hx : LitOK inp gs x) (hy : LitOK inp gs y) : LitOK inp (orP inp gs x y).2 (orP inp gs x y).1 ∧ gs <+: (orP inp gs x y).2 ∧ (orP inp gs x y).2.length ≤ gs.length + 1 := by
  obtain ⟨a, b, c⟩ := andP_ok hi (notP_ok hx) (notP_ok hy)
  exact ⟨notP_ok a, b, c⟩
theorem and_mk {A : St} {b : Nat} {inp : Int} {gs : List (Int × Int)} {x y : Int} (h : Mk A b inp gs σ) (hx : LitOK inp gs x) (hy : LitOK inp gs y) (hinp : 0 ≤ inp ∧ inp ≤ 1000) (hgs : gs.length ≤ 100000) :
    ACalls Try.prog Γ 201 [.ptr b 0, .int .i64 x, .int .i64 y] σ fun r σ' => r = .int .i64 (andP inp gs x y).1 ∧ Mk A b inp (andP inp gs x y).2 σ' := by
  obtain ⟨q, h⟩ := h
  unfold LitOK at hx hy
  refine (and_ok h (by omega) (by omega) hinp hgs).conv fun r σ' ⟨q', hr, ho⟩ => ⟨_, _, .refl _ _, hr, q', ho⟩
theorem or_mk {A : St} {b : Nat} {inp : Int} {gs : List (Int × Int)} {x y : Int} (h : Mk A b inp gs σ) (hx : LitOK inp gs x) (hy : LitOK inp gs y) (hinp : 0 ≤ inp ∧ inp ≤ 1000) (hgs : gs.length ≤ 100000) :
    ACalls Try.prog Γ 202 [.ptr b 0, .int .i64 x, .int .i64 y] σ fun r σ' => r = .int .i64 (orP inp gs x y).1 ∧ Mk A b inp (orP inp gs x y).2 σ' := by
  have hx' := hx
  have hy' := hy
  unfold LitOK at hx' hy'
  have e1 := xor1 (y := x) (by omega) (by omega)
  have e2 := xor1 (y := y) (by omega) (by omega)
  refine acalls_W c202_ok rfl ?_
  simp (disch := omega) only [c202, e1, e2, go_sem, ↓if_pos, ne_eq, ↓reduceIte]
  refine SRun.callQ (and_mk h (notP_ok hx) (notP_ok hy) hinp hgs) ⟨[], rfl, rfl⟩ rfl ?_
  rintro r s ⟨rfl, hm⟩
  have h3 := (andP_ok hinp.1 (notP_ok hx) (notP_ok hy))
  have h4 := h3.1
  unfold LitOK at h4
  have e3 := xor1 (y := (andP inp gs (notP x) (notP y)).1) (by omega) (by omega)
  simp (disch := omega) only [e3, go_sem, ↓if_pos, ne_eq, ↓reduceIte]
  exact W_retR c202_ok rfl ⟨rfl, hm⟩
theorem l04Not_ok {x : Int} (hx : 0 ≤ x ∧ x ≤ 1000000000) : Ret Try.prog Γ 155 [.int .i64 x] σ (.int .i64 (notP x)) σ := by
  have ht : x.tmod 2 = x % 2 := Int.tmod_eq_emod_of_nonneg hx.1
  refine ret_of c155_ok rfl ?_
  simp (disch := omega) only [c155, ht, go_sem, ↓if_pos, ne_eq, ↓reduceIte]
  first | refine iteW_dec (fun h => ?_) (fun h => ?_) | refine iteW_of (fun h => ?_) (fun h => ?_)
  · simp (disch := omega) only [go_sem, ↓if_pos, ne_eq, ↓reduceIte]
    refine W_retR c155_ok rfl ⟨?_, rfl⟩
    simp only [look, ev, V.bool.injEq, V.int.injEq, V.str.injEq, V.tup.injEq, V.agg.injEq, V.isl.injEq, List.cons.injEq, true_and, and_true, notP, h, Nat.reduceEqDiff, Nat.reduceAdd, Nat.reduceSub, Nat.reduceMul, Nat.reducePow, Nat.reduceDiv, Nat.reduceMod, Int.reduceToNat, Nat.reduceLeDiff, Nat.reduceLT, Int.reduceEq, Int.reduceLT, Int.reduceLE, Int.reduceGT, Int.reduceGE, Int.reduceNeg, Int.reduceSub, Int.reduceAdd, Int.reduceMul, Int.reducePow, ne_eq, reduceCtorEq, ↓reduceIte]
  · simp (disch := omega) only [go_sem, ↓if_pos, ne_eq, ↓reduceIte]
    refine W_retR c155_ok rfl ⟨?_, rfl⟩
    simp only [look, ev, V.bool.injEq, V.int.injEq, V.str.injEq, V.tup.injEq, V.agg.injEq, V.isl.injEq, List.cons.injEq, true_and, and_true, notP, h, Nat.reduceEqDiff, Nat.reduceAdd, Nat.reduceSub, Nat.reduceMul, Nat.reducePow, Nat.reduceDiv, Nat.reduceMod, Int.reduceToNat, Nat.reduceLeDiff, Nat.reduceLT, Int.reduceEq, Int.reduceLT, Int.reduceLE, Int.reduceGT, Int.reduceGE, Int.reduceNeg, Int.reduceSub, Int.reduceAdd, Int.reduceMul, Int.reducePow, ne_eq, reduceCtorEq, ↓reduceIte]
theorem flat_gsV_at {gs : List (Int × Int)} {i : Nat} (h : i < gs.length) : ((flat (gsV gs)).drop (i * 2)).take 2 = [.int .i64 (gs.getD i default).1, .int .i64 (gs.getD i default).2] ∧ i * 2 + 2 ≤ (flat (gsV gs)).length := by
  induction gs generalizing i with
  | nil => simp at h
  | cons g r ih =>
    have e : flat (gsV (g :: r)) = .int .i64 g.1 :: .int .i64 g.2 :: flat (gsV r) := by simp [flat, gsV, gV, V.cells]
    rw [e]
    cases i with
    | zero => simp
    | succ i =>
      have := ih (i := i) (by simpa using h)
      rw [show (i + 1) * 2 = (i * 2) + 1 + 1 by omega, List.drop_succ_cons, List.drop_succ_cons, List.getD_cons_succ]
      exact ⟨this.1, by simp only [List.length_cons]; omega⟩
set_option maxHeartbeats 1000000 in
theorem ands_mk {A : St} {b : Nat} {inp : Int} {gs : List (Int × Int)} {x y : Int} (h : Mk A b inp gs σ) (hx : LitOK inp gs x) (hy : LitOK inp gs y) (hinp : 0 ≤ inp ∧ inp ≤ 1000) (hgs : gs.length ≤ 100000) :
    ACalls Try.prog Γ 156 [.ptr b 0, .int .i64 x, .int .i64 y] σ fun r σ' => r = .int .i64 (andP inp gs x y).1 ∧ Mk A b inp (andP inp gs x y).2 σ' := by
  obtain ⟨q, h⟩ := h
  unfold LitOK at hx hy
  have gb := h.get (upd_same _ b _)
  have hq := h.one
  refine acalls_W c156_ok rfl ?_
  simp (disch := omega) only [c156, go_sem, ↓if_pos, ne_eq, ↓reduceIte]
  simp only [andP]
  first | refine iteW_dec (fun hxy => ?_) (fun hxy => ?_) | refine iteW_of (fun hxy => ?_) (fun hxy => ?_)
  case' refine_1 =>
    simp (disch := omega) only [go_sem, ↓if_pos, ne_eq, ↓reduceIte]
    have hmn : min x y = y := by omega
    have hmx : max x y = x := by omega
    rw [hmn, hmx]
    generalize y = a at *
    generalize x = c at *
  case' refine_2 =>
    simp (disch := omega) only [go_sem, ↓if_pos, ne_eq, ↓reduceIte]
    have hmn : min x y = x := by omega
    have hmx : max x y = y := by omega
    rw [hmn, hmx]
    generalize x = a at *
    generalize y = c at *
  all_goals
    have ht1 : a.tdiv 2 = a / 2 := Int.tdiv_eq_ediv_of_nonneg (by omega)
    have ht2 : c.tdiv 2 = c / 2 := Int.tdiv_eq_ediv_of_nonneg (by omega)
    by_cases h0 : a = 0
    · have h0' : decide (a = 0) = true := decide_eq_true h0
      simp (disch := omega) only [h0', if_pos h0, go_sem, ↓if_pos, ne_eq, ↓reduceIte]
      refine W_retR c156_ok rfl ⟨rfl, q, h⟩
    have h0' : decide (a = 0) = false := decide_eq_false h0
    by_cases h2 : a = 1
    · have h2' : decide (a = 1) = true := decide_eq_true h2
      simp (disch := omega) only [h0', h2', if_neg h0, if_pos (Or.inl h2 : a = 1 ∨ a = c), go_sem, ↓if_pos, ne_eq, ↓reduceIte]
      refine W_retR c156_ok rfl ⟨rfl, q, h⟩
    have h2' : decide (a = 1) = false := decide_eq_false h2
    by_cases h3 : a = c
    · first
      | (exfalso; omega)
      | (
        have h3' : decide (a = c) = true := decide_eq_true h3
        simp (disch := omega) only [h0', h2', h3', if_neg h0, if_pos (Or.inr h3 : a = 1 ∨ a = c), go_sem, ↓if_pos, ne_eq, ↓reduceIte]
        refine W_retR c156_ok rfl ⟨rfl, q, h⟩)
    have h3' : decide (a = c) = false := decide_eq_false h3
    have h4 : ¬ (a = 1 ∨ a = c) := by omega
    by_cases h5 : a / 2 = c / 2
    · have h5' : decide (a / 2 = c / 2) = true := decide_eq_true h5
      simp (disch := omega) only [h0', h2', h3', ht1, ht2, h5', if_neg h0, if_neg h4, if_pos h5, go_sem, ↓if_pos, ne_eq, ↓reduceIte]
      refine W_retR c156_ok rfl ⟨rfl, q, h⟩
    have h5' : decide (a / 2 = c / 2) = false := decide_eq_false h5
    simp (disch := omega) only [h0', h2', h3', ht1, ht2, h5', if_neg h0, if_neg h4, if_neg h5, go_sem, ↓if_pos, ne_eq, ↓reduceIte]
    refine SRun.allocR ?_
    intro b8 hb8
    have hb8b : b8 ≠ b := fun e => by subst e; rw [gb] at hb8; cases hb8
    have gb' : upd σ b8 [.int .i64 a, .int .i64 c] b = some [.int .i64 inp, q] := le_upd hb8 _ _ gb
    have h' := h.ext (z := [.int .i64 a, .int .i64 c]) hb8
    have g0b : upd (upd A b [.int .i64 inp, q]) b8 [.int .i64 a, .int .i64 c] b = some [.int .i64 inp, q] := by rw [upd_ne _ _ hb8b.symm, upd_same]
    have hgl := gsV_len gs
    simp (disch := omega) only [go_sem, ↓if_pos, ne_eq, ↓reduceIte]
    refine W_loopC (fun i : Nat => i ≤ gs.length ∧ ∀ j, j < i → (gs.getD j default == (a, c)) = false) (fun i => [(0, .ptr b 0), (1, .int .i64 a), (2, .int .i64 c), (8, .ptr b8 0), (9, .int .i64 i)]) (fun _ => upd σ b8 [.int .i64 a, .int .i64 c]) (fun i => gs.length - i) 0 ⟨by omega, fun j hj => by omega⟩ (by simp (disch := omega) only [subT, Int.natCast_add, Int.cast_ofNat_Int, go_sem, ↓if_pos, ne_eq, ↓reduceIte] <;> (repeat' apply And.intro) <;> first | rfl | (congr 1; omega) | assumption) rfl ?_
    rintro i ⟨hi, hno⟩ ih
    simp (disch := omega) only [gb', stepW_len_own h', go_sem, ↓if_pos, ne_eq, ↓reduceIte]
    first | refine iteW_dec (fun hq9 => ?_) (fun hq9 => ?_) | refine iteW_of (fun hq9 => ?_) (fun hq9 => ?_)
    · obtain ⟨bq, cap, rfl, hbq, hcap, _, _⟩ := h'.at (fun e => by have := congrArg List.length e; rw [gsV_len] at this; simp only [List.length_nil] at this; omega)
      have hfa := flat_gsV_at (by omega : i < gs.length)
      simp (disch := omega) only [gb', go_sem, ↓if_pos, ne_eq, ↓reduceIte]
      refine W_drawW ?_
      simp (disch := omega) only [gb', hbq, hfa.1, gsV_len, go_sem, ↓if_pos, ne_eq, ↓reduceIte]
      have hgg : ((gs.getD i default) == (a, c)) = decide ((gs.getD i default).1 = a ∧ (gs.getD i default).2 = c) := by
        rw [Bool.eq_iff_iff]; simp only [beq_iff_eq, decide_eq_true_eq, Prod.ext_iff]
      first | refine iteW_dec (fun h9 => ?_) (fun h9 => ?_) | refine iteW_of (fun h9 => ?_) (fun h9 => ?_)
      · simp (disch := omega) only [gb', go_sem, ↓if_pos, ne_eq, ↓reduceIte]
        have hf : gs.findIdx? (· == (a, c)) = some i := by
          rw [List.findIdx?_eq_some_iff_getElem]
          refine ⟨by omega, ?_, fun j hj => ?_⟩
          · have := hgg.trans (decide_eq_true h9)
            simpa [List.getD, (by omega : i < gs.length)] using this
          · have := hno j hj
            simpa [List.getD, (by omega : j < gs.length)] using this
        rw [hf]
        exact W_retC c156_ok (r := .int .i64 (2 * (inp + 1 + i))) (r' := .int .i64 (2 * (inp + 1 + i))) (σ' := σ) rfl (Conv.drop _ (le_upd hb8)) ⟨by rw [Int.add_comm inp 1], _, h⟩
      · simp (disch := omega) only [go_sem, ↓if_pos, ne_eq, ↓reduceIte]
        refine ih (i + 1) _ _ ⟨by omega, fun j hj => ?_⟩ (by omega) (by simp (disch := omega) only [subT, Int.natCast_add, Int.cast_ofNat_Int, go_sem, ↓if_pos, ne_eq, ↓reduceIte] <;> (repeat' apply And.intro) <;> first | rfl | (congr 1; omega) | assumption) rfl
        by_cases hji : j = i
        · subst hji; rw [hgg]; exact decide_eq_false h9
        · exact hno j (by omega)
    · simp (disch := omega) only [go_sem, ↓if_pos, ne_eq, ↓reduceIte]
      obtain rfl : i = gs.length := by omega
      have hf : gs.findIdx? (· == (a, c)) = none := by
        rw [List.findIdx?_eq_none_iff]
        intro z hz
        obtain ⟨j, hj, rfl⟩ := List.getElem_of_mem hz
        have := hno j (by omega)
        simpa [List.getD, hj] using this
      rw [hf]
      rw [W_draw]
      refine DRun.start (DRun.mixO h' rfl ?_)
      intro s hs
      simp (disch := omega) only [g0b, go_sem, ↓if_pos, ne_eq, ↓reduceIte]
      refine DS.wrQ (WrF.appL hs rfl (gsV_ok [(a, c)]) (by rw [gsV_len]; simp only [List.length_singleton]; omega)) rfl ?_
      rintro r s2 ho2 hd
      have ho3 := ownL_join (hs.of_app (gsV_ok [(a, c)]) ho2) hd
      rw [show gsV gs ++ gsV [(a, c)] = gsV (gs ++ [(a, c)]) by simp [gsV]] at ho3
      have hr1 := ho3.one
      have hr2 := ho3.cells
      have g4b := ho3.get g0b
      have ho5 := ho3.upd (c' := [.int .i64 inp, r]) g0b
      have ho5a := ho5
      rw [upd_comm _ hb8b, upd_upd] at ho5
      have hτ8 : upd A b [.int .i64 inp, r] b8 = none := by
        rw [upd_ne _ _ hb8b]
        cases hc : A b8 with
        | none => rfl
        | some x => rw [h.get (b := b8) (c := x) (by rw [upd_ne _ _ hb8b]; exact hc)] at hb8; cases hb8
      obtain ⟨σ6, hle6, ho6⟩ := ho5.drop hτ8
      simp (disch := omega) only [g4b, hr1, hr2, gsV_len, go_sem, ↓if_pos, ne_eq, ↓reduceIte]
      refine W_drawW ?_
      simp (disch := omega) only [stepK_len_own ho5a, gsV_len, List.length_append, List.length_singleton, go_sem, ↓if_pos, ne_eq, ↓reduceIte]
      refine W_retC c156_ok (r := .int .i64 (2 * (1 + inp + gs.length))) (r' := .int .i64 (2 * (1 + inp + gs.length))) (σ' := σ6) (by rw [show (2 : Int) * (1 + inp + gs.length) = 2 * (inp + ((gs.length + 1 : Nat) : Int)) by omega]; rfl) (Conv.drop _ hle6) ⟨rfl, r, ho6⟩
end Go.Proofs.Ytlidjjjpjndneaa.Lg
