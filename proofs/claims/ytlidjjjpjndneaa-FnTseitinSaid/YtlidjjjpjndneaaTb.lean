/- Circuits as formulas: the reference's functions. -/
import Derived.Test.YtlidjjjpjndneaaTa
set_option linter.unusedSimpArgs false
set_option linter.unusedVariables false
namespace Go.Proofs.Ytlidjjjpjndneaa.Lg
open Go
attribute [local irreducible] SRun DS DRun
variable {Γ : St} {σ σ0 : St}
theorem gates_none {gs : List (Int × Int)} {i k : Nat} (hk : k < i) (hi : i < gs.length) (h : (gs.take i).findIdx? (· == gs.getD i default) = none) : ¬ gs.getD k default = gs.getD i default := by
  rw [List.findIdx?_eq_none_iff] at h
  have := h (gs.getD k default) (by
    have hl : k < (gs.take i).length := by rw [List.length_take]; omega
    have : (gs.take i)[k] = gs.getD k default := by simp [List.getD, show k < gs.length by omega]
    rw [← this]; exact List.getElem_mem hl)
  simpa using this
set_option maxHeartbeats 1000000 in
theorem AigOKs_ok {inp : Int} {gs : List (Int × Int)} (hinp : 0 ≤ inp ∧ inp ≤ 12) (hl : gs.length ≤ 400) (hg : GatesOK inp gs) : Ret Try.prog Γ 85 [aigV inp gs] σ (.bool true) σ := by
  have hb : (decide (0 ≤ inp) && decide (inp ≤ 12)) = true := by simp; omega
  have hgl := gsV_len gs
  have hlb : decide ((gs.length : Int) > 400) = false := decide_eq_false (by omega)
  refine ret_of c85_ok rfl ?_
  simp (disch := omega) only [c85, aigV, go_sem, ↓if_pos, ne_eq, ↓reduceIte]
  refine SRun.boxR (by simp [ev, look, V.cells, V.one]) ?_
  intro b1 hb1
  simp (disch := omega) only [go_sem, ↓if_pos, ne_eq, ↓reduceIte]
  refine SRun.callR (l01In_ok inp 0 12) ⟨[], rfl, rfl⟩ rfl ?_
  simp (disch := omega) only [List.getD_cons_zero, List.getD_cons_succ, go_sem, ↓if_pos, ne_eq, ↓reduceIte]
  simp (disch := omega) only [hb, hgl, hlb, go_sem, ↓if_pos, ne_eq, ↓reduceIte]
  refine W_loopC (α := Nat × St) (fun p => p.1 ≤ gs.length ∧ ∀ d x, upd σ b1 [.int .i64 inp, .isl false 2 (gsV gs)] d = some x → p.2 d = some x) (fun p => [(1, .ptr b1 0), (3, .int .i64 (p.1 : Nat))]) (fun p => p.2) (fun p => gs.length - p.1) (0, upd σ b1 [.int .i64 inp, .isl false 2 (gsV gs)]) ⟨by omega, fun _ _ h => h⟩ (by simp (disch := omega) only [subT, Int.natCast_add, Int.cast_ofNat_Int, go_sem, ↓if_pos, ne_eq, ↓reduceIte] <;> (repeat' apply And.intro) <;> first | rfl | (congr 1; omega) | assumption) rfl ?_
  rintro ⟨i, s⟩ ⟨hi, hs⟩ ih
  dsimp only at hi hs
  have g1 := hs b1 _ (upd_same _ _ _)
  simp (disch := omega) only [g1, hgl, go_sem, ↓if_pos, ne_eq, ↓reduceIte]
  first | refine iteW_dec (fun hq => ?_) (fun hq => ?_) | refine iteW_of (fun hq => ?_) (fun hq => ?_)
  · obtain ⟨q1, q2, q3, q4, q5⟩ := hg i (by omega)
    have hno := fun k (hk : k < i) => gates_none hk (by omega) q5
    simp (disch := omega) only [g1, gsV, go_sem, ↓if_pos, ne_eq, ↓reduceIte]
    generalize hgi : gs.getD i default = g at *
    obtain ⟨x, y⟩ := g
    dsimp only at q1 q2 q3
    simp (disch := omega) only [gV, go_sem, ↓if_pos, ne_eq, ↓reduceIte]
    refine SRun.allocR ?_
    intro b4 hb4
    have n41 : b4 ≠ b1 := fun e => by subst e; rw [g1] at hb4; cases hb4
    have g1' : upd s b4 [.int .i64 x, .int .i64 y] b1 = some _ := le_upd hb4 _ _ g1
    have l1 : decide (x < 2) = false := decide_eq_false (by omega)
    have l2 : decide (y ≤ x) = false := decide_eq_false (by omega)
    have l3 : decide (y ≥ 2 * (inp + 1 + i)) = false := decide_eq_false (by omega)
    have t1 : x.tdiv 2 = x / 2 := Int.tdiv_eq_ediv_of_nonneg (by omega)
    have t2 : y.tdiv 2 = y / 2 := Int.tdiv_eq_ediv_of_nonneg (by omega)
    have l4 : decide (x / 2 = y / 2) = false := decide_eq_false q4
    simp (disch := omega) only [g1', l1, l2, l3, l4, t1, t2, go_sem, ↓if_pos, ne_eq, ↓reduceIte]
    refine W_loopC (α := Nat) (fun k => k ≤ i) (fun k => [(1, .ptr b1 0), (3, .int .i64 (i : Nat)), (4, .ptr b4 0), (6, .int .i64 (k : Nat))]) (fun _ => upd s b4 [.int .i64 x, .int .i64 y]) (fun k => i - k) 0 (by omega) (by simp (disch := omega) only [subT, Int.natCast_add, Int.cast_ofNat_Int, go_sem, ↓if_pos, ne_eq, ↓reduceIte] <;> (repeat' apply And.intro) <;> first | rfl | (congr 1; omega) | assumption) rfl ?_
    intro k hk ih2
    simp (disch := omega) only [go_sem, ↓if_pos, ne_eq, ↓reduceIte]
    first | refine iteW_dec (fun hq2 => ?_) (fun hq2 => ?_) | refine iteW_of (fun hq2 => ?_) (fun hq2 => ?_)
    · have hne := hno k (by omega)
      simp (disch := omega) only [go_sem, ↓if_pos, ne_eq, ↓reduceIte]
      refine W_drawW ?_
      simp (disch := omega) only [g1', gsV, go_sem, ↓if_pos, ne_eq, ↓reduceIte]
      generalize hgk : gs.getD k default = g at *
      obtain ⟨u, v⟩ := g
      have l5 : decide (u = x ∧ v = y) = false := decide_eq_false (fun h => hne (by rw [h.1, h.2]))
      simp (disch := omega) only [gV, stepK_eqa2, l5, go_sem, ↓if_pos, ne_eq, ↓reduceIte]
      exact ih2 (k + 1) _ _ (by omega) (by omega) (by simp (disch := omega) only [subT, Int.natCast_add, Int.cast_ofNat_Int, go_sem, ↓if_pos, ne_eq, ↓reduceIte] <;> (repeat' apply And.intro) <;> first | rfl | (congr 1; omega) | assumption) rfl
    · simp (disch := omega) only [go_sem, ↓if_pos, ne_eq, ↓reduceIte]
      exact ih (i + 1, upd s b4 [.int .i64 x, .int .i64 y]) _ _ ⟨by simp only; omega, fun d z h => le_upd hb4 _ _ (hs _ _ h)⟩ (by simp only; omega) (by simp (disch := omega) only [subT, Int.natCast_add, Int.cast_ofNat_Int, go_sem, ↓if_pos, ne_eq, ↓reduceIte] <;> (repeat' apply And.intro) <;> first | rfl | (congr 1; omega) | assumption) rfl
  · simp (disch := omega) only [go_sem, ↓if_pos, ne_eq, ↓reduceIte]
    exact W_retC c85_ok rfl (Conv.drop _ fun d x h => hs _ _ (le_upd hb1 _ _ h)) ⟨rfl, rfl⟩
theorem l04In_ok {inp : Int} {gs : List (Int × Int)} {ex : Bool} {lits : List Int} (hinp : 0 ≤ inp ∧ inp ≤ 12) (hl : gs.length ≤ 400) (hll : lits.length ≤ 4096) (hx : ∀ x ∈ lits, LitOK inp gs x) : Ret Try.prog Γ 86 [aigV inp gs, .isl ex 1 (ints lits)] σ (.bool true) σ := by
  have hgl := gsV_len gs
  refine ret_of c86_ok rfl ?_
  simp (disch := omega) only [c86, aigV, go_sem, ↓if_pos, ne_eq, ↓reduceIte]
  refine SRun.boxR (by simp [ev, look, V.cells, V.one]) ?_
  intro b2 hb2
  have g2 := upd_same σ b2 [.int .i64 inp, .isl false 2 (gsV gs)]
  simp (disch := omega) only [go_sem, ↓if_pos, ne_eq, ↓reduceIte]
  refine W_loopC (α := Nat) (fun i => i ≤ lits.length) (fun i => [(1, .isl ex 1 (ints lits)), (2, .ptr b2 0), (5, .int .i64 (i : Nat))]) (fun _ => upd σ b2 [.int .i64 inp, .isl false 2 (gsV gs)]) (fun i => lits.length - i) 0 (by omega) (by simp (disch := omega) only [subT, Int.natCast_add, Int.cast_ofNat_Int, go_sem, ↓if_pos, ne_eq, ↓reduceIte] <;> (repeat' apply And.intro) <;> first | rfl | (congr 1; omega) | assumption) rfl ?_
  intro i hi ih
  simp (disch := omega) only [go_sem, ↓if_pos, ne_eq, ↓reduceIte]
  first | refine iteW_dec (fun hq => ?_) (fun hq => ?_) | refine iteW_of (fun hq => ?_) (fun hq => ?_)
  · have hlx := hx _ (getD_mem 0 (by omega : i < lits.length))
    unfold LitOK at hlx
    simp (disch := omega) only [go_sem, ↓if_pos, ne_eq, ↓reduceIte]
    refine W_drawW ?_
    simp (disch := omega) only [g2, hgl, go_sem, ↓if_pos, ne_eq, ↓reduceIte]
    generalize lits.getD i 0 = x at hlx ⊢
    have hbb : (decide (0 ≤ x) && decide (x ≤ 2 * (inp + gs.length) + 1)) = true := by simp; omega
    refine DRun.callQ (l01In_ok x 0 (2 * (inp + gs.length) + 1)) ⟨[], rfl, rfl⟩ ?_
    rintro r s ⟨rfl, hs⟩
    obtain rfl := hs.symm
    simp (disch := omega) only [hbb, go_sem, ↓if_pos, ne_eq, ↓reduceIte]
    exact ih (i + 1) _ _ (by omega) (by omega) (by simp (disch := omega) only [subT, Int.natCast_add, Int.cast_ofNat_Int, go_sem, ↓if_pos, ne_eq, ↓reduceIte] <;> (repeat' apply And.intro) <;> first | rfl | (congr 1; omega) | assumption) rfl
  · simp (disch := omega) only [go_sem, ↓if_pos, ne_eq, ↓reduceIte]
    exact W_retC c86_ok rfl (Conv.drop _ (le_upd hb2)) ⟨rfl, rfl⟩
theorem cnfOKb_ok {cls : List (List Int)} {vars : Int} (hs : Small cls) : Ret Try.prog Γ 88 [cnfV vars cls] σ (.bool (cnfB vars cls)) σ := by
  have hcl := hs.1
  refine ret_of c88_ok rfl ?_
  simp (disch := omega) only [c88, cnfV, go_sem, ↓if_pos, ne_eq, ↓reduceIte]
  refine SRun.boxR (by simp [ev, look, V.cells, V.one]) ?_
  intro b1 hb1
  have g1 := upd_same σ b1 [.int .i64 vars, .isl false 1 (clsV cls)]
  simp (disch := omega) only [go_sem, ↓if_pos, ne_eq, ↓reduceIte]
  refine SRun.callR (l01In_ok vars 0 40) ⟨[], rfl, rfl⟩ rfl ?_
  simp (disch := omega) only [List.getD_cons_zero, List.getD_cons_succ, go_sem, ↓if_pos, ne_eq, ↓reduceIte]
  generalize h1 : (decide (0 ≤ vars) && decide (vars ≤ 40)) = q1
  cases q1 with
  | false =>
    simp (disch := omega) only [go_sem, ↓if_pos, ne_eq, ↓reduceIte]
    exact W_retC c88_ok rfl (Conv.drop _ (le_upd hb1)) ⟨by simp only [cnfB, h1, Bool.false_and]; rfl, rfl⟩
  | true =>
    have hv : 0 ≤ vars ∧ vars ≤ 40 := by simpa using h1
    simp (disch := omega) only [g1, go_sem, ↓if_pos, ne_eq, ↓reduceIte]
    first | refine iteW_dec (fun h2 => ?_) (fun h2 => ?_) | refine iteW_of (fun h2 => ?_) (fun h2 => ?_)
    · simp (disch := omega) only [go_sem, ↓if_pos, ne_eq, ↓reduceIte]
      have : decide (cls.length ≤ 300) = false := decide_eq_false (by omega)
      exact W_retC c88_ok rfl (Conv.drop _ (le_upd hb1)) ⟨by simp only [cnfB, this, Bool.and_false, Bool.false_and]; rfl, rfl⟩
    · simp (disch := omega) only [go_sem, ↓if_pos, ne_eq, ↓reduceIte]
      have h300 : decide (cls.length ≤ 300) = true := decide_eq_true (by omega)
      refine W_loopC (α := Nat) (fun i => i ≤ cls.length ∧ (cls.take i).all (clauseB vars) = true) (fun i => [(1, .ptr b1 0), (3, .int .i64 (i : Nat))]) (fun _ => upd σ b1 [.int .i64 vars, .isl false 1 (clsV cls)]) (fun i => cls.length - i) 0 ⟨by omega, rfl⟩ (by simp (disch := omega) only [subT, Int.natCast_add, Int.cast_ofNat_Int, go_sem, ↓if_pos, ne_eq, ↓reduceIte] <;> (repeat' apply And.intro) <;> first | rfl | (congr 1; omega) | assumption) rfl ?_
      rintro i ⟨hi, hall⟩ ih
      simp (disch := omega) only [g1, go_sem, ↓if_pos, ne_eq, ↓reduceIte]
      first | refine iteW_dec (fun hq => ?_) (fun hq => ?_) | refine iteW_of (fun hq => ?_) (fun hq => ?_)
      · have hsome := getD_some [] (by omega : i < cls.length)
        have hsm := hs.2 _ (getD_mem [] (by omega : i < cls.length))
        simp (disch := omega) only [go_sem, ↓if_pos, ne_eq, ↓reduceIte]
        refine W_drawW ?_
        simp (disch := omega) only [g1, intsV, go_sem, ↓if_pos, ne_eq, ↓reduceIte]
        generalize cls.getD i [] = c at *
        refine DRun.callQ (l01Clause_ok (ex := false) (xs := c) (vars := vars) hsm (by omega)) ⟨[], rfl, rfl⟩ ?_
        rintro r s ⟨rfl, hs'⟩
        obtain rfl := hs'.symm
        generalize hcb : clauseB vars c = qc
        cases qc with
        | true =>
          simp (disch := omega) only [go_sem, ↓if_pos, ne_eq, ↓reduceIte]
          exact ih (i + 1) _ _ ⟨by omega, all_take hall hsome hcb⟩ (by omega) (by simp (disch := omega) only [subT, Int.natCast_add, Int.cast_ofNat_Int, go_sem, ↓if_pos, ne_eq, ↓reduceIte] <;> (repeat' apply And.intro) <;> first | rfl | (congr 1; omega) | assumption) rfl
        | false =>
          simp (disch := omega) only [go_sem, ↓if_pos, ne_eq, ↓reduceIte]
          exact W_retC c88_ok rfl (Conv.drop _ (le_upd hb1)) ⟨by simp only [cnfB, all_false hsome hcb, Bool.and_false]; rfl, rfl⟩
      · rw [List.take_of_length_le (by omega)] at hall
        simp (disch := omega) only [go_sem, ↓if_pos, ne_eq, ↓reduceIte]
        exact W_retC c88_ok rfl (Conv.drop _ (le_upd hb1)) ⟨by simp only [cnfB, h1, h300, hall, Bool.and_true]; rfl, rfl⟩
end Go.Proofs.Ytlidjjjpjndneaa.Lg
