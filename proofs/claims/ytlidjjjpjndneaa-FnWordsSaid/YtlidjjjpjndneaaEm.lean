/- Circuits: right ones, their values. -/
import Derived.Test.YtlidjjjpjndneaaEl
set_option linter.unusedSimpArgs false
set_option linter.unusedVariables false
namespace Go.Proofs.Ytlidjjjpjndneaa.Lg
open Go
attribute [local irreducible] SRun DS DRun
variable {Γ : St} {σ σ0 : St}
/-- The gates of a circuit are right. -/
def GatesOK (inp : Int) (gs : List (Int × Int)) : Prop := ∀ i, i < gs.length → 2 ≤ (gs.getD i default).1 ∧ (gs.getD i default).1 < (gs.getD i default).2 ∧ (gs.getD i default).2 < 2 * (1 + inp + i) ∧ ¬ (gs.getD i default).1 / 2 = (gs.getD i default).2 / 2 ∧ (gs.take i).findIdx? (· == gs.getD i default) = none
theorem containsGate_ok {ex : Bool} {gs : List (Int × Int)} {g : Int × Int} (hl : gs.length ≤ 1000000) (hn : gs.findIdx? (· == g) = none) : Ret Try.prog Γ 158 [.isl ex 2 (gsV gs), gV g] σ (.bool false) σ := by
  obtain ⟨x, y⟩ := g
  refine ret_of c158_ok rfl ?_
  simp (disch := omega) only [c158, gV, go_sem, ↓if_pos, ne_eq, ↓reduceIte]
  refine SRun.boxR (by simp [ev, look, V.cells, V.one]) ?_
  intro b3 hb3
  simp (disch := omega) only [go_sem, ↓if_pos, ne_eq, ↓reduceIte]
  refine SRun.callR (indexGate_ok (ex := ex) (g := (x, y)) hl) ⟨[], rfl, rfl⟩ rfl ?_
  rw [hn]
  simp (disch := omega) only [go_sem, ↓if_pos, ne_eq, ↓reduceIte]
  exact W_retC c158_ok rfl (Conv.drop _ (le_upd hb3)) ⟨rfl, rfl⟩
theorem gsV_take (gs : List (Int × Int)) (i : Nat) : (gsV gs).take i = gsV (gs.take i) := by simp [gsV, List.map_take]
set_option maxHeartbeats 1000000 in
theorem isAig_ok {inp : Int} {gs : List (Int × Int)} (hinp : 0 ≤ inp ∧ inp ≤ 12) (hl : gs.length ≤ 400) (hg : GatesOK inp gs) : Ret Try.prog Γ 78 [aigV inp gs] σ (.bool true) σ := by
  have hb : (decide (0 ≤ inp) && decide (inp ≤ 12)) = true := by simp; omega
  have hgl := gsV_len gs
  refine ret_of c78_ok rfl ?_
  simp (disch := omega) only [c78, aigV, go_sem, ↓if_pos, ne_eq, ↓reduceIte]
  refine SRun.boxR (by simp [ev, look, V.cells, V.one]) ?_
  intro b1 hb1
  simp (disch := omega) only [go_sem, ↓if_pos, ne_eq, ↓reduceIte]
  refine SRun.callR (within_ok inp 0 12) ⟨[], rfl, rfl⟩ rfl ?_
  simp (disch := omega) only [List.getD_cons_zero, List.getD_cons_succ, go_sem, ↓if_pos, ne_eq, ↓reduceIte]
  simp (disch := omega) only [hb, go_sem, ↓if_pos, ne_eq, ↓reduceIte]
  refine W_loopC (α := Nat × St) (fun p => p.1 ≤ gs.length ∧ ∀ d x, upd σ b1 [.int .i64 inp, .isl false 2 (gsV gs)] d = some x → p.2 d = some x) (fun p => [(1, .ptr b1 0), (16, .isl false 2 (gsV gs)), (17, .int .i64 gs.length), (18, .int .i64 (p.1 : Nat))]) (fun p => p.2) (fun p => gs.length - p.1) (0, upd σ b1 [.int .i64 inp, .isl false 2 (gsV gs)]) ⟨by omega, fun _ _ h => h⟩ (by simp (disch := omega) only [subT, Int.natCast_add, Int.cast_ofNat_Int, go_sem, ↓if_pos, ne_eq, ↓reduceIte] <;> (repeat' apply And.intro) <;> first | rfl | (congr 1; omega) | assumption) rfl ?_
  rintro ⟨i, s⟩ ⟨hi, hs⟩ ih
  dsimp only at hi hs
  simp (disch := omega) only [go_sem, ↓if_pos, ne_eq, ↓reduceIte]
  first | refine iteW_dec (fun hq => ?_) (fun hq => ?_) | refine iteW_of (fun hq => ?_) (fun hq => ?_)
  · have g1 := hs b1 _ (upd_same _ _ _)
    obtain ⟨q1, q2, q3, q4, q5⟩ := hg i (by omega)
    simp (disch := omega) only [gsV, go_sem, ↓if_pos, ne_eq, ↓reduceIte]
    generalize hgi : gs.getD i default = g at *
    obtain ⟨x, y⟩ := g
    dsimp only at q1 q2 q3 q4
    simp (disch := omega) only [gV, go_sem, ↓if_pos, ne_eq, ↓reduceIte]
    refine SRun.allocR ?_
    intro b4 hb4
    have g1' : upd s b4 [.int .i64 x, .int .i64 y] b1 = some _ := le_upd hb4 _ _ g1
    have l1 : decide (x < 2) = false := decide_eq_false (by omega)
    have l2 : decide (x ≥ y) = false := decide_eq_false (by omega)
    have l3 : decide (y ≥ 2 * (1 + inp + i)) = false := decide_eq_false (by omega)
    have t1 : x.tdiv 2 = x / 2 := Int.tdiv_eq_ediv_of_nonneg (by omega)
    have t2 : y.tdiv 2 = y / 2 := Int.tdiv_eq_ediv_of_nonneg (by omega)
    have l4 : decide (x / 2 = y / 2) = false := decide_eq_false q4
    simp (disch := omega) only [go_sem, ↓if_pos, ne_eq, ↓reduceIte]
    refine W_drawW ?_
    simp (disch := omega) only [l1, l2, l3, l4, t1, t2, g1', go_sem, ↓if_pos, ne_eq, ↓reduceIte]
    have hti : List.take ((i : Int) - 0).toNat (gsV gs) = gsV (gs.take i) := by rw [show ((i : Int) - 0).toNat = i by omega, gsV_take]
    have hfl : (false && decide ((i : Int) = (gsV gs).length)) = false := rfl
    refine DRun.callG (containsGate_ok (ex := false) (gs := gs.take i) (g := (x, y)) (by simp only [List.length_take]; omega) q5) ⟨[], rfl, by simp only [gV, ← hti]; rfl⟩ rfl ?_
    rintro r s2 ⟨rfl, rfl⟩
    simp (disch := omega) only [go_sem, ↓if_pos, ne_eq, ↓reduceIte]
    exact ih (i + 1, upd s b4 [.int .i64 x, .int .i64 y]) _ _ ⟨by simp only; omega, fun d x h => le_upd hb4 _ _ (hs _ _ h)⟩ (by simp only; omega) (by simp (disch := omega) only [subT, Int.natCast_add, Int.cast_ofNat_Int, gsV, go_sem, ↓if_pos, ne_eq, ↓reduceIte] <;> (repeat' apply And.intro) <;> first | rfl | (congr 1; omega) | assumption) rfl
  · simp (disch := omega) only [go_sem, ↓if_pos, ne_eq, ↓reduceIte]
    exact W_retC c78_ok rfl (Conv.drop _ fun d x h => hs _ _ (le_upd hb1 _ _ h)) ⟨rfl, rfl⟩
end Go.Proofs.Ytlidjjjpjndneaa.Lg
