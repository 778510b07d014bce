/- Words are right, and their values. -/
import Derived.Test.YtlidjjjpjndneaaVd
import Derived.Test.YtlidjjjpjndneaaEq
set_option linter.unusedSimpArgs false
set_option linter.unusedVariables false
namespace Go.Proofs.Ytlidjjjpjndneaa.Lg
open Go
attribute [local irreducible] SRun DS DRun
variable {Γ : St} {σ σ0 : St}
instance : Inhabited W3 := ⟨.const 0⟩
def kindW : W3 → Int | .const _ => 1 | .var _ => 2 | .op k _ _ => k
def numW : W3 → Int | .const n => n | .var n => n | .op _ _ _ => 0
def kidsW : W3 → List W3 | .op _ a b => [a, b] | _ => []
def wdsV (ws : List W3) : List V := ws.map wdV
theorem wdC_eq (w : W3) : wdC w = [.int .i64 (kindW w), .int .i64 (numW w), .isl false 3 (wdsV (kidsW w))] := by cases w <;> rfl
theorem wdsV_len (ws : List W3) : (wdsV ws).length = ws.length := by simp [wdsV]
theorem W3.indK {p : W3 → Prop} (h : ∀ w, (∀ e ∈ kidsW w, p e) → p w) : ∀ w, p w := by
  intro w
  induction w with
  | const n => exact h _ fun e he => by cases he
  | var n => exact h _ fun e he => by cases he
  | op k a b iha ihb =>
    refine h _ fun e he => ?_
    simp only [kidsW, List.mem_cons, List.not_mem_nil, or_false] at he
    rcases he with rfl | rfl
    · exact iha
    · exact ihb
def sizeWL : List W3 → Nat
  | [] => 0
  | w :: r => sizeW w + sizeWL r
theorem sizeW_kids (w : W3) : sizeW w = 1 + sizeWL (kidsW w) := by cases w <;> simp [sizeW, kidsW, sizeWL]; omega
theorem sizeW_pos (w : W3) : 0 < sizeW w := by rw [sizeW_kids]; omega
theorem sizeWL_mem {ws : List W3} {w : W3} (h : w ∈ ws) : sizeW w ≤ sizeWL ws := by
  induction ws with
  | nil => cases h
  | cons a r ih =>
    simp only [sizeWL]
    rcases List.mem_cons.1 h with rfl | h
    · omega
    · have := ih h; omega
theorem kidsW_len (w : W3) : (kidsW w).length ≤ 2 := by cases w <;> simp [kidsW]
section
variable {P : Program} {f : FuncId} {n : Nat} {Q : V → St → Prop} {k : List It} {T : Ts} {g : GI} {l : List GI}
theorem stepW_iaddr_wds {ex : Bool} {ws : List W3} {kk : IntKind} {m : Int} (h0 : 0 ≤ m) (h1 : m < ws.length) : stepW P Γ f n Q (.iaddr 3 (.c (.isl ex 3 (wdsV ws))) (.c (.int kk m))) g l k T σ = W P Γ f n Q (.ops l :: k) (putT T g.d (.iptr (wdC (ws.getD m.toNat default)))) σ := stepW_iaddr_map h0 h1
end
attribute [go_sem] stepW_iaddr_wds wdsV_len
theorem l05Left_ok : ∀ w, ∀ {Γ σ : St} {l : Int}, (sizeW w : Int) ≤ l → l ≤ 1000000 → Ret Try.prog Γ 142 [wdV w, .int .i64 l] σ (.int .i64 (l - sizeW w)) σ := by
  refine W3.indK fun w ih Γ σ l hl hl1 => ?_
  have hsk := sizeW_kids w
  have hkl := kidsW_len w
  refine ret_of c142_ok rfl ?_
  simp (disch := omega) only [c142, wdV, wdC_eq, go_sem, ↓if_pos, ne_eq, ↓reduceIte]
  refine SRun.boxR (by simp [ev, look, V.cells, V.one]) ?_
  intro b2 hb2
  simp (disch := omega) only [go_sem, ↓if_pos, ne_eq, ↓reduceIte]
  have g2 : upd σ b2 [.int .i64 (kindW w), .int .i64 (numW w), .isl false 3 (wdsV (kidsW w))] b2 = some [.int .i64 (kindW w), .int .i64 (numW w), .isl false 3 (wdsV (kidsW w))] := upd_same _ _ _
  have hle : ∀ d x, σ d = some x → upd σ b2 [.int .i64 (kindW w), .int .i64 (numW w), .isl false 3 (wdsV (kidsW w))] d = some x := le_upd hb2
  generalize kidsW w = ks at *
  refine W_loopC (α := Nat × Int) (fun p => p.1 ≤ ks.length ∧ p.2 - sizeWL (ks.drop p.1) = l - 1 - sizeWL ks ∧ p.2 ≤ 1000000) (fun p => [(2, .ptr b2 0), (1, .int .i64 p.2), (5, .int .i64 (p.1 : Nat))]) (fun _ => upd σ b2 [.int .i64 (kindW w), .int .i64 (numW w), .isl false 3 (wdsV ks)]) (fun p => ks.length - p.1) (0, l - 1) ⟨by omega, by simp, by simp only; omega⟩ (by simp (disch := omega) only [subT, Int.natCast_add, Int.cast_ofNat_Int, go_sem, ↓if_pos, ne_eq, ↓reduceIte] <;> (repeat' apply And.intro) <;> first | rfl | (congr 1; omega) | assumption) rfl ?_
  rintro ⟨i, a⟩ ⟨hi, hsm, ha⟩ ih2
  dsimp only at hi hsm ha
  simp (disch := omega) only [g2, go_sem, ↓if_pos, ne_eq, ↓reduceIte]
  first | refine guardW_dec (fun hq => ?_) (fun hq => ?_) | refine guardW_by (fun hq => ?_) (fun hq => ?_)
  · have he := getD_mem default (by omega : i < ks.length)
    rw [drop_cons default (by omega : i < ks.length)] at hsm
    simp only [sizeWL] at hsm
    have hp := sizeW_pos (ks.getD i default)
    have ha0 : decide (a ≥ 0) = true := decide_eq_true (by omega)
    simp (disch := omega) only [g2, ha0, go_sem, ↓if_pos, ne_eq, ↓reduceIte]
    refine SRun.callR (ih _ he (by omega) (by omega)) ⟨[], rfl, rfl⟩ rfl ?_
    simp (disch := omega) only [List.getD_cons_zero, List.getD_cons_succ, go_sem, ↓if_pos, ne_eq, ↓reduceIte]
    exact ih2 (i + 1, a - sizeW (ks.getD i default)) _ _ ⟨by simp only; omega, by simp only; omega, by simp only; omega⟩ (by simp only; omega) (by simp (disch := omega) only [subT, Int.natCast_add, Int.cast_ofNat_Int, go_sem, ↓if_pos, ne_eq, ↓reduceIte] <;> (repeat' apply And.intro) <;> first | rfl | (congr 1; omega) | assumption) rfl
  · obtain rfl : i = ks.length := by omega
    rw [List.drop_length] at hsm
    simp only [sizeWL] at hsm
    simp (disch := omega) only [go_sem, ↓if_pos, ne_eq, ↓reduceIte]
    refine W_retC c142_ok rfl (Conv.drop _ hle) ⟨?_, rfl⟩
    simp only [look, ev, V.bool.injEq, V.int.injEq, V.str.injEq, V.tup.injEq, V.agg.injEq, V.isl.injEq, List.cons.injEq, true_and, and_true, Nat.reduceEqDiff, Nat.reduceAdd, Nat.reduceSub, Nat.reduceMul, Nat.reducePow, Nat.reduceDiv, Nat.reduceMod, Int.reduceToNat, Nat.reduceLeDiff, Nat.reduceLT, Int.reduceEq, Int.reduceLT, Int.reduceLE, Int.reduceGT, Int.reduceGE, Int.reduceNeg, Int.reduceSub, Int.reduceAdd, Int.reduceMul, Int.reducePow, ne_eq, reduceCtorEq, ↓reduceIte]
    omega
theorem l05Right_ok : ∀ (w : W3) (d : Nat) {Γ σ : St}, okW w d → Ret Try.prog Γ 143 [wdV w, .int .i64 3] σ (.bool true) σ := by
  intro w
  induction w with
  | const n =>
    intro d Γ σ h
    obtain ⟨h1, h2, h3⟩ := h
    have hb : (decide (0 ≤ n) && decide (n ≤ 7)) = true := by simp; omega
    refine ret_of c143_ok rfl ?_
    simp (disch := omega) only [c143, wdV, wdC, go_sem, ↓if_pos, ne_eq, ↓reduceIte]
    refine SRun.boxR (by simp [ev, look, V.cells, V.one]) ?_
    intro b2 hb2
    simp (disch := omega) only [go_sem, ↓if_pos, ne_eq, ↓reduceIte]
    refine SRun.callR (l01In_ok n 0 7) ⟨[], rfl, rfl⟩ rfl ?_
    simp (disch := omega) only [List.getD_cons_zero, List.getD_cons_succ, go_sem, ↓if_pos, ne_eq, ↓reduceIte]
    simp (disch := omega) only [hb, go_sem, ↓if_pos, ne_eq, ↓reduceIte]
    exact W_retC c143_ok rfl (Conv.drop _ (le_upd hb2)) ⟨rfl, rfl⟩
  | var n =>
    intro d Γ σ h
    obtain ⟨h1, h2, h3⟩ := h
    have hb1 : decide (n ≥ 0) = true := decide_eq_true h2
    have ht : (12 : Int).tdiv 3 = 4 := rfl
    have hb2' : decide (n < 4) = true := decide_eq_true (by omega)
    refine ret_of c143_ok rfl ?_
    simp (disch := omega) only [c143, wdV, wdC, go_sem, ↓if_pos, ne_eq, ↓reduceIte]
    refine SRun.boxR (by simp [ev, look, V.cells, V.one]) ?_
    intro b2 hb2
    simp (disch := omega) only [go_sem, ↓if_pos, ne_eq, ↓reduceIte]
    refine W_drawW ?_
    simp (disch := omega) only [hb1, ht, hb2', go_sem, ↓if_pos, ne_eq, ↓reduceIte]
    exact W_retC c143_ok rfl (Conv.drop _ (le_upd hb2)) ⟨rfl, rfl⟩
  | op k a b iha ihb =>
    intro d Γ σ h
    obtain ⟨h1, h2, h3, h4, h5⟩ := h
    have hA := fun Γ σ => iha _ (Γ := Γ) (σ := σ) h4
    have hB := fun Γ σ => ihb _ (Γ := Γ) (σ := σ) h5
    have hkk : k = 3 ∨ k = 4 ∨ k = 5 := by omega
    refine ret_of c143_ok rfl ?_
    simp (disch := omega) only [c143, wdV, wdC, go_sem, ↓if_pos, ne_eq, ↓reduceIte]
    refine SRun.boxR (by simp [ev, look, V.cells, V.one]) ?_
    intro b2 hb2
    rcases hkk with rfl | rfl | rfl
    all_goals
      simp (disch := omega) only [go_sem, ↓if_pos, ne_eq, ↓reduceIte]
      refine SRun.callR (hA _ _) ⟨[], rfl, rfl⟩ rfl ?_
      simp (disch := omega) only [go_sem, ↓if_pos, ne_eq, ↓reduceIte]
      refine SRun.callR (hB _ _) ⟨[], rfl, rfl⟩ rfl ?_
      simp (disch := omega) only [go_sem, ↓if_pos, ne_eq, ↓reduceIte]
      exact W_retC c143_ok rfl (Conv.drop _ (le_upd hb2)) ⟨rfl, rfl⟩
theorem WordOKs_ok {w : W3} {d : Nat} (h : okW w d) (hs : sizeW w ≤ 9) : Ret Try.prog Γ 62 [wdV w, .int .i64 3] σ (.bool true) σ := by
  refine ret_of c62_ok rfl ?_
  simp (disch := omega) only [c62, wdV, go_sem, ↓if_pos, ne_eq, ↓reduceIte]
  refine SRun.boxR (wd_box w) ?_
  intro b2 hb2
  simp (disch := omega) only [go_sem, ↓if_pos, ne_eq, ↓reduceIte]
  refine SRun.callR (l01In_ok 3 1 6) ⟨[], rfl, rfl⟩ rfl ?_
  simp (disch := omega) only [List.getD_cons_zero, List.getD_cons_succ, go_sem, ↓if_pos, ne_eq, ↓reduceIte]
  refine SRun.callR (l05Left_ok w (l := 9) (by omega) (by omega)) ⟨[], rfl, rfl⟩ rfl ?_
  have h9 : decide ((9 : Int) - sizeW w ≥ 0) = true := decide_eq_true (by omega)
  simp (disch := omega) only [h9, go_sem, ↓if_pos, ne_eq, ↓reduceIte]
  refine SRun.callR (l05Right_ok w d h) ⟨[], rfl, rfl⟩ rfl ?_
  simp (disch := omega) only [go_sem, ↓if_pos, ne_eq, ↓reduceIte]
  exact W_retC c62_ok rfl (Conv.drop _ (le_upd hb2)) ⟨rfl, rfl⟩
end Go.Proofs.Ytlidjjjpjndneaa.Lg
