/- Words are counted, and have values: the program's. -/
import Derived.Test.YtlidjjjpjndneaaVe
set_option linter.unusedSimpArgs false
set_option linter.unusedVariables false
namespace Go.Proofs.Ytlidjjjpjndneaa.Lg
open Go
attribute [local irreducible] SRun DS DRun
variable {Γ : St} {σ σ0 : St}
theorem indexFuncW_no {ex : Bool} {ws : List W3} {F : FuncId} {caps : List V} {s : Nat → St} (hl : ws.length ≤ 1000) (hp : ∀ i, i < ws.length → Ret Try.prog Γ F (wdV (ws.getD i default) :: caps) (s i) (.bool false) (s (i + 1))) :
    Ret Try.prog Γ 220 [.isl ex 3 (wdsV ws), .fn F caps] (s 0) (.int .i64 (-1)) (s ws.length) := by
  refine ret_of c220_ok rfl ?_
  simp (disch := omega) only [c220, go_sem, ↓if_pos, ne_eq, ↓reduceIte]
  refine W_loopC (α := Nat) (fun i => i ≤ ws.length) (fun i => [(0, .isl ex 3 (wdsV ws)), (1, .fn F caps), (7, .int .i64 ws.length), (8, .int .i64 (i : Nat))]) (fun i => s i) (fun i => ws.length - i) 0 (by omega) (by simp (disch := omega) only [subT, Int.natCast_add, Int.cast_ofNat_Int, go_sem, ↓if_pos, ne_eq, ↓reduceIte] <;> (repeat' apply And.intro) <;> first | rfl | (congr 1; omega) | assumption) rfl ?_
  intro i hi ih
  simp (disch := omega) only [go_sem, ↓if_pos, ne_eq, ↓reduceIte]
  first | refine iteW_dec (fun hq => ?_) (fun hq => ?_) | refine iteW_of (fun hq => ?_) (fun hq => ?_)
  · simp (disch := omega) only [go_sem, ↓if_pos, ne_eq, ↓reduceIte]
    refine SRun.callR (hp i (by omega)) ⟨caps, rfl, rfl⟩ rfl ?_
    simp (disch := omega) only [go_sem, ↓if_pos, ne_eq, ↓reduceIte]
    exact ih (i + 1) _ _ (by omega) (by omega) (by simp (disch := omega) only [subT, Int.natCast_add, Int.cast_ofNat_Int, go_sem, ↓if_pos, ne_eq, ↓reduceIte] <;> (repeat' apply And.intro) <;> first | rfl | (congr 1; omega) | assumption) rfl
  · obtain rfl : i = ws.length := by omega
    simp (disch := omega) only [go_sem, ↓if_pos, ne_eq, ↓reduceIte]
    exact W_retR c220_ok rfl ⟨rfl, rfl⟩
theorem containsFuncW_no {ex : Bool} {ws : List W3} {F : FuncId} {caps : List V} {s : Nat → St} (hl : ws.length ≤ 1000) (hp : ∀ i, i < ws.length → Ret Try.prog Γ F (wdV (ws.getD i default) :: caps) (s i) (.bool false) (s (i + 1))) :
    Ret Try.prog Γ 195 [.isl ex 3 (wdsV ws), .fn F caps] (s 0) (.bool false) (s ws.length) := by
  refine ret_of c195_ok rfl ?_
  simp (disch := omega) only [c195, go_sem, ↓if_pos, ne_eq, ↓reduceIte]
  refine SRun.callR (indexFuncW_no (ex := ex) (s := s) hl hp) ⟨[], rfl, rfl⟩ rfl ?_
  simp (disch := omega) only [go_sem, ↓if_pos, ne_eq, ↓reduceIte]
  exact W_retR c195_ok rfl ⟨rfl, rfl⟩
theorem countWord1_ok {w : W3} {b b4 b5 : Nat} {τ : St} {z z' : List V} (h4 : upd τ b z b4 = some [.int .i64 3]) (h5 : upd τ b z b5 = some [.ptr b 0]) (h : ∀ σ, Ret Try.prog Γ 140 [wdV w, .int .i64 3, .ptr b 0] (upd σ b z) (.bool true) (upd σ b z')) : Ret Try.prog Γ 196 [wdV w, .ptr b4 0, .ptr b5 0] (upd τ b z) (.bool false) (upd τ b z') := by
  refine ret_of c196_ok rfl ?_
  simp (disch := omega) only [c196, wdV, go_sem, ↓if_pos, ne_eq, ↓reduceIte]
  refine SRun.boxR (wd_box w) ?_
  intro b3 hb3
  have n3 := upd_none.1 hb3
  simp (disch := omega) only [go_sem, ↓if_pos, ne_eq, ↓reduceIte]
  have g4 : upd (upd τ b z) b3 (wdC w) b4 = _ := le_upd hb3 _ _ h4
  have g5 : upd (upd τ b z) b3 (wdC w) b5 = _ := le_upd hb3 _ _ h5
  simp (disch := omega) only [g4, g5, go_sem, ↓if_pos, ne_eq, ↓reduceIte]
  rw [upd_comm _ n3.1.symm]
  refine SRun.callR (h _) ⟨[], rfl, rfl⟩ rfl ?_
  simp (disch := omega) only [go_sem, ↓if_pos, ne_eq, ↓reduceIte]
  exact W_retC c196_ok rfl (Conv.drop _ (le_under (le_upd n3.2))) ⟨rfl, rfl⟩
/-- What stands before a word's kid. -/
def sumK (ws : List W3) (i : Nat) : Nat := sizeWL (ws.take i)
theorem sumK_succ {ws : List W3} {i : Nat} (h : i < ws.length) : sumK ws (i + 1) = sumK ws i + sizeW (ws.getD i default) := by
  unfold sumK
  rw [take_succ default h]
  have : ∀ (a : List W3) (x : W3), sizeWL (a ++ [x]) = sizeWL a + sizeW x := by
    intro a x
    induction a with
    | nil => simp [sizeWL]
    | cons y r ih => simp only [List.cons_append, sizeWL, ih]; omega
  exact this _ _
theorem sumK_le (ws : List W3) (i : Nat) : sumK ws i ≤ sizeWL ws := by
  unfold sumK
  induction ws generalizing i with
  | nil => simp [sizeWL]
  | cons y r ih =>
    cases i with
    | zero => simp [sizeWL]
    | succ i => have := ih i; simp only [List.take_succ_cons, sizeWL]; omega
set_option maxHeartbeats 1000000 in
theorem countWord_ok : ∀ w, ∀ {Γ σ : St} {b : Nat} {c : Int} (d : Nat), okW w d → 0 ≤ c → c + sizeW w ≤ 9 → Ret Try.prog Γ 140 [wdV w, .int .i64 3, .ptr b 0] (upd σ b [.int .i64 c]) (.bool true) (upd σ b [.int .i64 (c + sizeW w)]) := by
  refine W3.indK fun w ih Γ σ b c d h hc0 hc1 => ?_
  have hsk := sizeW_kids w
  have hkl := kidsW_len w
  refine ret_of c140_ok rfl ?_
  simp (disch := omega) only [c140, wdV, go_sem, ↓if_pos, ne_eq, ↓reduceIte]
  refine SRun.boxR (wd_box w) ?_
  intro b3 hb3
  simp (disch := omega) only [go_sem, ↓if_pos, ne_eq, ↓reduceIte]
  refine SRun.boxR (by simp [ev, look, V.cells, V.one]) ?_
  intro b4 hb4
  simp (disch := omega) only [go_sem, ↓if_pos, ne_eq, ↓reduceIte]
  refine SRun.boxR (by simp [ev, look, V.cells, V.one]) ?_
  intro b5 hb5
  have n3 := upd_none.1 hb3
  have n4 := upd_none.1 hb4
  have n4' := upd_none.1 n4.2
  have n5 := upd_none.1 hb5
  have n5' := upd_none.1 n5.2
  have n5'' := upd_none.1 n5'.2
  have m3 := n3.1.symm
  have m4 := n4'.1.symm
  have m5 := n5''.1.symm
  have m34 := n4.1.symm
  have m45 := n5.1.symm
  have m35 := n5'.1.symm
  simp (disch := omega) only [n3.1, m3, n4.1, n4'.1, m4, n5.1, n5'.1, n5''.1, m5, m34, m45, m35, go_sem, ↓if_pos, ne_eq, ↓reduceIte]
  have hle : ∀ d x, upd σ b [.int .i64 c] d = some x → (upd (upd (upd (upd σ b [V.int IntKind.i64 c]) b3 (wdC w)) b4 [V.int IntKind.i64 3]) b5 [V.ptr b 0]) d = some x := fun d x h => le_upd hb5 _ _ (le_upd hb4 _ _ (le_upd hb3 _ _ h))
  have g3 : ∀ z, upd (upd (upd (upd (upd σ b [V.int IntKind.i64 c]) b3 (wdC w)) b4 [V.int IntKind.i64 3]) b5 [V.ptr b 0]) b z b3 = some (wdC w) := fun z => by rw [upd_ne _ _ n3.1, upd_ne _ _ m35, upd_ne _ _ m34, upd_same]
  have g4 : ∀ z, upd (upd (upd (upd (upd σ b [V.int IntKind.i64 c]) b3 (wdC w)) b4 [V.int IntKind.i64 3]) b5 [V.ptr b 0]) b z b4 = some [V.int IntKind.i64 3] := fun z => by rw [upd_ne _ _ n4'.1, upd_ne _ _ m45, upd_same]
  have g5 : ∀ z, upd (upd (upd (upd (upd σ b [V.int IntKind.i64 c]) b3 (wdC w)) b4 [V.int IntKind.i64 3]) b5 [V.ptr b 0]) b z b5 = some [V.ptr b 0] := fun z => by rw [upd_ne _ _ n5''.1, upd_same]
  generalize upd (upd (upd (upd σ b [V.int IntKind.i64 c]) b3 (wdC w)) b4 [V.int IntKind.i64 3]) b5 [V.ptr b 0] = τ at *
  have hle2 : ∀ (z : List V) d x, upd σ b z d = some x → upd τ b z d = some x := fun z d x h => by
    rw [← upd_upd σ b [.int .i64 c]] at h
    exact le_under hle d x h
  have h9 : decide (c + 1 > 9) = false := decide_eq_false (by omega)
  have ht : (12 : Int).tdiv 3 = 4 := rfl
  have hcf : ∀ (ks : List W3) (d' : Nat), ks = kidsW w → (∀ e ∈ ks, okW e d') → ks.length ≤ 1000 → Ret Try.prog Γ 195 [.isl false 3 (wdsV ks), .fn 196 [.ptr b4 0, .ptr b5 0]] (upd τ b [.int .i64 (c + 1)]) (.bool false) (upd τ b [.int .i64 (c + 1 + sizeWL ks)]) := by
    intro ks d' hks hok hl
    have := containsFuncW_no (Γ := Γ) (ex := false) (ws := ks) (F := 196) (caps := [.ptr b4 0, .ptr b5 0]) (s := fun i => upd τ b [.int .i64 (c + 1 + sumK ks i)]) hl (fun i hi => by
      have hm := getD_mem default hi
      have hle := sumK_le ks (i + 1)
      have hsu := sumK_succ hi
      have e2 : c + 1 + (sumK ks (i + 1) : Nat) = c + 1 + sumK ks i + sizeW (ks.getD i default) := by rw [hsu]; omega
      rw [e2]
      exact countWord1_ok (g4 _) (g5 _) (fun σ => ih _ (hks ▸ hm) d' (hok _ hm) (by omega) (by rw [← hks] at hsk; omega)))
    have e0 : c + 1 + ((sumK ks 0 : Nat) : Int) = c + 1 := by simp [sumK, sizeWL]
    have e1 : sumK ks ks.length = sizeWL ks := by simp [sumK]
    rw [e0, e1] at this
    exact this
  cases w with
  | const n =>
    obtain ⟨h1, h2, h3⟩ := h
    have hb : (decide (0 ≤ n) && decide (n ≤ 7)) = true := by simp; omega
    have hsz : ((sizeW (.const n) : Nat) : Int) = 1 := rfl
    rw [hsz]
    refine W_drawW ?_
    simp (disch := omega) only [g3, wdC, go_sem, ↓if_pos, ne_eq, ↓reduceIte]
    refine W_drawW ?_
    simp (disch := omega) only [g3, g4, go_sem, ↓if_pos, ne_eq, ↓reduceIte]
    refine DRun.callQ (within_ok n 0 7) ⟨[], rfl, rfl⟩ ?_
    rintro r s ⟨rfl, hs⟩
    obtain rfl := hs.symm
    simp (disch := omega) only [hb, g3, g4, g5, h9, wdC, go_sem, ↓if_pos, ne_eq, ↓reduceIte]
    refine SRun.callR (hcf [] 0 rfl (fun e he => by cases he) (by simp)) ⟨[], rfl, rfl⟩ rfl ?_
    have e0 : c + 1 + ((sizeWL [] : Nat) : Int) = c + 1 := by simp [sizeWL]
    rw [e0]
    simp (disch := omega) only [go_sem, ↓if_pos, ne_eq, ↓reduceIte]
    exact W_retC c140_ok rfl (Conv.drop _ (hle2 _)) ⟨rfl, rfl⟩
  | var n =>
    obtain ⟨h1, h2, h3⟩ := h
    have hb : (decide (0 ≤ n) && decide (n ≤ 3)) = true := by simp; omega
    have hsz : ((sizeW (.var n) : Nat) : Int) = 1 := rfl
    rw [hsz]
    refine W_drawW ?_
    simp (disch := omega) only [g3, wdC, go_sem, ↓if_pos, ne_eq, ↓reduceIte]
    refine W_drawW ?_
    simp (disch := omega) only [g3, g4, ht, go_sem, ↓if_pos, ne_eq, ↓reduceIte]
    refine DRun.callQ (within_ok n 0 3) ⟨[], rfl, rfl⟩ ?_
    rintro r s ⟨rfl, hs⟩
    obtain rfl := hs.symm
    simp (disch := omega) only [hb, g3, g4, g5, h9, wdC, go_sem, ↓if_pos, ne_eq, ↓reduceIte]
    refine SRun.callR (hcf [] 0 rfl (fun e he => by cases he) (by simp)) ⟨[], rfl, rfl⟩ rfl ?_
    have e0 : c + 1 + ((sizeWL [] : Nat) : Int) = c + 1 := by simp [sizeWL]
    rw [e0]
    simp (disch := omega) only [go_sem, ↓if_pos, ne_eq, ↓reduceIte]
    exact W_retC c140_ok rfl (Conv.drop _ (hle2 _)) ⟨rfl, rfl⟩
  | op k p q =>
    obtain ⟨h1, h2, h3, h4, h5⟩ := h
    have hkk : k = 3 ∨ k = 4 ∨ k = 5 := by omega
    have hsz : c + 1 + ((sizeWL [p, q] : Nat) : Int) = c + ((sizeW (.op k p q) : Nat) : Int) := by simp [sizeWL, sizeW]; omega
    rcases hkk with rfl | rfl | rfl
    all_goals
      refine W_drawW ?_
      simp (disch := omega) only [g3, wdC, g5, h9, go_sem, ↓if_pos, ne_eq, ↓reduceIte]
      refine SRun.callR (hcf [p, q] (d - 1) rfl (fun e he => by
        simp only [List.mem_cons, List.not_mem_nil, or_false] at he
        rcases he with rfl | rfl
        · exact h4
        · exact h5) (by simp)) ⟨[], rfl, rfl⟩ rfl ?_
      rw [hsz]
      simp (disch := omega) only [go_sem, ↓if_pos, ne_eq, ↓reduceIte]
      exact W_retC c140_ok rfl (Conv.drop _ (hle2 _)) ⟨rfl, rfl⟩
theorem isWord_ok {w : W3} {d : Nat} (h : okW w d) (hs : sizeW w ≤ 9) : Ret Try.prog Γ 57 [wdV w, .int .i64 3] σ (.bool true) σ := by
  refine ret_of c57_ok rfl ?_
  simp (disch := omega) only [c57, wdV, go_sem, ↓if_pos, ne_eq, ↓reduceIte]
  refine SRun.boxR (wd_box w) ?_
  intro b2 hb2
  simp (disch := omega) only [go_sem, ↓if_pos, ne_eq, ↓reduceIte]
  refine SRun.allocR ?_
  intro b5 hb5
  simp (disch := omega) only [go_sem, ↓if_pos, ne_eq, ↓reduceIte]
  refine SRun.callR (within_ok 3 1 6) ⟨[], rfl, rfl⟩ rfl ?_
  simp (disch := omega) only [List.getD_cons_zero, List.getD_cons_succ, go_sem, ↓if_pos, ne_eq, ↓reduceIte]
  have n52 := (upd_none.1 hb5).1
  have g2 : upd (upd σ b2 (wdC w)) b5 [V.int .i64 0] b2 = some (wdC w) := by rw [upd_ne _ _ n52.symm, upd_same]
  simp (disch := omega) only [g2, go_sem, ↓if_pos, ne_eq, ↓reduceIte]
  refine SRun.callR (countWord_ok w (c := 0) d h (by omega) (by omega)) ⟨[], rfl, rfl⟩ rfl ?_
  simp (disch := omega) only [go_sem, ↓if_pos, ne_eq, ↓reduceIte]
  exact W_retC c57_ok rfl (Conv.drop _ fun d x hd => by
    have h2 := le_upd (cs := wdC w) hb2 _ _ hd
    exact le_upd hb5 _ _ h2) ⟨rfl, rfl⟩
theorem WordOK_ok {w : W3} {d : Nat} (h : okW w d) (hs : sizeW w ≤ 9) : Ret Try.prog Γ 17 [wdV w, .int .i64 3] σ (.bool true) σ := by
  refine ret_of c17_ok rfl ?_
  simp (disch := omega) only [c17, wdV, go_sem, ↓if_pos, ne_eq, ↓reduceIte]
  refine SRun.boxR (wd_box w) ?_
  intro b2 hb2
  simp (disch := omega) only [go_sem, ↓if_pos, ne_eq, ↓reduceIte]
  refine SRun.callR (isWord_ok h hs) ⟨[], rfl, rfl⟩ rfl ?_
  simp (disch := omega) only [go_sem, ↓if_pos, ne_eq, ↓reduceIte]
  exact W_retC c17_ok rfl (Conv.drop _ (le_upd hb2)) ⟨rfl, rfl⟩
/-- Values that words may have. -/
def envOK (env : List Int) : Prop := env.length = 4 ∧ ∀ n, n < 4 → 0 ≤ env.getD n 0 ∧ env.getD n 0 ≤ 7
theorem valW_in {env : List Int} (he : envOK env) : ∀ (w : W3) (d : Nat), okW w d → 0 ≤ valW env w ∧ valW env w ≤ 7 := by
  intro w
  induction w with
  | const n => intro d h; exact ⟨h.2.1, h.2.2⟩
  | var n => intro d h; exact he.2 _ (by have := h.2; omega)
  | op k a b iha ihb =>
    intro d h
    obtain ⟨h1, h2, h3, h4, h5⟩ := h
    rw [valW_op]
    exact (op_in (i := 0) ⟨h2, h3⟩ (iha _ h4) (ihb _ h5) (by omega)).2
set_option maxHeartbeats 1000000 in
theorem wordValue_ok {env : List Int} {ex : Bool} (he : envOK env) : ∀ (w : W3) (d : Nat) {Γ σ : St}, okW w d → Ret Try.prog Γ 61 [wdV w, .int .i64 3, .isl ex 1 (ints env)] σ (.int .i64 (valW env w)) σ := by
  have hel := he.1
  intro w
  induction w with
  | const n =>
    intro d Γ σ h
    obtain ⟨h1, h2, h3⟩ := h
    refine ret_of c61_ok rfl ?_
    simp (disch := omega) only [c61, wdV, wdC, go_sem, ↓if_pos, ne_eq, ↓reduceIte]
    refine SRun.boxR (by simp [ev, look, V.cells, V.one]) ?_
    intro b2 hb2
    simp (disch := omega) only [go_sem, ↓if_pos, ne_eq, ↓reduceIte]
    exact W_retC c61_ok rfl (Conv.drop _ (le_upd hb2)) ⟨rfl, rfl⟩
  | var n =>
    intro d Γ σ h
    obtain ⟨h1, h2, h3⟩ := h
    refine ret_of c61_ok rfl ?_
    simp (disch := omega) only [c61, wdV, wdC, go_sem, ↓if_pos, ne_eq, ↓reduceIte]
    refine SRun.boxR (by simp [ev, look, V.cells, V.one]) ?_
    intro b2 hb2
    simp (disch := omega) only [go_sem, ↓if_pos, ne_eq, ↓reduceIte]
    exact W_retC c61_ok rfl (Conv.drop _ (le_upd hb2)) ⟨rfl, rfl⟩
  | op k a b iha ihb =>
    intro d Γ σ h
    obtain ⟨h1, h2, h3, h4, h5⟩ := h
    have va := valW_in he a _ h4
    have vb := valW_in he b _ h5
    have hA := fun Γ σ => iha _ (Γ := Γ) (σ := σ) h4
    have hB := fun Γ σ => ihb _ (Γ := Γ) (σ := σ) h5
    rw [valW_op]
    generalize valW env a = x at *
    generalize valW env b = y at *
    have hkk : k = 3 ∨ k = 4 ∨ k = 5 := by omega
    refine ret_of c61_ok rfl ?_
    simp (disch := omega) only [c61, wdV, wdC, go_sem, ↓if_pos, ne_eq, ↓reduceIte]
    refine SRun.boxR (by simp [ev, look, V.cells, V.one]) ?_
    intro b2 hb2
    rcases hkk with rfl | rfl | rfl
    all_goals
      simp (disch := omega) only [go_sem, ↓if_pos, ne_eq, ↓reduceIte]
      refine W_drawW ?_
      refine DRun.mixE rfl ?_
      simp (disch := omega) only [go_sem, ↓if_pos, ne_eq, ↓reduceIte]
      refine DS.callB (hA _ _) ⟨[], rfl, rfl⟩ rfl rfl ?_
      simp (disch := omega) only [go_sem, ↓if_pos, ne_eq, ↓reduceIte]
      refine DRun.callQ (hB _ _) ⟨[], rfl, rfl⟩ ?_
      rintro r s ⟨rfl, hs⟩
      obtain rfl := hs.symm
      simp (disch := omega) only [go_sem, ↓if_pos, ne_eq, ↓reduceIte]
      refine W_retC c61_ok rfl (Conv.drop _ (le_upd hb2)) ⟨?_, rfl⟩
      try simp only [look, ev, V.bool.injEq, V.int.injEq, V.str.injEq, V.tup.injEq, V.agg.injEq, V.isl.injEq, List.cons.injEq, true_and, and_true, opV, Nat.reduceEqDiff, Nat.reduceAdd, Nat.reduceSub, Nat.reduceMul, Nat.reducePow, Nat.reduceDiv, Nat.reduceMod, Int.reduceToNat, Nat.reduceLeDiff, Nat.reduceLT, Int.reduceEq, Int.reduceLT, Int.reduceLE, Int.reduceGT, Int.reduceGE, Int.reduceNeg, Int.reduceSub, Int.reduceAdd, Int.reduceMul, Int.reducePow, ne_eq, reduceCtorEq, ↓reduceIte]
      try (first | omega | (rw [show IntKind.i64.wrap (IntKind.i64.wrap (1 * 2 ^ min 3 64) - 1) = 7 by decide]; exact and7 (by omega) (by omega)))
end Go.Proofs.Ytlidjjjpjndneaa.Lg
