/- Words: values and bits, as they are asked. -/
import Derived.Test.YtlidjjjpjndneaaVf
set_option linter.unusedSimpArgs false
set_option linter.unusedVariables false
namespace Go.Proofs.Ytlidjjjpjndneaa.Lg
open Go
attribute [local irreducible] SRun DS DRun
variable {Γ : St} {σ σ0 : St}
set_option maxHeartbeats 1000000 in
theorem l05Value_ok {env : List Int} {ex : Bool} (he : envOK env) : ∀ (w : W3) (d : Nat) {Γ σ : St}, okW w d → Ret Try.prog Γ 64 [wdV w, .int .i64 3, .isl ex 1 (ints env)] σ (.int .i64 (valW env w)) σ := by
  have hel := he.1
  intro w
  induction w with
  | const n =>
    intro d Γ σ h
    obtain ⟨h1, h2, h3⟩ := h
    refine ret_of c64_ok rfl ?_
    simp (disch := omega) only [c64, wdV, wdC, go_sem, ↓if_pos, ne_eq, ↓reduceIte]
    refine SRun.boxR (by simp [ev, look, V.cells, V.one]) ?_
    intro b2 hb2
    simp (disch := omega) only [go_sem, ↓if_pos, ne_eq, ↓reduceIte]
    exact W_retC c64_ok rfl (Conv.drop _ (le_upd hb2)) ⟨rfl, rfl⟩
  | var n =>
    intro d Γ σ h
    obtain ⟨h1, h2, h3⟩ := h
    refine ret_of c64_ok rfl ?_
    simp (disch := omega) only [c64, wdV, wdC, go_sem, ↓if_pos, ne_eq, ↓reduceIte]
    refine SRun.boxR (by simp [ev, look, V.cells, V.one]) ?_
    intro b2 hb2
    simp (disch := omega) only [go_sem, ↓if_pos, ne_eq, ↓reduceIte]
    exact W_retC c64_ok rfl (Conv.drop _ (le_upd hb2)) ⟨rfl, rfl⟩
  | op k a b iha ihb =>
    intro d Γ σ h
    obtain ⟨h1, h2, h3, h4, h5⟩ := h
    have va := valW_in he a _ h4
    have vb := valW_in he b _ h5
    have hA := fun Γ σ => iha _ (Γ := Γ) (σ := σ) h4
    have hB := fun Γ σ => ihb _ (Γ := Γ) (σ := σ) h5
    rw [valW_op]
    generalize valW env a = x at *
    generalize valW env b = y at *
    have hkk : k = 3 ∨ k = 4 ∨ k = 5 := by omega
    have h8 : IntKind.i64.wrap (1 * 2 ^ min 3 64) = 8 := by decide
    have hm : (x + y).tmod 8 = (x + y) % 8 := Int.tmod_eq_emod_of_nonneg (by omega)
    refine ret_of c64_ok rfl ?_
    simp (disch := omega) only [c64, wdV, wdC, go_sem, ↓if_pos, ne_eq, ↓reduceIte]
    refine SRun.boxR (by simp [ev, look, V.cells, V.one]) ?_
    intro b2 hb2
    rcases hkk with rfl | rfl | rfl
    all_goals
      simp (disch := omega) only [go_sem, ↓if_pos, ne_eq, ↓reduceIte]
      refine SRun.callR (hA _ _) ⟨[], rfl, rfl⟩ rfl ?_
      simp (disch := omega) only [go_sem, ↓if_pos, ne_eq, ↓reduceIte]
      refine SRun.callR (hB _ _) ⟨[], rfl, rfl⟩ rfl ?_
      simp (disch := omega) only [h8, hm, go_sem, ↓if_pos, ne_eq, ↓reduceIte]
      refine W_retC c64_ok rfl (Conv.drop _ (le_upd hb2)) ⟨?_, rfl⟩
      try simp only [look, ev, V.bool.injEq, V.int.injEq, V.str.injEq, V.tup.injEq, V.agg.injEq, V.isl.injEq, List.cons.injEq, true_and, and_true, opV, Nat.reduceEqDiff, Nat.reduceAdd, Nat.reduceSub, Nat.reduceMul, Nat.reducePow, Nat.reduceDiv, Nat.reduceMod, Int.reduceToNat, Nat.reduceLeDiff, Nat.reduceLT, Int.reduceEq, Int.reduceLT, Int.reduceLE, Int.reduceGT, Int.reduceGE, Int.reduceNeg, Int.reduceSub, Int.reduceAdd, Int.reduceMul, Int.reducePow, ne_eq, reduceCtorEq, ↓reduceIte]
      try omega
theorem WordValue1_ok {x : Int} {b : Nat} (hb : σ b = some [.int .i64 3]) (hx : 0 ≤ x ∧ x ≤ 7) : Ret Try.prog Γ 59 [.int .i64 x, .ptr b 0] σ (.bool false) σ := by
  have hbb : (decide (0 ≤ x) && decide (x ≤ 7)) = true := by simp; omega
  refine ret_of c59_ok rfl ?_
  simp (disch := omega) only [c59, hb, go_sem, ↓if_pos, ne_eq, ↓reduceIte]
  refine SRun.callR (within_ok x 0 7) ⟨[], rfl, rfl⟩ rfl ?_
  simp (disch := omega) only [List.getD_cons_zero, List.getD_cons_succ, go_sem, ↓if_pos, ne_eq, ↓reduceIte]
  simp (disch := omega) only [hbb, go_sem, ↓if_pos, ne_eq, ↓reduceIte]
  exact W_retR c59_ok rfl ⟨rfl, rfl⟩
theorem env_mem {env : List Int} (he : envOK env) : ∀ x ∈ env, 0 ≤ x ∧ x ≤ 7 := by
  intro x hx
  obtain ⟨i, hi, rfl⟩ := List.getElem_of_mem hx
  have := he.2 i (by have := he.1; omega)
  simpa [List.getD, hi] using this
theorem WordValue_ok {w : W3} {d : Nat} {env : List Int} {ex : Bool} (h : okW w d) (hs : sizeW w ≤ 9) (he : envOK env) : Ret Try.prog Γ 13 [wdV w, .int .i64 3, .isl ex 1 (ints env)] σ (.tup [.int .i64 (valW env w), .int .i64 0]) σ := by
  have hel := he.1
  have ht : (12 : Int).tdiv 3 = 4 := rfl
  have h0 : decide ((env.length : Int) > 4096) = false := decide_eq_false (by omega)
  have h4 : (decide ¬ (env.length : Int) = 4) = false := decide_eq_false (by omega)
  refine ret_of c13_ok rfl ?_
  simp (disch := omega) only [c13, wdV, go_sem, ↓if_pos, ne_eq, ↓reduceIte]
  refine SRun.boxR (wd_box w) ?_
  intro b3 hb3
  simp (disch := omega) only [go_sem, ↓if_pos, ne_eq, ↓reduceIte]
  refine SRun.boxR (by simp [ev, look, V.cells, V.one]) ?_
  intro b4 hb4
  have n43 := (upd_none.1 hb4).1
  simp (disch := omega) only [go_sem, ↓if_pos, ne_eq, ↓reduceIte]
  have g3 : upd (upd σ b3 (wdC w)) b4 [V.int .i64 3] b3 = some (wdC w) := by rw [upd_ne _ _ n43.symm, upd_same]
  have g4 := upd_same (upd σ b3 (wdC w)) b4 [V.int .i64 3]
  have hσ : ∀ d x, σ d = some x → upd (upd σ b3 (wdC w)) b4 [V.int .i64 3] d = some x := fun d x h => le_upd hb4 _ _ (le_upd hb3 _ _ h)
  generalize upd (upd σ b3 (wdC w)) b4 [V.int .i64 3] = s1 at *
  simp (disch := omega) only [h0, g3, g4, go_sem, ↓if_pos, ne_eq, ↓reduceIte]
  refine SRun.callR (isWord_ok h hs) ⟨[], rfl, rfl⟩ rfl ?_
  simp (disch := omega) only [g4, ht, h4, go_sem, ↓if_pos, ne_eq, ↓reduceIte]
  refine SRun.callR (containsInts_no (ex := ex) (xs := env) (F := 59) (caps := [.ptr b4 0]) (by omega) fun x hx => WordValue1_ok g4 (env_mem he x hx)) ⟨[], rfl, rfl⟩ rfl ?_
  simp (disch := omega) only [g3, g4, go_sem, ↓if_pos, ne_eq, ↓reduceIte]
  refine SRun.callR (wordValue_ok he w d h) ⟨[], rfl, rfl⟩ rfl ?_
  simp (disch := omega) only [go_sem, ↓if_pos, ne_eq, ↓reduceIte]
  exact W_retC c13_ok rfl (Conv.drop _ hσ) ⟨rfl, rfl⟩
theorem WordValues_ok {w : W3} {d : Nat} {env : List Int} {ex : Bool} (h : okW w d) (hs : sizeW w ≤ 9) (he : envOK env) : Ret Try.prog Γ 14 [wdV w, .int .i64 3, .isl ex 1 (ints env)] σ (.tup [.int .i64 (valW env w), .int .i64 0]) σ := by
  have hel := he.1
  have ht : (12 : Int).tdiv 3 = 4 := rfl
  have h0 : decide ((env.length : Int) > 4096) = false := decide_eq_false (by omega)
  have h4 : (decide ¬ (env.length : Int) = 4) = false := decide_eq_false (by omega)
  refine ret_of c14_ok rfl ?_
  simp (disch := omega) only [c14, wdV, go_sem, ↓if_pos, ne_eq, ↓reduceIte]
  refine SRun.boxR (wd_box w) ?_
  intro b3 hb3
  simp (disch := omega) only [h0, go_sem, ↓if_pos, ne_eq, ↓reduceIte]
  have g3 := upd_same σ b3 (wdC w)
  have hσ : ∀ d x, σ d = some x → upd σ b3 (wdC w) d = some x := fun d x h => le_upd hb3 _ _ h
  generalize upd σ b3 (wdC w) = s1 at *
  refine SRun.callR (WordOKs_ok h hs) ⟨[], rfl, rfl⟩ rfl ?_
  simp (disch := omega) only [ht, h4, go_sem, ↓if_pos, ne_eq, ↓reduceIte]
  refine W_loopC (α := Nat) (fun i => i ≤ env.length) (fun i => [(1, .int .i64 3), (2, .isl ex 1 (ints env)), (3, .ptr b3 0), (8, .int .i64 (i : Nat))]) (fun _ => s1) (fun i => env.length - i) 0 (by omega) (by simp (disch := omega) only [subT, Int.natCast_add, Int.cast_ofNat_Int, go_sem, ↓if_pos, ne_eq, ↓reduceIte] <;> (repeat' apply And.intro) <;> first | rfl | (congr 1; omega) | assumption) rfl ?_
  intro i hi ih
  simp (disch := omega) only [go_sem, ↓if_pos, ne_eq, ↓reduceIte]
  first | refine iteW_dec (fun hq => ?_) (fun hq => ?_) | refine iteW_of (fun hq => ?_) (fun hq => ?_)
  · have hx := env_mem he _ (getD_mem 0 (by omega : i < env.length))
    simp (disch := omega) only [go_sem, ↓if_pos, ne_eq, ↓reduceIte]
    generalize env.getD i 0 = x at *
    have hbb : (decide (0 ≤ x) && decide (x ≤ 7)) = true := by simp; omega
    refine SRun.callR (l01In_ok x 0 7) ⟨[], rfl, rfl⟩ rfl ?_
    simp (disch := omega) only [List.getD_cons_zero, List.getD_cons_succ, go_sem, ↓if_pos, ne_eq, ↓reduceIte]
    simp (disch := omega) only [hbb, go_sem, ↓if_pos, ne_eq, ↓reduceIte]
    exact ih (i + 1) _ _ (by omega) (by omega) (by simp (disch := omega) only [subT, Int.natCast_add, Int.cast_ofNat_Int, go_sem, ↓if_pos, ne_eq, ↓reduceIte] <;> (repeat' apply And.intro) <;> first | rfl | (congr 1; omega) | assumption) rfl
  · simp (disch := omega) only [g3, go_sem, ↓if_pos, ne_eq, ↓reduceIte]
    refine SRun.callR (l05Value_ok he w d h) ⟨[], rfl, rfl⟩ rfl ?_
    simp (disch := omega) only [go_sem, ↓if_pos, ne_eq, ↓reduceIte]
    exact W_retC c14_ok rfl (Conv.drop _ hσ) ⟨rfl, rfl⟩
theorem areExs1_ok {e : Ex} (hsz : sizeE e ≤ 1000000) : Ret Try.prog Γ 198 [exV e] σ (.bool (!okE e)) σ := by
  refine ret_of c198_ok rfl ?_
  simp (disch := omega) only [c198, go_sem, ↓if_pos, ne_eq, ↓reduceIte]
  refine SRun.boxR (by show ∀ c ∈ (exV e).cells, _; rw [cells_exV]; exact exC_one e) ?_
  intro b1 hb1
  simp (disch := omega) only [go_sem, ↓if_pos, ne_eq, ↓reduceIte]
  refine SRun.callR (isEx_ok (e := e) hsz) ⟨[], rfl, rfl⟩ rfl ?_
  simp (disch := omega) only [List.getD_cons_zero, List.getD_cons_succ, go_sem, ↓if_pos, ne_eq, ↓reduceIte]
  exact W_retC c198_ok rfl (Conv.drop _ (le_upd hb1)) ⟨rfl, rfl⟩
theorem countL_all {ks : List Ex} {c : Int} : countL (fun e c => (okE e, c)) ks c = (ks.all okE, c) := by
  induction ks with
  | nil => rfl
  | cons e r ih =>
    simp only [countL, List.all_cons, ih]
    cases okE e <;> rfl
theorem areExs_ok {ex : Bool} {ks : List Ex} (hl : ks.length ≤ 1000000) (hsz : ∀ e ∈ ks, sizeE e ≤ 1000000) : Ret Try.prog Γ 144 [.isl ex 3 (exsV ks)] σ (.bool (ks.all okE)) σ := by
  have hc := containsFuncE_ok (Γ := Γ) (ex := ex) (ks := ks) (F := 198) (caps := []) (s := fun _ => σ) (g := fun e c => (okE e, c)) (c0 := 0) hl (fun e c h0 h1 => ⟨by simp, by simp only; omega, fun _ => by simp only; omega⟩) (by omega) (by omega) (fun e he c _ _ => areExs1_ok (hsz e he))
  rw [countL_all] at hc
  dsimp only at hc
  refine ret_of c144_ok rfl ?_
  simp (disch := omega) only [c144, go_sem, ↓if_pos, ne_eq, ↓reduceIte]
  refine SRun.callR hc ⟨[], rfl, rfl⟩ rfl ?_
  simp (disch := omega) only [go_sem, ↓if_pos, ne_eq, ↓reduceIte]
  exact W_retR c144_ok rfl ⟨by simp [look], rfl⟩
end Go.Proofs.Ytlidjjjpjndneaa.Lg
