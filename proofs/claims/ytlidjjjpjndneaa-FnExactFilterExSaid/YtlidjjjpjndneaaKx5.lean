/- What is told of the functions that are reached, as far as it is asked here. -/
import Derived.Test.YtlidjjjpjndneaaKx4
import Derived.KernelRfl
set_option linter.unusedSimpArgs false
set_option linter.unusedVariables false
namespace Go.Proofs.Ytlidjjjpjndneaa.Lg
open Go
section
attribute [local irreducible] SRun DS DRun
variable {Γ : St} {σ σ0 : St}
/-- What is left, of one that is not too deep. -/
theorem l04LeftG_ok : ∀ e, ∀ {Γ σ : St} {l d : Int}, 0 ≤ d → d + depthE e ≤ 41 → 0 ≤ l → l ≤ 1000000 → sizeE e ≤ 1000000 → ACalls Try.prog Γ 153 [exV e, .int .i64 l, .int .i64 d] σ fun r s => ∃ m : Int, r = .int .i64 m ∧ s = σ ∧ m ≤ 1000000 ∧ -1000000 ≤ m ∧ ((sizeE e : Int) ≤ l → m = l - sizeE e) ∧ (l < sizeE e → m < 0) := by
 refine Ex.ind fun k n ks ih Γ σ l d hd0 hd hl hl1 hsz => ?_
 have hlen := sizeL_len ks
 simp only [sizeE, depthE] at hd hsz
 refine acalls_W c153_ok rfl ?_
 simp (disch := omega) only [c153, exV_mk, go_sem]
 refine SRun.boxR (by simp [ev, look, V.cells, V.one]) ?_
 intro b3 hb3
 have g3 : upd σ b3 [.int .i64 k, .int .i64 n, .isl false 3 (exsV ks)] b3 = some [.int .i64 k, .int .i64 n, .isl false 3 (exsV ks)] := upd_same _ _ _
 have hle : ∀ d x, σ d = some x → upd σ b3 [.int .i64 k, .int .i64 n, .isl false 3 (exsV ks)] d = some x := le_upd hb3
 simp (disch := omega) only [g3, exC_mk, go_sem]
 refine W_loopC (α := Nat × Int) (fun p => p.1 ≤ ks.length ∧ p.2 ≤ 1000000 ∧ -1000000 ≤ p.2 ∧ ((0 ≤ p.2 ∧ p.2 - sizeL (ks.drop p.1) = l - 1 - sizeL ks) ∨ (p.2 < 0 ∧ l < 1 + sizeL ks))) (fun p => [(3, .ptr b3 0), (1, .int .i64 p.2), (2, .int .i64 d), (7, .int .i64 (p.1 : Nat))]) (fun _ => upd σ b3 [.int .i64 k, .int .i64 n, .isl false 3 (exsV ks)]) (fun p => ks.length - p.1) (0, l - 1) ⟨by simp, by simp only; omega, by simp only; omega, by dsimp only; rw [List.drop_zero]; omega⟩ (by simp (disch := omega) only [subT, Int.natCast_add, Int.cast_ofNat_Int, go_sem] <;> (repeat' apply And.intro) <;> first | rfl | (congr 1; omega) | assumption) rfl ?_
 rintro ⟨i, a⟩ ⟨hi, ha1, ha2, hor⟩ ih2
 dsimp only at hi ha1 ha2 hor
 simp (disch := omega) only [g3, exC_mk, go_sem]
 first | refine guardW_dec (fun hq => ?_) (fun hq => ?_) | refine guardW_by (fun hq => ?_) (fun hq => ?_)
 ·have he := getD_mem default (by omega : i < ks.length)
  have hdp := depthL_mem he
  have hsm := sizeL_mem he
  by_cases ha : 0 ≤ a
  ·have ha0 : decide (a ≥ 0) = true := decide_eq_true (by omega)
   rw [drop_cons default (by omega : i < ks.length)] at hor
   simp only [sizeL] at hor
   simp (disch := omega) only [g3, exC_mk, ha0, go_sem]
   refine SRun.callQ (ih _ he (by omega) (by omega) ha (by omega) (by omega)) ⟨[], rfl, rfl⟩ rfl ?_
   rintro r s ⟨m, rfl, hs, hm1, hm2, hm3, hm4⟩
   obtain rfl := hs.symm
   simp (disch := omega) only [go_sem]
   exact ih2 (i + 1, m) _ _ ⟨by simp only; omega, by simp only; omega, by simp only; omega, by simp only; omega⟩ (by simp only; omega) (by simp (disch := omega) only [subT, Int.natCast_add, Int.cast_ofNat_Int, go_sem] <;> (repeat' apply And.intro) <;> first | rfl | (congr 1; omega) | assumption) rfl
  ·have ha0 : decide (a ≥ 0) = false := decide_eq_false (by omega)
   simp (disch := omega) only [ha0, go_sem]
   exact W_retC c153_ok (r := .int .i64 a) (r' := .int .i64 a) (σ' := σ) rfl (Conv.drop _ hle) ⟨a, rfl, rfl, ha1, ha2, by simp only [sizeE]; omega, by simp only [sizeE]; omega⟩
 ·obtain rfl : i = ks.length := by omega
  rw [List.drop_length] at hor
  simp only [sizeL] at hor
  simp (disch := omega) only [go_sem]
  exact W_retC c153_ok (r := .int .i64 a) (r' := .int .i64 a) (σ' := σ) rfl (Conv.drop _ hle) ⟨a, rfl, rfl, ha1, ha2, by simp only [sizeE]; omega, by simp only [sizeE]; omega⟩
theorem ExOKsG_ok {e : Ex} (hr : rightE e = true) (hd : depthE e ≤ 40) (hsz : sizeE e ≤ 1000000) : Ret Try.prog Γ 75 [exV e] σ (.bool (okE e)) σ := by
 have hA : okE e = decide (sizeE e ≤ 400) := by simp [okE, hr, hd]
 rw [hA]
 refine ret_of c75_ok rfl ?_
 simp (disch := omega) only [c75, go_sem]
 refine SRun.boxR (by show ∀ c ∈ (exV e).cells, _; rw [cells_exV]; exact exC_one e) ?_
 intro b1 hb1
 simp (disch := omega) only [go_sem]
 refine SRun.callQ (l04LeftG_ok e (l := 400) (d := 1) (by omega) (by omega) (by omega) (by omega) hsz) ⟨[], rfl, rfl⟩ rfl ?_
 rintro r s ⟨m, rfl, hs, hm1, hm2, hm3, hm4⟩
 obtain rfl := hs.symm
 by_cases h4 : sizeE e ≤ 400
 ·have hm : m = 400 - sizeE e := hm3 (by omega)
  have hd : decide (m ≥ 0) = true := decide_eq_true (by omega)
  simp (disch := omega) only [hd, go_sem]
  refine SRun.callR (l04Right_ok e hr (by omega)) ⟨[], rfl, rfl⟩ rfl ?_
  simp (disch := omega) only [go_sem]
  exact W_retC c75_ok rfl (Conv.drop _ (le_upd hb1)) ⟨by simp only [look, ev, V.bool.injEq, V.int.injEq, V.str.injEq, V.tup.injEq, V.agg.injEq, V.isl.injEq, List.cons.injEq, true_and, and_true, Nat.reduceEqDiff, Nat.reduceAdd, Nat.reduceSub, Nat.reduceMul, Nat.reducePow, Nat.reduceDiv, Nat.reduceMod, Int.reduceToNat, Nat.reduceLeDiff, Nat.reduceLT, Int.reduceEq, Int.reduceLT, Int.reduceLE, Int.reduceGT, Int.reduceGE, Int.reduceNeg, Int.reduceSub, Int.reduceAdd, Int.reduceMul, Int.reducePow, ne_eq, reduceCtorEq, ↓reduceIte]; exact (decide_eq_true h4).symm, rfl⟩
 ·have hm : m < 0 := hm4 (by omega)
  have hd : decide (m ≥ 0) = false := decide_eq_false (by omega)
  simp (disch := omega) only [hd, go_sem]
  exact W_retC c75_ok rfl (Conv.drop _ (le_upd hb1)) ⟨by simp only [look, ev, V.bool.injEq, V.int.injEq, V.str.injEq, V.tup.injEq, V.agg.injEq, V.isl.injEq, List.cons.injEq, true_and, and_true, Nat.reduceEqDiff, Nat.reduceAdd, Nat.reduceSub, Nat.reduceMul, Nat.reducePow, Nat.reduceDiv, Nat.reduceMod, Int.reduceToNat, Nat.reduceLeDiff, Nat.reduceLT, Int.reduceEq, Int.reduceLT, Int.reduceLE, Int.reduceGT, Int.reduceGE, Int.reduceNeg, Int.reduceSub, Int.reduceAdd, Int.reduceMul, Int.reducePow, ne_eq, reduceCtorEq, ↓reduceIte]; exact (decide_eq_false h4).symm, rfl⟩
end
section
attribute [local irreducible] SRun DS DRun
variable {Γ : St} {σ σ0 : St}
theorem l09Number_ok {n : Int} : Ret Try.prog Γ 186 [.int .i64 n] σ (.isl false 3 (exsV (bits4 n))) σ := by
 refine ret_of c186_ok rfl ?_
 simp (disch := omega) only [c186, go_sem]
 refine W_loopC (α := Nat × V × St) (fun p => p.1 ≤ 4 ∧ OwnL σ 3 (exsV ((List.range p.1).map fun i => constE (bitI n i))) p.2.1 p.2.2) (fun p => [(0, .int .i64 n), (3, p.2.1), (4, .int .i64 (p.1 : Nat))]) (fun p => p.2.2) (fun p => 4 - p.1) (0, .isl true 3 [], σ) ⟨by simp, OwnL.nil _ _⟩ (by simp (disch := omega) only [subT, Int.natCast_add, Int.cast_ofNat_Int, go_sem] <;> (repeat' apply And.intro) <;> first | rfl | (congr 1; omega) | assumption) rfl ?_
 rintro ⟨i, t, s⟩ ⟨hi, ho⟩ ih
 dsimp only at hi ho
 simp (disch := omega) only [go_sem]
 first | refine iteW_dec (fun hq => ?_) (fun hq => ?_) | refine iteW_of (fun hq => ?_) (fun hq => ?_)
 ·have w2 := wrapU64 (a := (i : Int)) (by omega) (by omega)
  simp (disch := omega) only [w2, go_sem]
  refine SRun.callR (l05Const_ok (n := bitI n i)) ⟨[], rfl, rfl⟩ rfl ?_
  simp (disch := omega) only [List.getD_cons_zero, List.getD_cons_succ, go_sem]
  refine SRun.appL ho rfl (exs1_ok _) (by rw [exsV_len, List.length_map, List.length_range]; simp only [List.length_singleton]; omega) ?_
  intro t2 s2 ho2
  rw [exs_app, show (List.range i).map (fun i => constE (bitI n i)) ++ [constE (bitI n i)] = (List.range (i + 1)).map (fun i => constE (bitI n i)) by simp [List.range_succ]] at ho2
  simp (disch := omega) only [go_sem]
  exact ih (i + 1, t2, s2) _ _ ⟨by simp only; omega, ho2⟩ (by simp only; omega) (by simp (disch := omega) only [subT, Int.natCast_add, Int.cast_ofNat_Int, go_sem] <;> (repeat' apply And.intro) <;> first | rfl | (congr 1; omega) | assumption) rfl
 ·obtain rfl : i = 4 := by omega
  simp (disch := omega) only [go_sem]
  exact W_retC c186_ok (r := t) (r' := .isl false 3 (exsV (bits4 n))) (σ' := σ) rfl ho.conv ⟨rfl, rfl⟩
theorem sizeB_1 (n : Int) : sizeB port4 (bits4 n) := ⟨fun e he => by have := port4_size e he; omega, fun e he => by have := bits4_size n e he; omega⟩
theorem sizeB_2 (n : Int) : sizeB (bits4 n) port4 := ⟨fun e he => by have := bits4_size n e he; omega, fun e he => by have := port4_size e he; omega⟩
set_option maxHeartbeats 2000000 in
theorem l09Filter_ok {n : Net} {a t : Int} (hl : n.filters.length ≤ 6) : Ret Try.prog Γ 114 [netV n, .int .i64 a, .int .i64 t] σ (exV (filE a t n.filters)) σ := by
 have e5 : (netC n)[5]? = some (.isl false 4 (filsV n.filters)) := rfl
 refine ret_of c114_ok rfl ?_
 simp (disch := omega) only [c114, netV, go_sem]
 refine SRun.boxR (net_one n) ?_
 intro b3 hb3
 simp (disch := omega) only [go_sem]
 refine SRun.allocR ?_
 intro b6 hb6
 have n63 := (upd_none.1 hb6).1
 have g3 : upd (upd σ b3 (netC n)) b6 [.int .i64 0, .int .i64 0, .isl true 0 []] b3 = some (netC n) := by rw [upd_ne _ _ n63.symm, upd_same]
 have g6 := upd_same (upd σ b3 (netC n)) b6 [.int .i64 0, .int .i64 0, .isl true 0 []]
 have hσ : ∀ d x, σ d = some x → d ≠ b6 ∧ upd (upd σ b3 (netC n)) b6 [.int .i64 0, .int .i64 0, .isl true 0 []] d = some x := fun d x h => ⟨fun e => by (subst e; rw [(upd_none.1 hb6).2] at h; cases h), le_upd hb6 _ _ (le_upd hb3 _ _ h)⟩
 simp (disch := omega) only [go_sem]
 generalize upd (upd σ b3 (netC n)) b6 [.int .i64 0, .int .i64 0, .isl true 0 []] = s1 at *
 refine W_loopC (α := Nat × V × St) (fun p => p.1 ≤ 4 ∧ RowF s1 3 (exsV ((List.range p.1).map fun i => varE (i : Nat))) p.2.1 p.2.2) (fun p => [(1, .int .i64 a), (2, .int .i64 t), (3, .ptr b3 0), (6, .ptr b6 0), (7, p.2.1), (8, .int .i64 (p.1 : Nat))]) (fun p => p.2.2) (fun p => 4 - p.1) (0, .isl true 3 [], s1) ⟨by simp, RowF.nil⟩ (by simp (disch := omega) only [subT, Int.natCast_add, Int.cast_ofNat_Int, go_sem] <;> (repeat' apply And.intro) <;> first | rfl | (congr 1; omega) | assumption) rfl ?_
 rintro ⟨i, tt, s⟩ ⟨hi, ho⟩ ih
 dsimp only at hi ho
 simp (disch := omega) only [go_sem]
 first | refine iteW_dec (fun hq => ?_) (fun hq => ?_) | refine iteW_of (fun hq => ?_) (fun hq => ?_)
 ·obtain ⟨ys, hy1, hy2, hy3⟩ := ho
  rw [exsV_len, List.length_map, List.length_range] at hy2
  simp (disch := omega) only [go_sem]
  refine SRun.appL hy1 rfl (rawVar_ok _) (by simp only [List.length_singleton]; omega) ?_
  intro t2 s2 ho2
  have hrow : RowF s1 3 (exsV ((List.range (i + 1)).map fun i => varE (i : Nat))) t2 s2 := by
   refine ⟨_, ho2, by simp [exsV_len, hy2], fun σ σ' => ?_⟩
   rw [flat_app1, show (List.range (i + 1)).map (fun i => varE (i : Nat)) = (List.range i).map (fun i => varE (i : Nat)) ++ [varE (i : Nat)] by simp [List.range_succ], ← exs_app, flat_app1]
   exact frzL_app (hy3 _ _) (rawVar_frz _)
  simp (disch := omega) only [go_sem]
  exact ih (i + 1, t2, s2) _ _ ⟨by simp only; omega, hrow⟩ (by simp only; omega) (by simp (disch := omega) only [subT, Int.natCast_add, Int.cast_ofNat_Int, go_sem] <;> (repeat' apply And.intro) <;> first | rfl | (congr 1; omega) | assumption) rfl
 ·have hi4 : i = 4 := by omega
  subst hi4
  have hfr : Frz s s1 tt (.isl false 3 (exsV port4)) := ho.frz (exsV_ok _) (fun _ _ => rfl) (fun _ h => h)
  obtain ⟨ys, hy1, hy2, hy3⟩ := ho
  clear ih hq
  simp (disch := omega) only [go_sem]
  refine SRun.freeze (T' := [(1, .int .i64 a), (2, .int .i64 t), (3, .ptr b3 0), (6, .ptr b6 0), (7, .isl false 3 (exsV port4))]) (σ' := s1) hy1.le ⟨.refl _, .refl _, .refl _, .refl _, hfr, trivial⟩ ?_
  clear hy1 hy2 hy3 hfr
  refine SRun.callR (l05Const_ok (n := 0)) ⟨[], rfl, rfl⟩ rfl ?_
  simp (disch := omega) only [List.getD_cons_zero, List.getD_cons_succ, go_sem]
  refine SRun.allocR ?_
  intro b9 hb9
  have n93 : b9 ≠ b3 := fun e => by subst e; rw [g3] at hb9; cases hb9
  have n96 : b9 ≠ b6 := fun e => by subst e; rw [g6] at hb9; cases hb9
  have h3 := le_upd (cs := exC (constE 0)) hb9 _ _ g3
  have h6 := le_upd (cs := exC (constE 0)) hb9 _ _ g6
  have h9 := upd_same s1 b9 (exC (constE 0))
  have hσ2 : ∀ d x, σ d = some x → d ≠ b6 ∧ d ≠ b9 ∧ upd s1 b9 (exC (constE 0)) d = some x := fun d x h => ⟨(hσ d x h).1, fun e => by (subst e; rw [(hσ _ _ h).2] at hb9; cases hb9), le_upd hb9 _ _ (hσ d x h).2⟩
  simp (disch := omega) only [go_sem]
  generalize upd s1 b9 (exC (constE 0)) = s2 at *
  have hf0 : filE a t (n.filters.take 0) = constE 0 := rfl
  rw [← hf0] at h9
  refine W_loopC (α := Nat × St) (fun p => p.1 ≤ n.filters.length ∧ p.2 b3 = some (netC n) ∧ p.2 b6 = some [.int .i64 0, .int .i64 0, .isl true 0 []] ∧ p.2 b9 = some (exC (filE a t (n.filters.take p.1))) ∧ ∀ d x, σ d = some x → p.2 d = some x) (fun p => [(1, .int .i64 a), (2, .int .i64 t), (3, .ptr b3 0), (6, .ptr b6 0), (7, .isl false 3 (exsV port4)), (9, .ptr b9 0), (10, .int .i64 (p.1 : Nat))]) (fun p => p.2) (fun p => n.filters.length - p.1) (0, s2) ⟨by omega, h3, h6, h9, fun d x h => (hσ2 d x h).2.2⟩ (by simp (disch := omega) only [subT, Int.natCast_add, Int.cast_ofNat_Int, go_sem] <;> (repeat' apply And.intro) <;> first | rfl | (congr 1; omega) | assumption) rfl ?_
  clear h3 h6 h9 hf0
  rintro ⟨k, s3⟩ ⟨hk, h3, h6, h9, hle⟩ ih
  dsimp only at hk h3 h6 h9 hle
  simp (disch := omega) only [h3, e5, go_sem]
  first | refine iteW_dec (fun hq => ?_) (fun hq => ?_) | refine iteW_of (fun hq => ?_) (fun hq => ?_)
  ·have hsucc := filE_succ (a := a) (t := t) (fs := n.filters) (i := k) (by omega)
   simp (disch := omega) only [h3, e5, go_sem]
   generalize n.filters.getD k default = x at *
   have hstep : stepE a t (filE a t (n.filters.take k)) x = bif decide (x.at_ = a) && decide (x.to = t) then nodeE 5 [filE a t (n.filters.take k), nodeE 4 [nodeE 3 [lessE port4 (bits4 x.low) 4], nodeE 3 [lessE (bits4 x.high) port4 4]]] else filE a t (n.filters.take k) := rfl
   rw [hstep] at hsucc
   generalize filE a t (n.filters.take k) = e at *
   refine SRun.allocR ?_
   intro b11 hb11
   have hfc : filC x = [.int .i64 x.at_, .int .i64 x.to, .int .i64 x.low, .int .i64 x.high] := rfl
   have k3 := le_upd (cs := filC x) hb11 _ _ h3
   have k6 := le_upd (cs := filC x) hb11 _ _ h6
   have k9 := le_upd (cs := filC x) hb11 _ _ h9
   have kσ : ∀ d y, σ d = some y → upd s3 b11 (filC x) d = some y := fun d y h => le_upd hb11 _ _ (hle d y h)
   have k11 := upd_same s3 b11 (filC x)
   rw [hfc] at k3 k6 k9 kσ k11
   generalize hp1 : decide (x.at_ = a) = p1 at *
   generalize hp2 : decide (x.to = t) = p2 at *
   cases p1 with
   | false =>
    cases p2
    all_goals
     simp (disch := omega) only [hfc, hp1, hp2, go_sem]
     exact ih (k + 1, upd s3 b11 [.int .i64 x.at_, .int .i64 x.to, .int .i64 x.low, .int .i64 x.high]) _ _ ⟨by simp only; omega, k3, k6, by dsimp only; rw [hsucc]; exact k9, kσ⟩ (by simp only; omega) (by simp (disch := omega) only [subT, Int.natCast_add, Int.cast_ofNat_Int, go_sem] <;> (repeat' apply And.intro) <;> first | rfl | (congr 1; omega) | assumption) rfl
   | true =>
   cases p2 with
   | false =>
    simp (disch := omega) only [hfc, hp1, hp2, go_sem]
    exact ih (k + 1, upd s3 b11 [.int .i64 x.at_, .int .i64 x.to, .int .i64 x.low, .int .i64 x.high]) _ _ ⟨by simp only; omega, k3, k6, by dsimp only; rw [hsucc]; exact k9, kσ⟩ (by simp only; omega) (by simp (disch := omega) only [subT, Int.natCast_add, Int.cast_ofNat_Int, go_sem] <;> (repeat' apply And.intro) <;> first | rfl | (congr 1; omega) | assumption) rfl
   | true =>
    simp (disch := omega) only [hfc, hp1, hp2, go_sem]
    generalize upd s3 b11 [.int .i64 x.at_, .int .i64 x.to, .int .i64 x.low, .int .i64 x.high] = s4 at *
    refine SRun.callR (l09Number_ok (n := x.low)) ⟨[], rfl, rfl⟩ rfl ?_
    simp (disch := omega) only [List.getD_cons_zero, List.getD_cons_succ, go_sem]
    refine SRun.callR (l05Less_ok (ea := false) (eb := false) (us := port4) (ws := bits4 x.low) (by decide) rfl (sizeB_1 _)) ⟨[], rfl, rfl⟩ rfl ?_
    simp (disch := omega) only [List.getD_cons_zero, List.getD_cons_succ, go_sem]
    rw [show port4.length = 4 from rfl]
    generalize lessE port4 (bits4 x.low) 4 = e1 at *
    refine SRun.callR (l05Ex_ok (k := 3) (ks := [e1]) (e := true)) ⟨[], rfl, rfl⟩ rfl ?_
    simp (disch := omega) only [List.getD_cons_zero, List.getD_cons_succ, go_sem]
    refine SRun.allocR ?_
    intro b12 hb12
    have m3 := le_upd (cs := exC (nodeE 3 [e1])) hb12 _ _ k3
    have m6 := le_upd (cs := exC (nodeE 3 [e1])) hb12 _ _ k6
    have m9 := le_upd (cs := exC (nodeE 3 [e1])) hb12 _ _ k9
    have m11 := le_upd (cs := exC (nodeE 3 [e1])) hb12 _ _ k11
    have m12 := upd_same s4 b12 (exC (nodeE 3 [e1]))
    have mσ : ∀ d y, σ d = some y → upd s4 b12 (exC (nodeE 3 [e1])) d = some y := fun d y h => le_upd hb12 _ _ (kσ d y h)
    simp (disch := omega) only [m11, k11, go_sem]
    generalize upd s4 b12 (exC (nodeE 3 [e1])) = s5 at *
    refine SRun.callR (l09Number_ok (n := x.high)) ⟨[], rfl, rfl⟩ rfl ?_
    simp (disch := omega) only [List.getD_cons_zero, List.getD_cons_succ, go_sem]
    refine SRun.callR (l05Less_ok (ea := false) (eb := false) (us := bits4 x.high) (ws := port4) (by simp [bits4]) rfl (sizeB_2 _)) ⟨[], rfl, rfl⟩ rfl ?_
    simp (disch := omega) only [List.getD_cons_zero, List.getD_cons_succ, go_sem]
    rw [show (bits4 x.high).length = 4 from rfl]
    generalize lessE (bits4 x.high) port4 4 = e2 at *
    refine SRun.callR (l05Ex_ok (k := 3) (ks := [e2]) (e := true)) ⟨[], rfl, rfl⟩ rfl ?_
    simp (disch := omega) only [List.getD_cons_zero, List.getD_cons_succ, go_sem]
    refine SRun.allocR ?_
    intro b13 hb13
    have q3 := le_upd (cs := exC (nodeE 3 [e2])) hb13 _ _ m3
    have q6 := le_upd (cs := exC (nodeE 3 [e2])) hb13 _ _ m6
    have q9 := le_upd (cs := exC (nodeE 3 [e2])) hb13 _ _ m9
    have q12 := le_upd (cs := exC (nodeE 3 [e2])) hb13 _ _ m12
    have q13 := upd_same s5 b13 (exC (nodeE 3 [e2]))
    have qσ : ∀ d y, σ d = some y → upd s5 b13 (exC (nodeE 3 [e2])) d = some y := fun d y h => le_upd hb13 _ _ (mσ d y h)
    simp (disch := omega) only [go_sem]
    generalize upd s5 b13 (exC (nodeE 3 [e2])) = s6 at *
    refine W_drawW ?_
    refine DRun.mixE rfl ?_
    simp (disch := omega) only [q9, q12, q13, go_sem]
    refine DS.callB (l05Ex_ok (k := 4) (ks := [nodeE 3 [e1], nodeE 3 [e2]]) (e := true)) ⟨[], rfl, rfl⟩ rfl rfl ?_
    simp (disch := omega) only [go_sem]
    refine DRun.callQ (l05Ex_ok (k := 5) (ks := [e, nodeE 4 [nodeE 3 [e1], nodeE 3 [e2]]]) (e := true)) ⟨[], rfl, rfl⟩ ?_
    rintro r s ⟨rfl, hs⟩
    obtain rfl := hs.symm
    simp (disch := omega) only [q9, go_sem]
    have n39 : b3 ≠ b9 := n93.symm
    have n69 : b6 ≠ b9 := n96.symm
    exact ih (k + 1, upd s6 b9 (exC (nodeE 5 [e, nodeE 4 [nodeE 3 [e1], nodeE 3 [e2]]]))) _ _ ⟨by simp only; omega, by dsimp only; rw [upd_ne _ _ n39]; exact q3, by dsimp only; rw [upd_ne _ _ n69]; exact q6, by dsimp only; rw [hsucc]; exact upd_same _ _ _, fun d y h => by dsimp only; rw [upd_ne _ _ (hσ2 d y h).2.1]; exact qσ _ _ h⟩ (by simp only; omega) (by simp (disch := omega) only [subT, Int.natCast_add, Int.cast_ofNat_Int, go_sem] <;> (repeat' apply And.intro) <;> first | rfl | (congr 1; omega) | assumption) rfl
  ·have hkl : k = n.filters.length := by omega
   rw [hkl, List.take_length] at h9
   generalize filE a t n.filters = e at *
   simp (disch := omega) only [h9, h6, go_sem]
   exact W_retC c114_ok (r := .agg (exC e)) (r' := exV e) (σ' := σ) (resV_cellA rfl (upd_same _ _ _) (exC_len e).symm) ⟨fun d x hd => by rw [upd_ne _ _ (hσ d x hd).1]; exact hle _ _ hd, by rw [agg_exC]; exact .refl _⟩ ⟨rfl, rfl⟩
end
section
attribute [local irreducible] SRun DS DRun
variable {Γ : St} {σ σ0 : St}
section
variable {us ws : List Ex} {S D : Nat}
theorem lessN_fine (hu : ∀ e ∈ us, Fine S D e) (hw : ∀ e ∈ ws, Fine S D e) : ∀ i, i ≤ us.length → i ≤ ws.length → Fine (1 + i * (6 + 4 * S)) (D + 2 + 2 * i) (lessE us ws i) := by
 intro i
 induction i with
 | zero => intro _ _; exact (Fine.const (by omega) (by omega)).mono (by omega) (by omega)
 | succ i ih =>
  intro h1 h2
  have hx := hu _ (getD_mem default (by omega : i < us.length))
  have hy := hw _ (getD_mem default (by omega : i < ws.length))
  have hl := ih (by omega) (by omega)
  have h1 := Fine.node2 (k := 5) (by simp) (Fine.node2 (k := 4) (by simp) hx.node1 hy) (Fine.node2 (k := 4) (by simp) (Fine.node2 (k := 6) (by simp) hx hy).node1 hl)
  refine h1.mono ?_ ?_
  ·rw [Nat.add_mul]; omega
  ·omega
end
theorem bitI_small4 : ((List.range 16).all fun x => (List.range 4).all fun i => decide (0 ≤ bitI (x : Int) i) && decide (bitI (x : Int) i ≤ 1)) = true := by kernel_rfl
theorem bitI_in4 {x : Int} {i : Nat} (h0 : 0 ≤ x) (h1 : x ≤ 15) (hi : i < 4) : 0 ≤ bitI x i ∧ bitI x i ≤ 1 := by
 have h := List.all_eq_true.1 bitI_small4 x.toNat (List.mem_range.2 (by omega))
 have h2 := List.all_eq_true.1 h i (List.mem_range.2 hi)
 rw [show ((x.toNat : Nat) : Int) = x by omega] at h2
 simpa using h2
theorem bits4_fine {n : Int} (h0 : 0 ≤ n) (h1 : n ≤ 15) : ∀ e ∈ bits4 n, Fine 1 1 e := by
 intro e he
 simp only [bits4, List.mem_map, List.mem_range] at he
 obtain ⟨i, hi, rfl⟩ := he
 have := bitI_in4 h0 h1 hi
 exact Fine.const this.1 this.2
theorem port4_fine : ∀ e ∈ port4, Fine 1 1 e := by
 intro e he
 simp only [port4, List.mem_map, List.mem_range] at he
 obtain ⟨i, hi, rfl⟩ := he
 exact Fine.var (by omega) (by omega)
/-- A filter's ports are right. -/
def FilOK (x : Fil) : Prop := 0 ≤ x.low ∧ x.low ≤ x.high ∧ x.high ≤ 15
theorem net_fils {n : Net} (h : netB n = true) : ∀ x ∈ n.filters, FilOK x := by
 intro x hx
 unfold netB at h
 simp only [Bool.and_eq_true] at h
 have hf := List.all_eq_true.1 h.1.1.1.2 x hx
 simp only [filOn, inB, Bool.and_eq_true, decide_eq_true_eq] at hf
 exact ⟨hf.1.2.1, hf.1.2.2, hf.2⟩
theorem step_fine {a t : Int} {x : Fil} {e : Ex} {S D : Nat} (hx : FilOK x) (he : Fine S D e) (hD : 13 ≤ D) : Fine (S + 90) (D + 1) (stepE a t e x) := by
 unfold stepE
 cases (decide (x.at_ = a) && decide (x.to = t)) with
 | false => exact he.mono (by omega) (by omega)
 | true =>
  have h1 := lessN_fine port4_fine (bits4_fine hx.1 (by have := hx.2; omega) : ∀ e ∈ bits4 x.low, Fine 1 1 e) 4 (by decide) (by simp [bits4])
  have h2 := lessN_fine (bits4_fine (by have := hx.1; have := hx.2; omega) hx.2.2 : ∀ e ∈ bits4 x.high, Fine 1 1 e) port4_fine 4 (by simp [bits4]) (by decide)
  have h3 := Fine.node2 (k := 5) (by simp) he (Fine.node2 (k := 4) (by simp) h1.node1 h2.node1)
  exact h3.mono (by omega) (by omega)
theorem filE_fine {a t : Int} : ∀ {fs : List Fil}, (∀ x ∈ fs, FilOK x) → Fine (1 + 90 * fs.length) (13 + fs.length) (filE a t fs) := by
 have : ∀ (fs : List Fil) (e : Ex) (S D : Nat), (∀ x ∈ fs, FilOK x) → Fine S D e → 13 ≤ D → Fine (S + 90 * fs.length) (D + fs.length) (fs.foldl (stepE a t) e) := by
  intro fs
  induction fs with
  | nil => intro e S D _ h _; exact h
  | cons x r ih =>
   intro e S D hx he hD
   have := ih (stepE a t e x) (S + 90) (D + 1) (fun y hy => hx y (by simp [hy])) (step_fine (hx x (by simp)) he hD) (by omega)
   simp only [List.foldl_cons, List.length_cons]
   exact this.mono (by omega) (by omega)
 intro fs hx
 exact this fs (constE 0) 1 13 hx ((Fine.const (by omega) (by omega)).mono (by omega) (by omega)) (by omega)
theorem FilterExs_ok {n : Net} {a t : Int} (hn : NetLen n) : Ret Try.prog Γ 44 [netV n, .int .i64 a, .int .i64 t] σ (fEx n a t) σ := by
 have hlen : (netC n).take 6 = netC n := rfl
 have hlen2 : (netC n).length = 6 := rfl
 have e0 : (netC n)[0]? = some (.isl false 1 (strsV n.routers)) := rfl
 have l1 := hn.routers
 have hdef : fEx n a t = (if !netB n then .tup [exV zeroE, .int .i64 1] else if !(routerB n.routers.length a && routerB n.routers.length t) then .tup [exV zeroE, .int .i64 5] else exA (filE a t n.filters)) := rfl
 have hbn : netB n = true → n.filters.length ≤ 6 := fun h => by
  unfold netB at h
  simp only [Bool.and_eq_true, decide_eq_true_eq] at h
  exact h.1.1.1.1.1.1.1.2
 have hfo : netB n = true → ∀ x ∈ n.filters, FilOK x := net_fils
 refine ret_of c44_ok rfl ?_
 simp (disch := omega) only [c44, netV, go_sem]
 refine SRun.boxR (net_one n) ?_
 intro b3 hb3
 simp (disch := omega) only [go_sem]
 refine SRun.allocR ?_
 intro b6 hb6
 have n63 := (upd_none.1 hb6).1
 have g3 : upd (upd σ b3 (netC n)) b6 [.int .i64 0, .int .i64 0, .isl true 0 []] b3 = some (netC n) := by rw [upd_ne _ _ n63.symm, upd_same]
 have g6 := upd_same (upd σ b3 (netC n)) b6 [.int .i64 0, .int .i64 0, .isl true 0 []]
 have hσ : ∀ d x, σ d = some x → d ≠ b6 ∧ upd (upd σ b3 (netC n)) b6 [.int .i64 0, .int .i64 0, .isl true 0 []] d = some x := fun d x h => ⟨fun e => by (subst e; rw [(upd_none.1 hb6).2] at h; cases h), le_upd hb6 _ _ (le_upd hb3 _ _ h)⟩
 simp (disch := omega) only [go_sem]
 generalize upd (upd σ b3 (netC n)) b6 [.int .i64 0, .int .i64 0, .isl true 0 []] = s1 at *
 simp (disch := omega) only [g3, hlen, hlen2, go_sem]
 refine SRun.callR (NetOK_ok hn) ⟨[], rfl, rfl⟩ rfl ?_
 have zero : ∀ (s : St) (c : Int), (∀ d x, σ d = some x → d ≠ b6 ∧ s d = some x) → Conv (upd s b6 [.int .i64 0, .int .i64 0, .isl true 0 []]) (.tup [.agg [.int .i64 0, .int .i64 0, .isl true 0 []], .int .i64 c]) σ (.tup [exV zeroE, .int .i64 c]) := fun s c h =>
  ⟨fun d x hd => by rw [upd_ne _ _ (h d x hd).1]; exact (h d x hd).2, frz_tup (by exact ⟨zeroE_frz, .refl _, trivial⟩)⟩
 generalize netB n = q1 at *
 cases q1 with
 | false =>
  rw [hdef]
  simp (disch := omega) only [g6, go_sem]
  exact W_retC c44_ok (r := .tup [.agg [.int .i64 0, .int .i64 0, .isl true 0 []], .int .i64 1]) (r' := .tup [exV zeroE, .int .i64 1]) (σ' := σ) (resV_2E rfl (upd_same _ _ _) rfl) (zero s1 1 hσ) ⟨rfl, rfl⟩
 | true =>
 have hf6 := hbn rfl
 have hff := filE_fine (a := a) (t := t) (hfo rfl)
 simp (disch := omega) only [g3, e0, go_sem]
 refine SRun.callR (l01In_ok a 0 ((n.routers.length : Int) - 1)) ⟨[], rfl, rfl⟩ rfl ?_
 rw [show (decide (0 ≤ a) && decide (a ≤ (n.routers.length : Int) - 1)) = routerB n.routers.length a from rfl]
 generalize routerB n.routers.length a = r1 at *
 cases r1 with
 | false =>
  rw [hdef]
  simp (disch := omega) only [g6, go_sem]
  exact W_retC c44_ok (r := .tup [.agg [.int .i64 0, .int .i64 0, .isl true 0 []], .int .i64 5]) (r' := .tup [exV zeroE, .int .i64 5]) (σ' := σ) (resV_2E rfl (upd_same _ _ _) rfl) (zero s1 5 hσ) ⟨rfl, rfl⟩
 | true =>
 simp (disch := omega) only [g3, e0, go_sem]
 refine SRun.callR (l01In_ok t 0 ((n.routers.length : Int) - 1)) ⟨[], rfl, rfl⟩ rfl ?_
 rw [show (decide (0 ≤ t) && decide (t ≤ (n.routers.length : Int) - 1)) = routerB n.routers.length t from rfl]
 generalize routerB n.routers.length t = r2 at *
 cases r2 with
 | false =>
  rw [hdef]
  simp (disch := omega) only [g6, go_sem]
  exact W_retC c44_ok (r := .tup [.agg [.int .i64 0, .int .i64 0, .isl true 0 []], .int .i64 5]) (r' := .tup [exV zeroE, .int .i64 5]) (σ' := σ) (resV_2E rfl (upd_same _ _ _) rfl) (zero s1 5 hσ) ⟨rfl, rfl⟩
 | true =>
 have hdef2 : fEx n a t = exA (filE a t n.filters) := hdef
 rw [hdef2]
 clear hdef hdef2
 simp (disch := omega) only [g3, hlen, hlen2, go_sem]
 refine SRun.callR (l09Filter_ok (n := n) (a := a) (t := t) hf6) ⟨[], rfl, rfl⟩ rfl ?_
 generalize filE a t n.filters = e at *
 simp (disch := omega) only [go_sem]
 refine SRun.allocR ?_
 intro b8 hb8
 have k6 := le_upd (cs := exC e) hb8 _ _ g6
 have k8 := upd_same s1 b8 (exC e)
 have kσ : ∀ d y, σ d = some y → d ≠ b6 ∧ upd s1 b8 (exC e) d = some y := fun d y h => ⟨(hσ d y h).1, le_upd hb8 _ _ (hσ d y h).2⟩
 simp (disch := omega) only [go_sem]
 generalize upd s1 b8 (exC e) = s2 at *
 refine SRun.callR (ExOKsG_ok (e := e) hff.right (by have := hff.depth; omega) (by have := hff.size; omega)) ⟨[], rfl, rfl⟩ rfl ?_
 have hA : exA e = bif okE e then .tup [exV e, .int .i64 0] else .tup [exV zeroE, .int .i64 11] := rfl
 rw [hA]
 cases okE e with
 | true =>
  dsimp only [cond_true]
  simp (disch := omega) only [k8, k6, go_sem]
  exact W_retC c44_ok (r := .tup [.agg (exC e), .int .i64 0]) (r' := .tup [exV e, .int .i64 0]) (σ' := σ) (resV_2E rfl (upd_same _ _ _) (exC_len e).symm) ⟨fun d x hd => by rw [upd_ne _ _ (kσ d x hd).1]; exact (kσ d x hd).2, frz_tup (by exact ⟨by rw [agg_exC]; exact .refl _, .refl _, trivial⟩)⟩ ⟨rfl, rfl⟩
 | false =>
  dsimp only [cond_false]
  simp (disch := omega) only [k6, go_sem]
  exact W_retC c44_ok (r := .tup [.agg [.int .i64 0, .int .i64 0, .isl true 0 []], .int .i64 11]) (r' := .tup [exV zeroE, .int .i64 11]) (σ' := σ) (resV_2E rfl (upd_same _ _ _) rfl) (zero s2 11 kσ) ⟨rfl, rfl⟩
end
end Go.Proofs.Ytlidjjjpjndneaa.Lg
