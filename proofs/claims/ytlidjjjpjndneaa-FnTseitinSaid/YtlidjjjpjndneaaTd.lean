/- The law FnTseitin over its code. -/
import Derived.Test.YtlidjjjpjndneaaTc
set_option linter.unusedSimpArgs false
set_option linter.unusedVariables false
namespace Go.Proofs.Ytlidjjjpjndneaa.Lg
open Go
variable {Γ : St} {σ σ0 : St}
section
variable {P : Program} {f : FuncId} {n : Nat} {Q : V → St → Prop} {k : List It} {T : Ts}
theorem DRun.mixNQ {t : DT} {segs : List DT} (R : Ts → St → Prop) (hr : rdOK t = true) (h : DSW P Γ σ t T emp R) (hk : ∀ T s, R T s → WD P Γ f n Q k segs T (cup s σ)) : DRun P Γ f n Q (t :: segs) k T σ :=
  ⟨emp, σ, disj_emp_left _, (emp_cup _).symm, DS.mono (fun T s hR => (hk T s hR).sound) (DS.of hr h)⟩
end
attribute [local irreducible] SRun DS DRun
theorem WrF.store {P : Program} {T : Ts} {d : Option Nat} {n : Nat} {ad y : Opd} {b off : Nat} {cs : List V} (ha : ev Γ T ad = .ptr b off) (hb : σ b = some cs) (hn : (ev Γ T y).cells.length = n) (h1 : ∀ c ∈ (ev Γ T y).cells, c.one = true) (h4 : off + n ≤ cs.length) :
    WrF P Γ σ T ⟨d, none, .store n ad y⟩ fun r s => r = .undef ∧ s = upd σ b (sets cs off (ev Γ T y).cells) :=
  WrF.of fun T' hT => by
    have e1 := hT ad (by simp [I.opds])
    have e2 := hT y (by simp [I.opds])
    exact InsOK.store (by rw [e1]; exact ha) hb (by rw [e2]; exact hn) (by rw [e2]; exact h1) h4 ⟨rfl, by rw [e2]⟩
theorem sameCnf_ok {vars : Int} {cls : List (List Int)} (hs : Small cls) : Ret Try.prog Γ 31 [cnfV vars cls, cnfV vars cls] σ (.bool true) σ := by
  have hl1 := hs.1
  have hv : (decide ¬ vars = vars) = false := by simp
  have hn : (decide ¬ ((cls.length : Nat) : Int) = (cls.length : Nat)) = false := by simp
  refine ret_of c31_ok rfl ?_
  simp (disch := omega) only [c31, cnfV, go_sem, ↓if_pos, ne_eq, ↓reduceIte]
  refine SRun.boxR (by simp [ev, look, V.cells, V.one]) ?_
  intro b2 hb2
  simp (disch := omega) only [go_sem, ↓if_pos, ne_eq, ↓reduceIte]
  refine SRun.boxR (by simp [ev, look, V.cells, V.one]) ?_
  intro b3 hb3
  simp (disch := omega) only [go_sem, ↓if_pos, ne_eq, ↓reduceIte]
  have n32 := (upd_none.1 hb3).1
  have g3 := upd_same (upd σ b2 [.int .i64 vars, .isl false 1 (clsV cls)]) b3 [.int .i64 vars, .isl false 1 (clsV cls)]
  have g2 : upd (upd σ b2 [.int .i64 vars, .isl false 1 (clsV cls)]) b3 [.int .i64 vars, .isl false 1 (clsV cls)] b2 = some [.int .i64 vars, .isl false 1 (clsV cls)] := by rw [upd_ne _ _ n32.symm, upd_same]
  have hσ : ∀ d x, σ d = some x → upd (upd σ b2 [.int .i64 vars, .isl false 1 (clsV cls)]) b3 [.int .i64 vars, .isl false 1 (clsV cls)] d = some x := fun d x h => le_upd hb3 _ _ (le_upd hb2 _ _ h)
  generalize upd (upd σ b2 [.int .i64 vars, .isl false 1 (clsV cls)]) b3 [.int .i64 vars, .isl false 1 (clsV cls)] = s1 at *
  simp (disch := omega) only [g2, g3, hv, hn, go_sem, ↓if_pos, ne_eq, ↓reduceIte]
  refine W_loopC (α := Nat) (fun i => i ≤ cls.length) (fun i => [(2, .ptr b2 0), (3, .ptr b3 0), (5, .int .i64 (i : Nat))]) (fun _ => s1) (fun i => cls.length - i) 0 (by omega) (by simp (disch := omega) only [subT, Int.natCast_add, Int.cast_ofNat_Int, go_sem, ↓if_pos, ne_eq, ↓reduceIte] <;> (repeat' apply And.intro) <;> first | rfl | (congr 1; omega) | assumption) rfl ?_
  intro i hi ih
  simp (disch := omega) only [g2, go_sem, ↓if_pos, ne_eq, ↓reduceIte]
  first | refine iteW_dec (fun hq => ?_) (fun hq => ?_) | refine iteW_of (fun hq => ?_) (fun hq => ?_)
  · have hsm := hs.2 _ (getD_mem [] (by omega : i < cls.length))
    simp (disch := omega) only [go_sem, ↓if_pos, ne_eq, ↓reduceIte]
    refine W_drawW ?_
    simp (disch := omega) only [g2, g3, intsV, go_sem, ↓if_pos, ne_eq, ↓reduceIte]
    generalize cls.getD i [] = c at *
    refine DRun.callQ (sameInts_ok (ex := false) (ex2 := false) (xs := c) (ys := c) (by omega)) ⟨[], rfl, rfl⟩ ?_
    rintro r s ⟨rfl, hs'⟩
    obtain rfl := hs'.symm
    have hbe : (c == c) = true := by simp
    simp (disch := omega) only [hbe, go_sem, ↓if_pos, ne_eq, ↓reduceIte]
    exact ih (i + 1) _ _ (by omega) (by omega) (by simp (disch := omega) only [subT, Int.natCast_add, Int.cast_ofNat_Int, go_sem, ↓if_pos, ne_eq, ↓reduceIte] <;> (repeat' apply And.intro) <;> first | rfl | (congr 1; omega) | assumption) rfl
  · simp (disch := omega) only [go_sem, ↓if_pos, ne_eq, ↓reduceIte]
    exact W_retC c31_ok rfl (Conv.drop _ hσ) ⟨rfl, rfl⟩
set_option maxHeartbeats 1000000 in
theorem fnTseitin_ok {ex : Bool} {code : List UInt8} (hl1 : code.length ≤ 140737488355328) : Ret Try.prog Γ 5 [codeV ex code] σ (.bool true) σ := by
  refine ret_of c5_ok rfl ?_
  simp (disch := omega) only [c5, codeV, go_sem, ↓if_pos, ne_eq, ↓reduceIte]
  first | refine iteW_dec (fun h2 => ?_) (fun h2 => ?_) | refine iteW_of (fun h2 => ?_) (fun h2 => ?_)
  · simp (disch := omega) only [go_sem, ↓if_pos, ne_eq, ↓reduceIte]
    refine W_retR c5_ok rfl ⟨?_, rfl⟩
    simp only [look, ev, V.bool.injEq, V.int.injEq, V.str.injEq, V.tup.injEq, V.agg.injEq, V.isl.injEq, List.cons.injEq, true_and, and_true, Nat.reduceEqDiff, Nat.reduceAdd, Nat.reduceSub, Nat.reduceMul, Nat.reducePow, Nat.reduceDiv, Nat.reduceMod, Int.reduceToNat, Nat.reduceLeDiff, Nat.reduceLT, Int.reduceEq, Int.reduceLT, Int.reduceLE, Int.reduceGT, Int.reduceGE, Int.reduceNeg, Int.reduceSub, Int.reduceAdd, Int.reduceMul, Int.reducePow, ne_eq, reduceCtorEq, ↓reduceIte]
  simp (disch := omega) only [go_sem, ↓if_pos, ne_eq, ↓reduceIte]
  refine SRun.callQ (ExOf_ok (ex := ex) (code := code) hl1) ⟨[], rfl, rfl⟩ rfl ?_
  rintro r s ⟨e, he, rfl, hs⟩
  obtain rfl := hs.symm
  have he1 := exC_one e
  have hst : ∀ e : Ex, sets [V.int IntKind.i64 0, V.int IntKind.i64 0, V.isl true 0 []] 0 (exC e) = exC e := by intro e; obtain ⟨k, n, ks⟩ := e; rfl
  simp (disch := omega) only [go_sem, ↓if_pos, ne_eq, ↓reduceIte]
  refine SRun.allocR ?_
  intro b3 hb3
  simp (disch := omega) only [he1, hst, go_sem, ↓if_pos, ne_eq, ↓reduceIte]
  have hσ : ∀ d x, σ d = some x → upd σ b3 (exC e) d = some x := le_upd hb3
  have g3 : upd σ b3 (exC e) b3 = some (exC e) := upd_same _ _ _
  generalize upd σ b3 (exC e) = s1 at *
  obtain ⟨l, gs, hm, hgo, hgl, hlit, hlaw⟩ := tseitin_plain he
  have hfit := he.fit1
  have B2 := fun Γ σ => BuildAigs_ok (Γ := Γ) (σ := σ) (inp := 4) (by omega) (ex := true) hfit
  rw [hm] at B2
  refine ⟨he1, ?_⟩
  refine SRun.callR (B2 _ _) ⟨[], rfl, rfl⟩ rfl ?_
  simp (disch := omega) only [aigV, go_sem, ↓if_pos, ne_eq, ↓reduceIte]
  refine SRun.allocR ?_
  intro b4 hb4
  simp (disch := omega) only [go_sem, ↓if_pos, ne_eq, ↓reduceIte]
  have n43 : b4 ≠ b3 := fun e => by subst e; rw [g3] at hb4; cases hb4
  have hσ2 : ∀ d x, σ d = some x → upd s1 b4 [.int .i64 4, .isl false 2 (gsV gs)] d = some x := fun d x h => le_upd hb4 _ _ (hσ _ _ h)
  have k3 := le_upd (cs := [.int .i64 4, .isl false 2 (gsV gs)]) hb4 _ _ g3
  have k4 := upd_same s1 b4 [.int .i64 4, .isl false 2 (gsV gs)]
  generalize upd s1 b4 [.int .i64 4, .isl false 2 (gsV gs)] = s2 at *
  have h1l : ((List.length [l] : Nat) : Int) = 1 := rfl
  obtain ⟨vv, cl, c, hA, hsm, hcase⟩ : ∃ vv cl c, tsA 4 gs l = .tup [cnfV vv cl, .int .i64 c] ∧ Small cl ∧ ((cnfB (4 + gs.length) (tsP 4 gs l) = true ∧ vv = 4 + gs.length ∧ cl = tsP 4 gs l ∧ c = 0) ∨ (¬ (4 + (gs.length : Int) ≤ 40) ∧ c = 11)) := by
    have hsm := ts_small (by decide) hgo hlit hgl
    have hcb := ts_cnfB (by decide) hgo hlit
    generalize hq : cnfB (4 + gs.length) (tsP 4 gs l) = qq at *
    cases qq with
    | true => exact ⟨_, _, _, by unfold tsA; rw [hq]; rfl, hsm, .inl ⟨rfl, rfl, rfl, rfl⟩⟩
    | false => exact ⟨0, [], 11, by unfold tsA; rw [hq]; rfl, ⟨by simp, fun c hc => by cases hc⟩, .inr ⟨of_decide_eq_false hcb.symm, rfl⟩⟩
  have T1 := fun Γ σ => Tseitin_ok (Γ := Γ) (σ := σ) (inp := 4) (by omega) hgl hgo hlit
  have T2 := fun Γ σ => Tseitins_ok (Γ := Γ) (σ := σ) (inp := 4) (by omega) hgl hgo hlit
  rw [hA] at T1 T2
  rw [W_draw]
  refine DRun.start (DRun.mixNQ (fun T s => ∃ b7, s2 b7 = none ∧ s = upd emp b7 [.int .i64 vv, .isl false 1 (clsV cl)] ∧ look T 3 = .ptr b3 0 ∧ look T 4 = .ptr b4 0 ∧ look T 5 = .isl false 1 (ints [l]) ∧ look T 7 = .ptr b7 0 ∧ look T 37 = .int .i64 c) rfl ?_ ?_)
  · simp (disch := omega) only [k4, intsV, go_sem, ↓if_pos, ne_eq, ↓reduceIte]
    refine DS.wr2 (WrF.call (T1 _ _) ⟨[], rfl, rfl⟩) rfl ?_ ?_
    · rintro r s ⟨rfl, hs'⟩ hd
      obtain rfl := hs'.symm
      simp (disch := omega) only [cnfV, go_sem, ↓if_pos, ne_eq, ↓reduceIte]
      refine DS.wrQ WrF.alloc rfl ?_
      rintro _ s3 ⟨b7, hb7, rfl, rfl⟩ hd2
      simp (disch := omega) only [go_sem, ↓if_pos, ne_eq, ↓reduceIte]
      refine DS.wrQ (WrF.store rfl (upd_same _ b7 _) rfl (by simp [ev, look, V.cells, V.one]) (by simp)) rfl ?_
      rintro _ s4 ⟨_, rfl⟩ hd3
      rw [upd_upd]
      exact ⟨b7, disj_new hd2, rfl, rfl, rfl, rfl, rfl, rfl⟩
    · refine DS.wrQ WrF.alloc rfl ?_
      rintro _ s3 ⟨b7, hb7, rfl, rfl⟩ hd2
      simp (disch := omega) only [go_sem, ↓if_pos, ne_eq, ↓reduceIte]
      refine DS.wrQ (WrF.call (T1 _ _) ⟨[], rfl, rfl⟩) rfl ?_
      rintro r s ⟨rfl, hs'⟩ hd
      obtain rfl := hs'.symm
      simp (disch := omega) only [cnfV, go_sem, ↓if_pos, ne_eq, ↓reduceIte]
      refine DS.wrQ (WrF.store rfl (upd_same _ b7 _) rfl (by simp [ev, look, V.cells, V.one]) (by simp)) rfl ?_
      rintro _ s4 ⟨_, rfl⟩ hd3
      rw [upd_upd]
      exact ⟨b7, disj_new hd2, rfl, rfl, rfl, rfl, rfl, rfl⟩
  rintro T _ ⟨b7, hb7, rfl, t3, t4, t5, t7, t37⟩
  rw [cup_new]
  have n73 : b7 ≠ b3 := fun e => by subst e; rw [k3] at hb7; cases hb7
  have n74 : b7 ≠ b4 := fun e => by subst e; rw [k4] at hb7; cases hb7
  have hσ3 : ∀ d x, σ d = some x → upd s2 b7 [.int .i64 vv, .isl false 1 (clsV cl)] d = some x := fun d x h => le_upd hb7 _ _ (hσ2 _ _ h)
  have m3 := le_upd (cs := [.int .i64 vv, .isl false 1 (clsV cl)]) hb7 _ _ k3
  have m4 := le_upd (cs := [.int .i64 vv, .isl false 1 (clsV cl)]) hb7 _ _ k4
  have m7 := upd_same s2 b7 [.int .i64 vv, .isl false 1 (clsV cl)]
  generalize upd s2 b7 [.int .i64 vv, .isl false 1 (clsV cl)] = s3 at *
  simp (disch := omega) only [t37, go_sem, ↓if_pos, ne_eq, ↓reduceIte]
  rw [W_draw]
  refine SRun.freeze (T' := [(3, .ptr b3 0), (4, .ptr b4 0), (5, .isl false 1 (ints [l])), (7, .ptr b7 0), (8, .int .i64 c)]) (σ' := s3) (fun _ _ h => h) ⟨?_, ?_, ?_, ?_, .refl _, trivial⟩ ?_
  · simp only [look_cons, Nat.reduceEqDiff, ↓reduceIte, t3]; exact .refl _
  · simp only [look_cons, Nat.reduceEqDiff, ↓reduceIte, t4]; exact .refl _
  · simp only [look_cons, Nat.reduceEqDiff, ↓reduceIte, t5]; exact .refl _
  · simp only [look_cons, Nat.reduceEqDiff, ↓reduceIte, t7]; exact .refl _
  clear t3 t4 t5 t7 t37 T
  refine DRun.start (DRun.mixNQ (fun T s => ∃ b9, s3 b9 = none ∧ s = upd emp b9 [.int .i64 vv, .isl false 1 (clsV cl)] ∧ look T 3 = .ptr b3 0 ∧ look T 4 = .ptr b4 0 ∧ look T 7 = .ptr b7 0 ∧ look T 8 = .int .i64 c ∧ look T 9 = .ptr b9 0 ∧ look T 45 = .int .i64 c) rfl ?_ ?_)
  · simp (disch := omega) only [m4, go_sem, ↓if_pos, ne_eq, ↓reduceIte]
    refine DS.wr2 (WrF.call (T2 _ _) ⟨[], rfl, rfl⟩) rfl ?_ ?_
    · rintro r s ⟨rfl, hs'⟩ hd
      obtain rfl := hs'.symm
      simp (disch := omega) only [cnfV, go_sem, ↓if_pos, ne_eq, ↓reduceIte]
      refine DS.wrQ WrF.alloc rfl ?_
      rintro _ s3 ⟨b9, hb9, rfl, rfl⟩ hd2
      simp (disch := omega) only [go_sem, ↓if_pos, ne_eq, ↓reduceIte]
      refine DS.wrQ (WrF.store rfl (upd_same _ b9 _) rfl (by simp [ev, look, V.cells, V.one]) (by simp)) rfl ?_
      rintro _ s4 ⟨_, rfl⟩ hd3
      rw [upd_upd]
      exact ⟨b9, disj_new hd2, rfl, rfl, rfl, rfl, rfl, rfl, rfl⟩
    · refine DS.wrQ WrF.alloc rfl ?_
      rintro _ s3 ⟨b9, hb9, rfl, rfl⟩ hd2
      simp (disch := omega) only [go_sem, ↓if_pos, ne_eq, ↓reduceIte]
      refine DS.wrQ (WrF.call (T2 _ _) ⟨[], rfl, rfl⟩) rfl ?_
      rintro r s ⟨rfl, hs'⟩ hd
      obtain rfl := hs'.symm
      simp (disch := omega) only [cnfV, go_sem, ↓if_pos, ne_eq, ↓reduceIte]
      refine DS.wrQ (WrF.store rfl (upd_same _ b9 _) rfl (by simp [ev, look, V.cells, V.one]) (by simp)) rfl ?_
      rintro _ s4 ⟨_, rfl⟩ hd3
      rw [upd_upd]
      exact ⟨b9, disj_new hd2, rfl, rfl, rfl, rfl, rfl, rfl, rfl⟩
  rintro T _ ⟨b9, hb9, rfl, t3, t4, t7, t8, t9, t45⟩
  rw [cup_new]
  have hσ4 : ∀ d x, σ d = some x → upd s3 b9 [.int .i64 vv, .isl false 1 (clsV cl)] d = some x := fun d x h => le_upd hb9 _ _ (hσ3 _ _ h)
  have p3 := le_upd (cs := [.int .i64 vv, .isl false 1 (clsV cl)]) hb9 _ _ m3
  have p4 := le_upd (cs := [.int .i64 vv, .isl false 1 (clsV cl)]) hb9 _ _ m4
  have p7 := le_upd (cs := [.int .i64 vv, .isl false 1 (clsV cl)]) hb9 _ _ m7
  have p9 := upd_same s3 b9 [.int .i64 vv, .isl false 1 (clsV cl)]
  generalize upd s3 b9 [.int .i64 vv, .isl false 1 (clsV cl)] = s4 at *
  have hcc : (decide ¬ c = c) = false := by simp
  simp (disch := omega) only [t45, t7, t8, t9, hcc, p7, p9, go_sem, ↓if_pos, ne_eq, ↓reduceIte]
  refine SRun.callR (sameCnf_ok (vars := vv) (cls := cl) hsm) ⟨[], rfl, rfl⟩ rfl ?_
  simp (disch := omega) only [t8, go_sem, ↓if_pos, ne_eq, ↓reduceIte]
  rcases hcase with ⟨hcb, rfl, rfl, rfl⟩ | ⟨h40, rfl⟩
  · simp (disch := omega) only [t7, p7, go_sem, ↓if_pos, ne_eq, ↓reduceIte]
    obtain ⟨hl0, hl1⟩ := hlaw hcb
    have hfact : ((leastA (modelP (4 + gs.length) (tsP 4 gs l))).2 = 6 ∧ ∀ i, i < 16 → evE (hiP i 4) e = false) ∨ ((leastA (modelP (4 + gs.length) (tsP 4 gs l))).2 = 0 ∧ (leastA (modelP (4 + gs.length) (tsP 4 gs l))).1.length = 4 + gs.length ∧ ∃ j, j < 16 ∧ hiP j 4 = (leastA (modelP (4 + gs.length) (tsP 4 gs l))).1.take 4 ∧ evE (hiP j 4) e = true ∧ ∀ i, i < 16 → evE (hiP i 4) e = true → j ≤ i) := by
      cases hmp : modelP (4 + gs.length) (tsP 4 gs l) with
      | none => exact .inl ⟨rfl, hl0 hmp⟩
      | some v => exact .inr ⟨rfl, (hl1 v hmp).1, (hl1 v hmp).2⟩
    refine SRun.callR (specLeast_ok hcb) ⟨[], rfl, rfl⟩ rfl ?_
    generalize leastA (modelP (4 + gs.length) (tsP 4 gs l)) = A at *
    obtain ⟨mm, gg⟩ := A
    dsimp only at hfact
    have hok := he.ok
    have hm1 := he.most
    simp (disch := omega) only [boolsV, go_sem, ↓if_pos, ne_eq, ↓reduceIte]
    refine W_loopC (α := Nat) (fun i => i ≤ 16 ∧ ∀ k, k < i → evE (hiP k 4) e = false) (fun i => [(3, .ptr b3 0), (11, .isl false 1 (bools mm)), (12, .int .i64 gg), (13, .int .i64 (i : Nat))]) (fun _ => s4) (fun i => 16 - i) 0 ⟨by omega, fun k hk => by omega⟩ (by simp (disch := omega) only [subT, Int.natCast_add, Int.cast_ofNat_Int, t3, go_sem, ↓if_pos, ne_eq, ↓reduceIte] <;> (repeat' apply And.intro) <;> first | rfl | (congr 1; omega) | assumption) rfl ?_
    rintro i ⟨hi, hno⟩ ih
    simp (disch := omega) only [go_sem, ↓if_pos, ne_eq, ↓reduceIte]
    first | refine iteW_dec (fun hq => ?_) (fun hq => ?_) | refine iteW_of (fun hq => ?_) (fun hq => ?_)
    · simp (disch := omega) only [go_sem, ↓if_pos, ne_eq, ↓reduceIte]
      refine W_loopC (α := Nat × V × St) (fun p => p.1 ≤ 4 ∧ OwnL s4 1 (bools ((hiP i 4).take p.1)) p.2.1 p.2.2) (fun p => [(3, .ptr b3 0), (11, .isl false 1 (bools mm)), (12, .int .i64 gg), (13, .int .i64 (i : Nat)), (14, p.2.1), (15, .int .i64 ((3 : Int) - p.1))]) (fun p => p.2.2) (fun p => 4 - p.1) (0, .isl true 1 [], s4) ⟨by simp, OwnL.nil _ _⟩ (by simp (disch := omega) only [subT, Int.natCast_add, Int.cast_ofNat_Int, go_sem, ↓if_pos, ne_eq, ↓reduceIte] <;> (repeat' apply And.intro) <;> first | rfl | (congr 1; omega) | assumption) rfl ?_
      rintro ⟨t, r, s⟩ ⟨ht, ho⟩ ih2
      dsimp only at ht ho
      simp (disch := omega) only [go_sem, ↓if_pos, ne_eq, ↓reduceIte]
      first | refine iteW_dec (fun hq2 => ?_) (fun hq2 => ?_) | refine iteW_of (fun hq2 => ?_) (fun hq2 => ?_)
      · have w2 := wrapU64 (a := (3 : Int) - t) (by omega) (by omega)
        have e3 : ((3 : Int) - t).toNat = 3 - t := by omega
        simp (disch := omega) only [w2, e3, go_sem, ↓if_pos, ne_eq, ↓reduceIte]
        refine SRun.appL ho rfl (by simp [V.cells, V.one]) (by rw [bools_len]; simp only [List.length_take, List.length_singleton]; omega) ?_
        intro r2 s5 ho2
        have hap : bools ((hiP i 4).take t) ++ [.bool (decide (bitsV .and .i64 ((i : Int).fdiv (2 ^ min (3 - t) 64)) 1 = 1))] = bools ((hiP i 4).take (t + 1)) := by
          rw [take_succ false (by simp [hiP]; omega)]
          simp [bools, hiP, List.getD, (by omega : t < 4), bitP]
        rw [hap] at ho2
        simp (disch := omega) only [go_sem, ↓if_pos, ne_eq, ↓reduceIte]
        exact ih2 (t + 1, r2, s5) _ _ ⟨by simp only; omega, ho2⟩ (by simp only; omega) (by simp (disch := omega) only [subT, Int.natCast_add, Int.cast_ofNat_Int, go_sem, ↓if_pos, ne_eq, ↓reduceIte] <;> (repeat' apply And.intro) <;> first | rfl | (congr 1; omega) | assumption) rfl
      · have hlt : (hiP i 4).length = 4 := by simp [hiP]
        have ht4 : t = 4 := by omega
        rw [ht4, List.take_of_length_le (by omega)] at ho
        have q3 := ho.get p3
        simp (disch := omega) only [q3, go_sem, ↓if_pos, ne_eq, ↓reduceIte]
        refine SRun.freeze (T' := [(3, .ptr b3 0), (11, .isl false 1 (bools mm)), (12, .int .i64 gg), (13, .int .i64 (i : Nat)), (14, .isl false 1 (bools (hiP i 4))), (92, exV e), (93, .isl false 1 (bools (hiP i 4)))]) (σ' := s4) ho.le ⟨.refl _, .refl _, .refl _, .refl _, ho.conv.2, .refl _, ho.conv.2, trivial⟩ ?_
        refine SRun.callR (EvalExs_ok (e := e) (ex := false) (bs := hiP i 4) hok (by omega) (by omega)) ⟨[], rfl, rfl⟩ rfl ?_
        simp (disch := omega) only [List.getD_cons_zero, List.getD_cons_succ, go_sem, ↓if_pos, ne_eq, ↓reduceIte]
        generalize hev : evE (hiP i 4) e = bv
        cases bv with
        | true =>
          rcases hfact with ⟨_, hall⟩ | ⟨rfl, hml, j, hj, hje, hjv, hjm⟩
          · have := hall i (by omega)
            rw [hev] at this; cases this
          · have hji := hjm i (by omega) hev
            have hij : ¬ j < i := fun h => by have := hno j h; rw [hjv] at this; cases this
            obtain rfl : j = i := by omega
            have hbml := bools_len mm
            simp (disch := omega) only [hbml, go_sem, ↓if_pos, ne_eq, ↓reduceIte]
            have htk : List.take 4 (bools mm) = bools (mm.take 4) := by simp [bools, List.map_take]
            refine SRun.callR (sameBools_ok (ex := false) (ex2 := false) (xs := mm.take 4) (bs := hiP j 4) (by rw [List.length_take]; omega)) ⟨[], rfl, by rw [← htk]; rfl⟩ rfl ?_
            have hbe : (mm.take 4 == hiP j 4) = true := by rw [← hje]; simp
            simp (disch := omega) only [hbe, go_sem, ↓if_pos, ne_eq, ↓reduceIte]
            exact W_retC c5_ok rfl (Conv.drop _ hσ4) ⟨rfl, rfl⟩
        | false =>
          simp (disch := omega) only [go_sem, ↓if_pos, ne_eq, ↓reduceIte]
          refine ih (i + 1) _ _ ⟨by omega, fun k hk => ?_⟩ (by omega) (by simp (disch := omega) only [subT, Int.natCast_add, Int.cast_ofNat_Int, go_sem, ↓if_pos, ne_eq, ↓reduceIte] <;> (repeat' apply And.intro) <;> first | rfl | (congr 1; omega) | assumption) rfl
          by_cases hki : k = i
          · subst hki; exact hev
          · exact hno k (by omega)
    · simp (disch := omega) only [go_sem, ↓if_pos, ne_eq, ↓reduceIte]
      rcases hfact with ⟨rfl, _⟩ | ⟨_, _, j, hj, _, hjv, _⟩
      · exact W_retC c5_ok rfl (Conv.drop _ hσ4) ⟨rfl, rfl⟩
      · have := hno j (by omega)
        rw [hjv] at this; cases this
  · have hgl2 := gsV_len gs
    have hb40 : decide (4 + (gs.length : Int) > 40) = true := decide_eq_true (by omega)
    simp (disch := omega) only [t4, t8, p4, hgl2, hb40, go_sem, ↓if_pos, ne_eq, ↓reduceIte]
    exact W_retC c5_ok rfl (Conv.drop _ hσ4) ⟨rfl, rfl⟩
end Go.Proofs.Ytlidjjjpjndneaa.Lg
