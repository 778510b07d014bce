/- Expressions that compare, and those of numbers. -/
import Derived.Test.YtlidjjjpjndneaaVa
import Derived.Test.YtlidjjjpjndneaaLgO
set_option linter.unusedSimpArgs false
set_option linter.unusedVariables false
namespace Go.Proofs.Ytlidjjjpjndneaa.Lg
open Go
variable {Γ : St} {σ σ0 : St}
section
variable {P : Program} {f : FuncId} {n : Nat} {Q : V → St → Prop} {k : List It} {T : Ts}
theorem DRun.mixNR {t : DT} {segs : List DT} (R : Ts → St → Prop) (hr : rdOK t = true) (h : DSW P Γ σ t T emp R) (hk : ∀ T s, R T s → WD P Γ f n Q k segs T (cup s σ)) : DRun P Γ f n Q (t :: segs) k T σ :=
  ⟨emp, σ, disj_emp_left _, (emp_cup _).symm, DS.mono (fun T s hR => (hk T s hR).sound) (DS.of hr h)⟩
end
attribute [local irreducible] SRun DS DRun
/-- That the first of some bits are less than others. -/
def lessE (us ws : List Ex) : Nat → Ex
  | 0 => constE 0
  | i + 1 => nodeE 5 [nodeE 4 [nodeE 3 [us.getD i default], ws.getD i default], nodeE 4 [nodeE 3 [nodeE 6 [us.getD i default, ws.getD i default]], lessE us ws i]]
set_option maxHeartbeats 1000000 in
theorem lessEx_ok {ea eb : Bool} {us ws : List Ex} (hl : us.length ≤ 1000) (hb : ws.length = us.length) : Ret Try.prog Γ 109 [.isl ea 3 (exsV us), .isl eb 3 (exsV ws)] σ (exV (lessE us ws us.length)) σ := by
  refine ret_of c109_ok rfl ?_
  simp (disch := omega) only [c109, go_sem, ↓if_pos, ne_eq, ↓reduceIte]
  refine SRun.allocR ?_
  intro b4 hb4
  simp (disch := omega) only [go_sem, ↓if_pos, ne_eq, ↓reduceIte]
  refine SRun.callR (constEx_ok (n := 0)) ⟨[], rfl, rfl⟩ rfl ?_
  simp (disch := omega) only [List.getD_cons_zero, List.getD_cons_succ, go_sem, ↓if_pos, ne_eq, ↓reduceIte]
  refine SRun.allocR ?_
  intro b5 hb5
  have n54 := (upd_none.1 hb5).1
  simp (disch := omega) only [go_sem, ↓if_pos, ne_eq, ↓reduceIte]
  have hσ : ∀ d x, σ d = some x → d ≠ b4 ∧ d ≠ b5 := fun d x h => ⟨fun e => by (subst e; rw [hb4] at h; cases h), fun e => by (subst e; rw [(upd_none.1 hb5).2] at h; cases h)⟩
  refine W_loopC (α := Nat) (fun i => i ≤ us.length) (fun i => [(0, .isl ea 3 (exsV us)), (1, .isl eb 3 (exsV ws)), (4, .ptr b4 0), (5, .ptr b5 0), (9, .int .i64 us.length), (10, .int .i64 (i : Nat))]) (fun i => upd (upd σ b4 [.int .i64 0, .int .i64 0, .isl true 0 []]) b5 (exC (lessE us ws i))) (fun i => us.length - i) 0 (by omega) (by simp (disch := omega) only [subT, Int.natCast_add, Int.cast_ofNat_Int, go_sem, ↓if_pos, ne_eq, ↓reduceIte] <;> (repeat' apply And.intro) <;> first | rfl | (congr 1; omega) | assumption) rfl ?_
  intro i hi ih
  simp (disch := omega) only [go_sem, ↓if_pos, ne_eq, ↓reduceIte]
  first | refine iteW_dec (fun hq => ?_) (fun hq => ?_) | refine iteW_of (fun hq => ?_) (fun hq => ?_)
  · have hle : lessE us ws (i + 1) = nodeE 5 [nodeE 4 [nodeE 3 [us.getD i default], ws.getD i default], nodeE 4 [nodeE 3 [nodeE 6 [us.getD i default, ws.getD i default]], lessE us ws i]] := rfl
    simp (disch := omega) only [go_sem, ↓if_pos, ne_eq, ↓reduceIte]
    refine W_drawW ?_
    refine DRun.mixE rfl ?_
    simp (disch := omega) only [go_sem, ↓if_pos, ne_eq, ↓reduceIte]
    generalize us.getD i default = x at *
    generalize ws.getD i default = y at *
    generalize lessE us ws i = l at *
    refine DS.callB (implEx_ok (k := 3) (ks := [x]) (e := true)) ⟨[], rfl, rfl⟩ rfl rfl ?_
    simp (disch := omega) only [go_sem, ↓if_pos, ne_eq, ↓reduceIte]
    refine DS.callB (implEx_ok (k := 4) (ks := [nodeE 3 [x], y]) (e := true)) ⟨[], rfl, rfl⟩ rfl rfl ?_
    simp (disch := omega) only [go_sem, ↓if_pos, ne_eq, ↓reduceIte]
    refine DS.callB (implEx_ok (k := 6) (ks := [x, y]) (e := true)) ⟨[], rfl, rfl⟩ rfl rfl ?_
    simp (disch := omega) only [go_sem, ↓if_pos, ne_eq, ↓reduceIte]
    refine DS.callB (implEx_ok (k := 3) (ks := [nodeE 6 [x, y]]) (e := true)) ⟨[], rfl, rfl⟩ rfl rfl ?_
    simp (disch := omega) only [go_sem, ↓if_pos, ne_eq, ↓reduceIte]
    refine DRun.callQ (implEx_ok (k := 4) (ks := [nodeE 3 [nodeE 6 [x, y]], l]) (e := true)) ⟨[], rfl, rfl⟩ ?_
    rintro r s ⟨rfl, hs⟩
    obtain rfl := hs.symm
    simp (disch := omega) only [go_sem, ↓if_pos, ne_eq, ↓reduceIte]
    refine DRun.callQ (implEx_ok (k := 5) (ks := [nodeE 4 [nodeE 3 [x], y], nodeE 4 [nodeE 3 [nodeE 6 [x, y]], l]]) (e := true)) ⟨[], rfl, rfl⟩ ?_
    rintro r s ⟨rfl, hs⟩
    obtain rfl := hs.symm
    simp (disch := omega) only [go_sem, ↓if_pos, ne_eq, ↓reduceIte]
    refine ih (i + 1) _ _ (by omega) (by omega) (by simp (disch := omega) only [subT, Int.natCast_add, Int.cast_ofNat_Int, go_sem, ↓if_pos, ne_eq, ↓reduceIte] <;> (repeat' apply And.intro) <;> first | rfl | (congr 1; omega) | assumption) ?_
    rw [hle]
  · have hik : i = us.length := by omega
    have g4 : upd (upd σ b4 [.int .i64 0, .int .i64 0, .isl true 0 []]) b5 (exC (lessE us ws i)) b4 = some [.int .i64 0, .int .i64 0, .isl true 0 []] := by rw [upd_ne _ _ n54.symm, upd_same]
    simp (disch := omega) only [g4, go_sem, ↓if_pos, ne_eq, ↓reduceIte]
    refine W_retC c109_ok (r := .agg (exC (lessE us ws i))) (r' := exV (lessE us ws i)) (σ' := σ) (resV_cellA rfl (upd_same _ _ _) (exC_len _).symm) ⟨fun d x hd => ?_, by rw [agg_exC]; exact .refl _⟩ ⟨by rw [hik], rfl⟩
    obtain ⟨n4, n5⟩ := hσ d x hd
    rw [upd_ne _ _ n4, upd_ne _ _ n5, upd_ne _ _ n4]; exact hd
def sizeB (us ws : List Ex) : Prop := (∀ e ∈ us, sizeE e ≤ 100000) ∧ ∀ e ∈ ws, sizeE e ≤ 100000
set_option maxHeartbeats 1000000 in
theorem l05Less_ok {ea eb : Bool} {us ws : List Ex} (hl : us.length ≤ 1000) (hb : ws.length = us.length) (hsz : sizeB us ws) : Ret Try.prog Γ 147 [.isl ea 3 (exsV us), .isl eb 3 (exsV ws)] σ (exV (lessE us ws us.length)) σ := by
  refine ret_of c147_ok rfl ?_
  simp (disch := omega) only [c147, go_sem, ↓if_pos, ne_eq, ↓reduceIte]
  refine SRun.allocR ?_
  intro b4 hb4
  simp (disch := omega) only [go_sem, ↓if_pos, ne_eq, ↓reduceIte]
  refine SRun.callR (l05Const_ok (n := 0)) ⟨[], rfl, rfl⟩ rfl ?_
  simp (disch := omega) only [List.getD_cons_zero, List.getD_cons_succ, go_sem, ↓if_pos, ne_eq, ↓reduceIte]
  refine SRun.allocR ?_
  intro b5 hb5
  have n54 := (upd_none.1 hb5).1
  simp (disch := omega) only [go_sem, ↓if_pos, ne_eq, ↓reduceIte]
  have hσ : ∀ d x, σ d = some x → d ≠ b4 ∧ d ≠ b5 ∧ upd (upd σ b4 [.int .i64 0, .int .i64 0, .isl true 0 []]) b5 (exC (constE 0)) d = some x := fun d x h => ⟨fun e => by (subst e; rw [hb4] at h; cases h), fun e => by (subst e; rw [(upd_none.1 hb5).2] at h; cases h), le_upd hb5 _ _ (le_upd hb4 _ _ h)⟩
  have g4 : upd (upd σ b4 [.int .i64 0, .int .i64 0, .isl true 0 []]) b5 (exC (constE 0)) b4 = some [.int .i64 0, .int .i64 0, .isl true 0 []] := by rw [upd_ne _ _ n54.symm, upd_same]
  have g5 := upd_same (upd σ b4 [.int .i64 0, .int .i64 0, .isl true 0 []]) b5 (exC (constE 0))
  generalize upd (upd σ b4 [.int .i64 0, .int .i64 0, .isl true 0 []]) b5 (exC (constE 0)) = A0 at *
  refine W_loopC (α := Nat × St) (fun p => p.1 ≤ us.length ∧ p.2 b4 = some [.int .i64 0, .int .i64 0, .isl true 0 []] ∧ p.2 b5 = some (exC (lessE us ws p.1)) ∧ ∀ d x, σ d = some x → p.2 d = some x) (fun p => [(0, .isl ea 3 (exsV us)), (1, .isl eb 3 (exsV ws)), (4, .ptr b4 0), (5, .ptr b5 0), (6, .int .i64 (p.1 : Nat))]) (fun p => p.2) (fun p => us.length - p.1) (0, A0) ⟨by simp, g4, g5, fun d x h => (hσ d x h).2.2⟩ (by simp (disch := omega) only [subT, Int.natCast_add, Int.cast_ofNat_Int, go_sem, ↓if_pos, ne_eq, ↓reduceIte] <;> (repeat' apply And.intro) <;> first | rfl | (congr 1; omega) | assumption) rfl ?_
  rintro ⟨i, s2⟩ ⟨hi, h4, h5, hle2⟩ ih
  dsimp only at hi h4 h5 hle2
  simp (disch := omega) only [go_sem, ↓if_pos, ne_eq, ↓reduceIte]
  first | refine iteW_dec (fun hq => ?_) (fun hq => ?_) | refine iteW_of (fun hq => ?_) (fun hq => ?_)
  · have hle : lessE us ws (i + 1) = nodeE 5 [nodeE 4 [nodeE 3 [us.getD i default], ws.getD i default], nodeE 4 [nodeE 3 [nodeE 6 [us.getD i default, ws.getD i default]], lessE us ws i]] := rfl
    have hx : sizeE (us.getD i default) ≤ 1000000 := by have := hsz.1 _ (getD_mem default (by omega : i < us.length)); omega
    have hy : sizeE (ws.getD i default) ≤ 1000000 := by have := hsz.2 _ (getD_mem default (by omega : i < ws.length)); omega
    generalize hgx : us.getD i default = x at *
    generalize hgy : ws.getD i default = y at *
    simp (disch := omega) only [go_sem, ↓if_pos, ne_eq, ↓reduceIte]
    rw [W_draw]
    refine DRun.start (DRun.mixNR (fun T s => ∃ b7, s2 b7 = none ∧ s = upd emp b7 [.int .i64 0, .int .i64 0, .isl true 0 []] ∧ look T 0 = .isl ea 3 (exsV us) ∧ look T 1 = .isl eb 3 (exsV ws) ∧ look T 4 = .ptr b4 0 ∧ look T 5 = .ptr b5 0 ∧ look T 6 = .int .i64 (i : Nat) ∧ look T 7 = .ptr b7 0 ∧ look T 28 = exV (nodeE 3 [nodeE 6 [x, y]])) rfl ?_ ?_)
    · simp (disch := omega) only [hgx, hgy, go_sem, ↓if_pos, ne_eq, ↓reduceIte]
      refine DS.wr2 (WrF.call (l05Copy_ok x hx) ⟨[], rfl, rfl⟩) rfl ?_ ?_
      · rintro r s ⟨rfl, hs⟩ hd
        obtain rfl := hs.symm
        simp (disch := omega) only [go_sem, ↓if_pos, ne_eq, ↓reduceIte]
        refine DS.wr2 (WrF.call (l05Copy_ok y hy) ⟨[], rfl, rfl⟩) rfl ?_ ?_
        · rintro r s ⟨rfl, hs⟩ hd
          obtain rfl := hs.symm
          simp (disch := omega) only [go_sem, ↓if_pos, ne_eq, ↓reduceIte]
          refine DS.wr2 (WrF.call (l05Ex_ok (k := 6) (ks := [x, y]) (e := true)) ⟨[], rfl, rfl⟩) rfl ?_ ?_
          · rintro r s ⟨rfl, hs⟩ hd
            obtain rfl := hs.symm
            simp (disch := omega) only [go_sem, ↓if_pos, ne_eq, ↓reduceIte]
            refine DS.wr2 (WrF.call (l05Ex_ok (k := 3) (ks := [nodeE 6 [x, y]]) (e := true)) ⟨[], rfl, rfl⟩) rfl ?_ ?_
            · rintro r s ⟨rfl, hs⟩ hd
              obtain rfl := hs.symm
              simp (disch := omega) only [go_sem, ↓if_pos, ne_eq, ↓reduceIte]
              refine DS.wrQ WrF.alloc rfl ?_
              rintro _ s3 ⟨b7, hb7, rfl, rfl⟩ hd2
              exact ⟨b7, disj_new hd2, rfl, rfl, rfl, rfl, rfl, rfl, rfl, rfl⟩
            · refine DS.wrQ WrF.alloc rfl ?_
              rintro _ s3 ⟨b7, hb7, rfl, rfl⟩ hd2
              simp (disch := omega) only [go_sem, ↓if_pos, ne_eq, ↓reduceIte]
              refine DS.wrQ (WrF.call (l05Ex_ok (k := 3) (ks := [nodeE 6 [x, y]]) (e := true)) ⟨[], rfl, rfl⟩) rfl ?_
              rintro r s ⟨rfl, hs⟩ hd
              obtain rfl := hs.symm
              exact ⟨b7, disj_new hd2, rfl, rfl, rfl, rfl, rfl, rfl, rfl, rfl⟩
          · refine DS.wrQ WrF.alloc rfl ?_
            rintro _ s3 ⟨b7, hb7, rfl, rfl⟩ hd2
            simp (disch := omega) only [go_sem, ↓if_pos, ne_eq, ↓reduceIte]
            refine DS.wrQ (WrF.call (l05Ex_ok (k := 6) (ks := [x, y]) (e := true)) ⟨[], rfl, rfl⟩) rfl ?_
            rintro r s ⟨rfl, hs⟩ hd
            obtain rfl := hs.symm
            simp (disch := omega) only [go_sem, ↓if_pos, ne_eq, ↓reduceIte]
            refine DS.wrQ (WrF.call (l05Ex_ok (k := 3) (ks := [nodeE 6 [x, y]]) (e := true)) ⟨[], rfl, rfl⟩) rfl ?_
            rintro r s ⟨rfl, hs⟩ hd
            obtain rfl := hs.symm
            exact ⟨b7, disj_new hd2, rfl, rfl, rfl, rfl, rfl, rfl, rfl, rfl⟩
        · refine DS.wrQ WrF.alloc rfl ?_
          rintro _ s3 ⟨b7, hb7, rfl, rfl⟩ hd2
          simp (disch := omega) only [go_sem, ↓if_pos, ne_eq, ↓reduceIte]
          refine DS.wrQ (WrF.call (l05Copy_ok y hy) ⟨[], rfl, rfl⟩) rfl ?_
          rintro r s ⟨rfl, hs⟩ hd
          obtain rfl := hs.symm
          simp (disch := omega) only [go_sem, ↓if_pos, ne_eq, ↓reduceIte]
          refine DS.wrQ (WrF.call (l05Ex_ok (k := 6) (ks := [x, y]) (e := true)) ⟨[], rfl, rfl⟩) rfl ?_
          rintro r s ⟨rfl, hs⟩ hd
          obtain rfl := hs.symm
          simp (disch := omega) only [go_sem, ↓if_pos, ne_eq, ↓reduceIte]
          refine DS.wrQ (WrF.call (l05Ex_ok (k := 3) (ks := [nodeE 6 [x, y]]) (e := true)) ⟨[], rfl, rfl⟩) rfl ?_
          rintro r s ⟨rfl, hs⟩ hd
          obtain rfl := hs.symm
          exact ⟨b7, disj_new hd2, rfl, rfl, rfl, rfl, rfl, rfl, rfl, rfl⟩
      · refine DS.wrQ WrF.alloc rfl ?_
        rintro _ s3 ⟨b7, hb7, rfl, rfl⟩ hd2
        simp (disch := omega) only [go_sem, ↓if_pos, ne_eq, ↓reduceIte]
        refine DS.wrQ (WrF.call (l05Copy_ok x hx) ⟨[], rfl, rfl⟩) rfl ?_
        rintro r s ⟨rfl, hs⟩ hd
        obtain rfl := hs.symm
        simp (disch := omega) only [go_sem, ↓if_pos, ne_eq, ↓reduceIte]
        refine DS.wrQ (WrF.call (l05Copy_ok y hy) ⟨[], rfl, rfl⟩) rfl ?_
        rintro r s ⟨rfl, hs⟩ hd
        obtain rfl := hs.symm
        simp (disch := omega) only [go_sem, ↓if_pos, ne_eq, ↓reduceIte]
        refine DS.wrQ (WrF.call (l05Ex_ok (k := 6) (ks := [x, y]) (e := true)) ⟨[], rfl, rfl⟩) rfl ?_
        rintro r s ⟨rfl, hs⟩ hd
        obtain rfl := hs.symm
        simp (disch := omega) only [go_sem, ↓if_pos, ne_eq, ↓reduceIte]
        refine DS.wrQ (WrF.call (l05Ex_ok (k := 3) (ks := [nodeE 6 [x, y]]) (e := true)) ⟨[], rfl, rfl⟩) rfl ?_
        rintro r s ⟨rfl, hs⟩ hd
        obtain rfl := hs.symm
        exact ⟨b7, disj_new hd2, rfl, rfl, rfl, rfl, rfl, rfl, rfl, rfl⟩
    rintro T _ ⟨b7, hb7, rfl, t0, t1, t4, t5, t6, t7, t28⟩
    rw [cup_new]
    have n75 : b7 ≠ b5 := fun e => by subst e; rw [h5] at hb7; cases hb7
    have n74 : b7 ≠ b4 := fun e => by subst e; rw [h4] at hb7; cases hb7
    simp (disch := omega) only [t28, t7, go_sem, ↓if_pos, ne_eq, ↓reduceIte]
    rw [W_draw]
    refine SRun.freeze (T' := [(0, .isl ea 3 (exsV us)), (1, .isl eb 3 (exsV ws)), (4, .ptr b4 0), (5, .ptr b5 0), (6, .int .i64 (i : Nat)), (7, .ptr b7 0)]) (σ' := upd s2 b7 (exC (nodeE 3 [nodeE 6 [x, y]]))) (fun _ _ h => h) ⟨?_, ?_, ?_, ?_, ?_, ?_, trivial⟩ ?_
    · rw [t0]; exact .refl _
    · rw [t1]; exact .refl _
    · rw [t4]; exact .refl _
    · rw [t5]; exact .refl _
    · rw [t6]; exact .refl _
    · rw [t7]; exact .refl _
    clear t0 t1 t4 t5 t6 t7 t28 T
    have k5 := le_upd (cs := exC (nodeE 3 [nodeE 6 [x, y]])) hb7 _ _ h5
    have k4 := le_upd (cs := exC (nodeE 3 [nodeE 6 [x, y]])) hb7 _ _ h4
    have k7 := upd_same s2 b7 (exC (nodeE 3 [nodeE 6 [x, y]]))
    have kσ : ∀ d x', σ d = some x' → upd s2 b7 (exC (nodeE 3 [nodeE 6 [x, y]])) d = some x' := fun d x' h => le_upd hb7 _ _ (hle2 _ _ h)
    generalize upd s2 b7 (exC (nodeE 3 [nodeE 6 [x, y]])) = s3 at *
    refine DRun.start (DRun.mixE rfl ?_)
    simp (disch := omega) only [k5, k7, hgx, hgy, go_sem, ↓if_pos, ne_eq, ↓reduceIte]
    generalize lessE us ws i = l at *
    refine DS.callB (l05Copy_ok x hx) ⟨[], rfl, rfl⟩ rfl rfl ?_
    simp (disch := omega) only [go_sem, ↓if_pos, ne_eq, ↓reduceIte]
    refine DS.callB (l05Ex_ok (k := 3) (ks := [x]) (e := true)) ⟨[], rfl, rfl⟩ rfl rfl ?_
    simp (disch := omega) only [go_sem, ↓if_pos, ne_eq, ↓reduceIte]
    refine DS.callB (l05Copy_ok y hy) ⟨[], rfl, rfl⟩ rfl rfl ?_
    simp (disch := omega) only [go_sem, ↓if_pos, ne_eq, ↓reduceIte]
    refine DS.callB (l05Ex_ok (k := 4) (ks := [nodeE 3 [x], y]) (e := true)) ⟨[], rfl, rfl⟩ rfl rfl ?_
    simp (disch := omega) only [go_sem, ↓if_pos, ne_eq, ↓reduceIte]
    refine DRun.callQ (l05Ex_ok (k := 4) (ks := [nodeE 3 [nodeE 6 [x, y]], l]) (e := true)) ⟨[], rfl, rfl⟩ ?_
    rintro r s ⟨rfl, hs⟩
    obtain rfl := hs.symm
    simp (disch := omega) only [go_sem, ↓if_pos, ne_eq, ↓reduceIte]
    refine DRun.callQ (l05Ex_ok (k := 5) (ks := [nodeE 4 [nodeE 3 [x], y], nodeE 4 [nodeE 3 [nodeE 6 [x, y]], l]]) (e := true)) ⟨[], rfl, rfl⟩ ?_
    rintro r s ⟨rfl, hs⟩
    obtain rfl := hs.symm
    simp (disch := omega) only [k5, go_sem, ↓if_pos, ne_eq, ↓reduceIte]
    have n45 : b4 ≠ b5 := n54.symm
    refine ih (i + 1, upd s3 b5 (exC (nodeE 5 [nodeE 4 [nodeE 3 [x], y], nodeE 4 [nodeE 3 [nodeE 6 [x, y]], l]]))) _ _ ⟨by simp only; omega, by simp only; rw [upd_ne _ _ n45]; exact k4, by simp only; rw [hle]; exact upd_same _ _ _, fun d x' h => by simp only; rw [upd_ne _ _ (hσ d x' h).2.1]; exact kσ _ _ h⟩ (by simp only; omega) (by simp (disch := omega) only [subT, Int.natCast_add, Int.cast_ofNat_Int, go_sem, ↓if_pos, ne_eq, ↓reduceIte] <;> (repeat' apply And.intro) <;> first | rfl | (congr 1; omega) | assumption) rfl
  · have hik : i = us.length := by omega
    simp (disch := omega) only [h4, h5, go_sem, ↓if_pos, ne_eq, ↓reduceIte]
    refine W_retC c147_ok (r := .agg (exC (lessE us ws i))) (r' := exV (lessE us ws i)) (σ' := σ) (resV_cellA rfl (upd_same _ _ _) (exC_len _).symm) ⟨fun d x hd => ?_, by rw [agg_exC]; exact .refl _⟩ ⟨by rw [hik], rfl⟩
    obtain ⟨n4, n5, _⟩ := hσ d x hd
    rw [upd_ne _ _ n4]; exact hle2 _ _ hd
end Go.Proofs.Ytlidjjjpjndneaa.Lg
