/- What is told of the functions that are reached, as far as it is asked here. -/
import Derived.Test.YtlidjjjpjndneaaKf6
import Derived.KernelRfl
set_option linter.unusedSimpArgs false
set_option linter.unusedVariables false
namespace Go.Proofs.Ytlidjjjpjndneaa.Lg
open Go
section
attribute [local irreducible] SRun DS DRun
variable {Γ : St} {σ σ0 : St}
theorem l09Number_ok {n : Int} : Ret Try.prog Γ 186 [.int .i64 n] σ (.isl false 3 (exsV (bits4 n))) σ := by
  refine ret_of c186_ok rfl ?_
  simp (disch := omega) only [c186, go_sem, ↓if_pos, ne_eq, ↓reduceIte]
  refine W_loopC (α := Nat × V × St) (fun p => p.1 ≤ 4 ∧ OwnL σ 3 (exsV ((List.range p.1).map fun i => constE (bitI n i))) p.2.1 p.2.2) (fun p => [(0, .int .i64 n), (3, p.2.1), (4, .int .i64 (p.1 : Nat))]) (fun p => p.2.2) (fun p => 4 - p.1) (0, .isl true 3 [], σ) ⟨by simp, OwnL.nil _ _⟩ (by simp (disch := omega) only [subT, Int.natCast_add, Int.cast_ofNat_Int, go_sem, ↓if_pos, ne_eq, ↓reduceIte] <;> (repeat' apply And.intro) <;> first | rfl | (congr 1; omega) | assumption) rfl ?_
  rintro ⟨i, t, s⟩ ⟨hi, ho⟩ ih
  dsimp only at hi ho
  simp (disch := omega) only [go_sem, ↓if_pos, ne_eq, ↓reduceIte]
  first | refine iteW_dec (fun hq => ?_) (fun hq => ?_) | refine iteW_of (fun hq => ?_) (fun hq => ?_)
  · have w2 := wrapU64 (a := (i : Int)) (by omega) (by omega)
    simp (disch := omega) only [w2, go_sem, ↓if_pos, ne_eq, ↓reduceIte]
    refine SRun.callR (l05Const_ok (n := bitI n i)) ⟨[], rfl, rfl⟩ rfl ?_
    simp (disch := omega) only [List.getD_cons_zero, List.getD_cons_succ, go_sem, ↓if_pos, ne_eq, ↓reduceIte]
    refine SRun.appL ho rfl (exs1_ok _) (by rw [exsV_len, List.length_map, List.length_range]; simp only [List.length_singleton]; omega) ?_
    intro t2 s2 ho2
    rw [exs_app, show (List.range i).map (fun i => constE (bitI n i)) ++ [constE (bitI n i)] = (List.range (i + 1)).map (fun i => constE (bitI n i)) by simp [List.range_succ]] at ho2
    simp (disch := omega) only [go_sem, ↓if_pos, ne_eq, ↓reduceIte]
    exact ih (i + 1, t2, s2) _ _ ⟨by simp only; omega, ho2⟩ (by simp only; omega) (by simp (disch := omega) only [subT, Int.natCast_add, Int.cast_ofNat_Int, go_sem, ↓if_pos, ne_eq, ↓reduceIte] <;> (repeat' apply And.intro) <;> first | rfl | (congr 1; omega) | assumption) rfl
  · obtain rfl : i = 4 := by omega
    simp (disch := omega) only [go_sem, ↓if_pos, ne_eq, ↓reduceIte]
    exact W_retC c186_ok (r := t) (r' := .isl false 3 (exsV (bits4 n))) (σ' := σ) rfl ho.conv ⟨rfl, rfl⟩
theorem sizeB_1 (n : Int) : sizeB port4 (bits4 n) := ⟨fun e he => by have := port4_size e he; omega, fun e he => by have := bits4_size n e he; omega⟩
theorem sizeB_2 (n : Int) : sizeB (bits4 n) port4 := ⟨fun e he => by have := bits4_size n e he; omega, fun e he => by have := port4_size e he; omega⟩
set_option maxHeartbeats 2000000 in
theorem l09Filter_ok {n : Net} {a t : Int} (hl : n.filters.length ≤ 6) : Ret Try.prog Γ 114 [netV n, .int .i64 a, .int .i64 t] σ (exV (filE a t n.filters)) σ := by
  have e5 : (netC n)[5]? = some (.isl false 4 (filsV n.filters)) := rfl
  refine ret_of c114_ok rfl ?_
  simp (disch := omega) only [c114, netV, go_sem, ↓if_pos, ne_eq, ↓reduceIte]
  refine SRun.boxR (net_one n) ?_
  intro b3 hb3
  simp (disch := omega) only [go_sem, ↓if_pos, ne_eq, ↓reduceIte]
  refine SRun.allocR ?_
  intro b6 hb6
  have n63 := (upd_none.1 hb6).1
  have g3 : upd (upd σ b3 (netC n)) b6 [.int .i64 0, .int .i64 0, .isl true 0 []] b3 = some (netC n) := by rw [upd_ne _ _ n63.symm, upd_same]
  have g6 := upd_same (upd σ b3 (netC n)) b6 [.int .i64 0, .int .i64 0, .isl true 0 []]
  have hσ : ∀ d x, σ d = some x → d ≠ b6 ∧ upd (upd σ b3 (netC n)) b6 [.int .i64 0, .int .i64 0, .isl true 0 []] d = some x := fun d x h => ⟨fun e => by (subst e; rw [(upd_none.1 hb6).2] at h; cases h), le_upd hb6 _ _ (le_upd hb3 _ _ h)⟩
  simp (disch := omega) only [go_sem, ↓if_pos, ne_eq, ↓reduceIte]
  generalize upd (upd σ b3 (netC n)) b6 [.int .i64 0, .int .i64 0, .isl true 0 []] = s1 at *
  refine W_loopC (α := Nat × V × St) (fun p => p.1 ≤ 4 ∧ RowF s1 3 (exsV ((List.range p.1).map fun i => varE (i : Nat))) p.2.1 p.2.2) (fun p => [(1, .int .i64 a), (2, .int .i64 t), (3, .ptr b3 0), (6, .ptr b6 0), (7, p.2.1), (8, .int .i64 (p.1 : Nat))]) (fun p => p.2.2) (fun p => 4 - p.1) (0, .isl true 3 [], s1) ⟨by simp, RowF.nil⟩ (by simp (disch := omega) only [subT, Int.natCast_add, Int.cast_ofNat_Int, go_sem, ↓if_pos, ne_eq, ↓reduceIte] <;> (repeat' apply And.intro) <;> first | rfl | (congr 1; omega) | assumption) rfl ?_
  rintro ⟨i, tt, s⟩ ⟨hi, ho⟩ ih
  dsimp only at hi ho
  simp (disch := omega) only [go_sem, ↓if_pos, ne_eq, ↓reduceIte]
  first | refine iteW_dec (fun hq => ?_) (fun hq => ?_) | refine iteW_of (fun hq => ?_) (fun hq => ?_)
  · obtain ⟨ys, hy1, hy2, hy3⟩ := ho
    rw [exsV_len, List.length_map, List.length_range] at hy2
    simp (disch := omega) only [go_sem, ↓if_pos, ne_eq, ↓reduceIte]
    refine SRun.appL hy1 rfl (rawVar_ok _) (by simp only [List.length_singleton]; omega) ?_
    intro t2 s2 ho2
    have hrow : RowF s1 3 (exsV ((List.range (i + 1)).map fun i => varE (i : Nat))) t2 s2 := by
      refine ⟨_, ho2, by simp [exsV_len, hy2], fun σ σ' => ?_⟩
      rw [flat_app1, show (List.range (i + 1)).map (fun i => varE (i : Nat)) = (List.range i).map (fun i => varE (i : Nat)) ++ [varE (i : Nat)] by simp [List.range_succ], ← exs_app, flat_app1]
      exact frzL_app (hy3 _ _) (rawVar_frz _)
    simp (disch := omega) only [go_sem, ↓if_pos, ne_eq, ↓reduceIte]
    exact ih (i + 1, t2, s2) _ _ ⟨by simp only; omega, hrow⟩ (by simp only; omega) (by simp (disch := omega) only [subT, Int.natCast_add, Int.cast_ofNat_Int, go_sem, ↓if_pos, ne_eq, ↓reduceIte] <;> (repeat' apply And.intro) <;> first | rfl | (congr 1; omega) | assumption) rfl
  · have hi4 : i = 4 := by omega
    subst hi4
    have hfr : Frz s s1 tt (.isl false 3 (exsV port4)) := ho.frz (exsV_ok _) (fun _ _ => rfl) (fun _ h => h)
    obtain ⟨ys, hy1, hy2, hy3⟩ := ho
    clear ih hq
    simp (disch := omega) only [go_sem, ↓if_pos, ne_eq, ↓reduceIte]
    refine SRun.freeze (T' := [(1, .int .i64 a), (2, .int .i64 t), (3, .ptr b3 0), (6, .ptr b6 0), (7, .isl false 3 (exsV port4))]) (σ' := s1) hy1.le ⟨.refl _, .refl _, .refl _, .refl _, hfr, trivial⟩ ?_
    clear hy1 hy2 hy3 hfr
    refine SRun.callR (l05Const_ok (n := 0)) ⟨[], rfl, rfl⟩ rfl ?_
    simp (disch := omega) only [List.getD_cons_zero, List.getD_cons_succ, go_sem, ↓if_pos, ne_eq, ↓reduceIte]
    refine SRun.allocR ?_
    intro b9 hb9
    have n93 : b9 ≠ b3 := fun e => by subst e; rw [g3] at hb9; cases hb9
    have n96 : b9 ≠ b6 := fun e => by subst e; rw [g6] at hb9; cases hb9
    have h3 := le_upd (cs := exC (constE 0)) hb9 _ _ g3
    have h6 := le_upd (cs := exC (constE 0)) hb9 _ _ g6
    have h9 := upd_same s1 b9 (exC (constE 0))
    have hσ2 : ∀ d x, σ d = some x → d ≠ b6 ∧ d ≠ b9 ∧ upd s1 b9 (exC (constE 0)) d = some x := fun d x h => ⟨(hσ d x h).1, fun e => by (subst e; rw [(hσ _ _ h).2] at hb9; cases hb9), le_upd hb9 _ _ (hσ d x h).2⟩
    simp (disch := omega) only [go_sem, ↓if_pos, ne_eq, ↓reduceIte]
    generalize upd s1 b9 (exC (constE 0)) = s2 at *
    have hf0 : filE a t (n.filters.take 0) = constE 0 := rfl
    rw [← hf0] at h9
    refine W_loopC (α := Nat × St) (fun p => p.1 ≤ n.filters.length ∧ p.2 b3 = some (netC n) ∧ p.2 b6 = some [.int .i64 0, .int .i64 0, .isl true 0 []] ∧ p.2 b9 = some (exC (filE a t (n.filters.take p.1))) ∧ ∀ d x, σ d = some x → p.2 d = some x) (fun p => [(1, .int .i64 a), (2, .int .i64 t), (3, .ptr b3 0), (6, .ptr b6 0), (7, .isl false 3 (exsV port4)), (9, .ptr b9 0), (10, .int .i64 (p.1 : Nat))]) (fun p => p.2) (fun p => n.filters.length - p.1) (0, s2) ⟨by omega, h3, h6, h9, fun d x h => (hσ2 d x h).2.2⟩ (by simp (disch := omega) only [subT, Int.natCast_add, Int.cast_ofNat_Int, go_sem, ↓if_pos, ne_eq, ↓reduceIte] <;> (repeat' apply And.intro) <;> first | rfl | (congr 1; omega) | assumption) rfl ?_
    clear h3 h6 h9 hf0
    rintro ⟨k, s3⟩ ⟨hk, h3, h6, h9, hle⟩ ih
    dsimp only at hk h3 h6 h9 hle
    simp (disch := omega) only [h3, e5, go_sem, ↓if_pos, ne_eq, ↓reduceIte]
    first | refine iteW_dec (fun hq => ?_) (fun hq => ?_) | refine iteW_of (fun hq => ?_) (fun hq => ?_)
    · have hsucc := filE_succ (a := a) (t := t) (fs := n.filters) (i := k) (by omega)
      simp (disch := omega) only [h3, e5, go_sem, ↓if_pos, ne_eq, ↓reduceIte]
      generalize n.filters.getD k default = x at *
      have hstep : stepE a t (filE a t (n.filters.take k)) x = bif decide (x.at_ = a) && decide (x.to = t) then nodeE 5 [filE a t (n.filters.take k), nodeE 4 [nodeE 3 [lessE port4 (bits4 x.low) 4], nodeE 3 [lessE (bits4 x.high) port4 4]]] else filE a t (n.filters.take k) := rfl
      rw [hstep] at hsucc
      generalize filE a t (n.filters.take k) = e at *
      refine SRun.allocR ?_
      intro b11 hb11
      have hfc : filC x = [.int .i64 x.at_, .int .i64 x.to, .int .i64 x.low, .int .i64 x.high] := rfl
      have k3 := le_upd (cs := filC x) hb11 _ _ h3
      have k6 := le_upd (cs := filC x) hb11 _ _ h6
      have k9 := le_upd (cs := filC x) hb11 _ _ h9
      have kσ : ∀ d y, σ d = some y → upd s3 b11 (filC x) d = some y := fun d y h => le_upd hb11 _ _ (hle d y h)
      have k11 := upd_same s3 b11 (filC x)
      rw [hfc] at k3 k6 k9 kσ k11
      generalize hp1 : decide (x.at_ = a) = p1 at *
      generalize hp2 : decide (x.to = t) = p2 at *
      cases p1 with
      | false =>
        cases p2
        all_goals
          simp (disch := omega) only [hfc, hp1, hp2, go_sem, ↓if_pos, ne_eq, ↓reduceIte]
          exact ih (k + 1, upd s3 b11 [.int .i64 x.at_, .int .i64 x.to, .int .i64 x.low, .int .i64 x.high]) _ _ ⟨by simp only; omega, k3, k6, by dsimp only; rw [hsucc]; exact k9, kσ⟩ (by simp only; omega) (by simp (disch := omega) only [subT, Int.natCast_add, Int.cast_ofNat_Int, go_sem, ↓if_pos, ne_eq, ↓reduceIte] <;> (repeat' apply And.intro) <;> first | rfl | (congr 1; omega) | assumption) rfl
      | true =>
      cases p2 with
      | false =>
        simp (disch := omega) only [hfc, hp1, hp2, go_sem, ↓if_pos, ne_eq, ↓reduceIte]
        exact ih (k + 1, upd s3 b11 [.int .i64 x.at_, .int .i64 x.to, .int .i64 x.low, .int .i64 x.high]) _ _ ⟨by simp only; omega, k3, k6, by dsimp only; rw [hsucc]; exact k9, kσ⟩ (by simp only; omega) (by simp (disch := omega) only [subT, Int.natCast_add, Int.cast_ofNat_Int, go_sem, ↓if_pos, ne_eq, ↓reduceIte] <;> (repeat' apply And.intro) <;> first | rfl | (congr 1; omega) | assumption) rfl
      | true =>
        simp (disch := omega) only [hfc, hp1, hp2, go_sem, ↓if_pos, ne_eq, ↓reduceIte]
        generalize upd s3 b11 [.int .i64 x.at_, .int .i64 x.to, .int .i64 x.low, .int .i64 x.high] = s4 at *
        refine SRun.callR (l09Number_ok (n := x.low)) ⟨[], rfl, rfl⟩ rfl ?_
        simp (disch := omega) only [List.getD_cons_zero, List.getD_cons_succ, go_sem, ↓if_pos, ne_eq, ↓reduceIte]
        refine SRun.callR (l05Less_ok (ea := false) (eb := false) (us := port4) (ws := bits4 x.low) (by decide) rfl (sizeB_1 _)) ⟨[], rfl, rfl⟩ rfl ?_
        simp (disch := omega) only [List.getD_cons_zero, List.getD_cons_succ, go_sem, ↓if_pos, ne_eq, ↓reduceIte]
        rw [show port4.length = 4 from rfl]
        generalize lessE port4 (bits4 x.low) 4 = e1 at *
        refine SRun.callR (l05Ex_ok (k := 3) (ks := [e1]) (e := true)) ⟨[], rfl, rfl⟩ rfl ?_
        simp (disch := omega) only [List.getD_cons_zero, List.getD_cons_succ, go_sem, ↓if_pos, ne_eq, ↓reduceIte]
        refine SRun.allocR ?_
        intro b12 hb12
        have m3 := le_upd (cs := exC (nodeE 3 [e1])) hb12 _ _ k3
        have m6 := le_upd (cs := exC (nodeE 3 [e1])) hb12 _ _ k6
        have m9 := le_upd (cs := exC (nodeE 3 [e1])) hb12 _ _ k9
        have m11 := le_upd (cs := exC (nodeE 3 [e1])) hb12 _ _ k11
        have m12 := upd_same s4 b12 (exC (nodeE 3 [e1]))
        have mσ : ∀ d y, σ d = some y → upd s4 b12 (exC (nodeE 3 [e1])) d = some y := fun d y h => le_upd hb12 _ _ (kσ d y h)
        simp (disch := omega) only [m11, k11, go_sem, ↓if_pos, ne_eq, ↓reduceIte]
        generalize upd s4 b12 (exC (nodeE 3 [e1])) = s5 at *
        refine SRun.callR (l09Number_ok (n := x.high)) ⟨[], rfl, rfl⟩ rfl ?_
        simp (disch := omega) only [List.getD_cons_zero, List.getD_cons_succ, go_sem, ↓if_pos, ne_eq, ↓reduceIte]
        refine SRun.callR (l05Less_ok (ea := false) (eb := false) (us := bits4 x.high) (ws := port4) (by simp [bits4]) rfl (sizeB_2 _)) ⟨[], rfl, rfl⟩ rfl ?_
        simp (disch := omega) only [List.getD_cons_zero, List.getD_cons_succ, go_sem, ↓if_pos, ne_eq, ↓reduceIte]
        rw [show (bits4 x.high).length = 4 from rfl]
        generalize lessE (bits4 x.high) port4 4 = e2 at *
        refine SRun.callR (l05Ex_ok (k := 3) (ks := [e2]) (e := true)) ⟨[], rfl, rfl⟩ rfl ?_
        simp (disch := omega) only [List.getD_cons_zero, List.getD_cons_succ, go_sem, ↓if_pos, ne_eq, ↓reduceIte]
        refine SRun.allocR ?_
        intro b13 hb13
        have q3 := le_upd (cs := exC (nodeE 3 [e2])) hb13 _ _ m3
        have q6 := le_upd (cs := exC (nodeE 3 [e2])) hb13 _ _ m6
        have q9 := le_upd (cs := exC (nodeE 3 [e2])) hb13 _ _ m9
        have q12 := le_upd (cs := exC (nodeE 3 [e2])) hb13 _ _ m12
        have q13 := upd_same s5 b13 (exC (nodeE 3 [e2]))
        have qσ : ∀ d y, σ d = some y → upd s5 b13 (exC (nodeE 3 [e2])) d = some y := fun d y h => le_upd hb13 _ _ (mσ d y h)
        simp (disch := omega) only [go_sem, ↓if_pos, ne_eq, ↓reduceIte]
        generalize upd s5 b13 (exC (nodeE 3 [e2])) = s6 at *
        refine W_drawW ?_
        refine DRun.mixE rfl ?_
        simp (disch := omega) only [q9, q12, q13, go_sem, ↓if_pos, ne_eq, ↓reduceIte]
        refine DS.callB (l05Ex_ok (k := 4) (ks := [nodeE 3 [e1], nodeE 3 [e2]]) (e := true)) ⟨[], rfl, rfl⟩ rfl rfl ?_
        simp (disch := omega) only [go_sem, ↓if_pos, ne_eq, ↓reduceIte]
        refine DRun.callQ (l05Ex_ok (k := 5) (ks := [e, nodeE 4 [nodeE 3 [e1], nodeE 3 [e2]]]) (e := true)) ⟨[], rfl, rfl⟩ ?_
        rintro r s ⟨rfl, hs⟩
        obtain rfl := hs.symm
        simp (disch := omega) only [q9, go_sem, ↓if_pos, ne_eq, ↓reduceIte]
        have n39 : b3 ≠ b9 := n93.symm
        have n69 : b6 ≠ b9 := n96.symm
        exact ih (k + 1, upd s6 b9 (exC (nodeE 5 [e, nodeE 4 [nodeE 3 [e1], nodeE 3 [e2]]]))) _ _ ⟨by simp only; omega, by dsimp only; rw [upd_ne _ _ n39]; exact q3, by dsimp only; rw [upd_ne _ _ n69]; exact q6, by dsimp only; rw [hsucc]; exact upd_same _ _ _, fun d y h => by dsimp only; rw [upd_ne _ _ (hσ2 d y h).2.1]; exact qσ _ _ h⟩ (by simp only; omega) (by simp (disch := omega) only [subT, Int.natCast_add, Int.cast_ofNat_Int, go_sem, ↓if_pos, ne_eq, ↓reduceIte] <;> (repeat' apply And.intro) <;> first | rfl | (congr 1; omega) | assumption) rfl
    · have hkl : k = n.filters.length := by omega
      rw [hkl, List.take_length] at h9
      generalize filE a t n.filters = e at *
      simp (disch := omega) only [h9, h6, go_sem, ↓if_pos, ne_eq, ↓reduceIte]
      exact W_retC c114_ok (r := .agg (exC e)) (r' := exV e) (σ' := σ) (resV_cellA rfl (upd_same _ _ _) (exC_len e).symm) ⟨fun d x hd => by rw [upd_ne _ _ (hσ d x hd).1]; exact hle _ _ hd, by rw [agg_exC]; exact .refl _⟩ ⟨rfl, rfl⟩
end
section
attribute [local irreducible] SRun DS DRun
variable {Γ : St} {σ σ0 : St}
section
variable {us ws : List Ex} {S D : Nat}
theorem lessN_fine (hu : ∀ e ∈ us, Fine S D e) (hw : ∀ e ∈ ws, Fine S D e) : ∀ i, i ≤ us.length → i ≤ ws.length → Fine (1 + i * (6 + 4 * S)) (D + 2 + 2 * i) (lessE us ws i) := by
  intro i
  induction i with
  | zero => intro _ _; exact (Fine.const (by omega) (by omega)).mono (by omega) (by omega)
  | succ i ih =>
    intro h1 h2
    have hx := hu _ (getD_mem default (by omega : i < us.length))
    have hy := hw _ (getD_mem default (by omega : i < ws.length))
    have hl := ih (by omega) (by omega)
    have h1 := Fine.node2 (k := 5) (by simp) (Fine.node2 (k := 4) (by simp) hx.node1 hy) (Fine.node2 (k := 4) (by simp) (Fine.node2 (k := 6) (by simp) hx hy).node1 hl)
    refine h1.mono ?_ ?_
    · rw [Nat.add_mul]; omega
    · omega
end
theorem bitI_small4 : ((List.range 16).all fun x => (List.range 4).all fun i => decide (0 ≤ bitI (x : Int) i) && decide (bitI (x : Int) i ≤ 1)) = true := by kernel_rfl
theorem bitI_in4 {x : Int} {i : Nat} (h0 : 0 ≤ x) (h1 : x ≤ 15) (hi : i < 4) : 0 ≤ bitI x i ∧ bitI x i ≤ 1 := by
  have h := List.all_eq_true.1 bitI_small4 x.toNat (List.mem_range.2 (by omega))
  have h2 := List.all_eq_true.1 h i (List.mem_range.2 hi)
  rw [show ((x.toNat : Nat) : Int) = x by omega] at h2
  simpa using h2
theorem bits4_fine {n : Int} (h0 : 0 ≤ n) (h1 : n ≤ 15) : ∀ e ∈ bits4 n, Fine 1 1 e := by
  intro e he
  simp only [bits4, List.mem_map, List.mem_range] at he
  obtain ⟨i, hi, rfl⟩ := he
  have := bitI_in4 h0 h1 hi
  exact Fine.const this.1 this.2
theorem port4_fine : ∀ e ∈ port4, Fine 1 1 e := by
  intro e he
  simp only [port4, List.mem_map, List.mem_range] at he
  obtain ⟨i, hi, rfl⟩ := he
  exact Fine.var (by omega) (by omega)
/-- A filter's ports are right. -/
def FilOK (x : Fil) : Prop := 0 ≤ x.low ∧ x.low ≤ x.high ∧ x.high ≤ 15
theorem net_fils {n : Net} (h : netB n = true) : ∀ x ∈ n.filters, FilOK x := by
  intro x hx
  unfold netB at h
  simp only [Bool.and_eq_true] at h
  have hf := List.all_eq_true.1 h.1.1.1.2 x hx
  simp only [filOn, inB, Bool.and_eq_true, decide_eq_true_eq] at hf
  exact ⟨hf.1.2.1, hf.1.2.2, hf.2⟩
theorem step_fine {a t : Int} {x : Fil} {e : Ex} {S D : Nat} (hx : FilOK x) (he : Fine S D e) (hD : 13 ≤ D) : Fine (S + 90) (D + 1) (stepE a t e x) := by
  unfold stepE
  cases (decide (x.at_ = a) && decide (x.to = t)) with
  | false => exact he.mono (by omega) (by omega)
  | true =>
    have h1 := lessN_fine port4_fine (bits4_fine hx.1 (by have := hx.2; omega) : ∀ e ∈ bits4 x.low, Fine 1 1 e) 4 (by decide) (by simp [bits4])
    have h2 := lessN_fine (bits4_fine (by have := hx.1; have := hx.2; omega) hx.2.2 : ∀ e ∈ bits4 x.high, Fine 1 1 e) port4_fine 4 (by simp [bits4]) (by decide)
    have h3 := Fine.node2 (k := 5) (by simp) he (Fine.node2 (k := 4) (by simp) h1.node1 h2.node1)
    exact h3.mono (by omega) (by omega)
theorem filE_fine {a t : Int} : ∀ {fs : List Fil}, (∀ x ∈ fs, FilOK x) → Fine (1 + 90 * fs.length) (13 + fs.length) (filE a t fs) := by
  have : ∀ (fs : List Fil) (e : Ex) (S D : Nat), (∀ x ∈ fs, FilOK x) → Fine S D e → 13 ≤ D → Fine (S + 90 * fs.length) (D + fs.length) (fs.foldl (stepE a t) e) := by
    intro fs
    induction fs with
    | nil => intro e S D _ h _; exact h
    | cons x r ih =>
      intro e S D hx he hD
      have := ih (stepE a t e x) (S + 90) (D + 1) (fun y hy => hx y (by simp [hy])) (step_fine (hx x (by simp)) he hD) (by omega)
      simp only [List.foldl_cons, List.length_cons]
      exact this.mono (by omega) (by omega)
  intro fs hx
  exact this fs (constE 0) 1 13 hx ((Fine.const (by omega) (by omega)).mono (by omega) (by omega)) (by omega)
theorem FilterExs_ok {n : Net} {a t : Int} (hn : NetLen n) : Ret Try.prog Γ 44 [netV n, .int .i64 a, .int .i64 t] σ (fEx n a t) σ := by
  have hlen : (netC n).take 6 = netC n := rfl
  have hlen2 : (netC n).length = 6 := rfl
  have e0 : (netC n)[0]? = some (.isl false 1 (strsV n.routers)) := rfl
  have l1 := hn.routers
  have hdef : fEx n a t = (if !netB n then .tup [exV zeroE, .int .i64 1] else if !(routerB n.routers.length a && routerB n.routers.length t) then .tup [exV zeroE, .int .i64 5] else exA (filE a t n.filters)) := rfl
  have hbn : netB n = true → n.filters.length ≤ 6 := fun h => by
    unfold netB at h
    simp only [Bool.and_eq_true, decide_eq_true_eq] at h
    exact h.1.1.1.1.1.1.1.2
  have hfo : netB n = true → ∀ x ∈ n.filters, FilOK x := net_fils
  refine ret_of c44_ok rfl ?_
  simp (disch := omega) only [c44, netV, go_sem, ↓if_pos, ne_eq, ↓reduceIte]
  refine SRun.boxR (net_one n) ?_
  intro b3 hb3
  simp (disch := omega) only [go_sem, ↓if_pos, ne_eq, ↓reduceIte]
  refine SRun.allocR ?_
  intro b6 hb6
  have n63 := (upd_none.1 hb6).1
  have g3 : upd (upd σ b3 (netC n)) b6 [.int .i64 0, .int .i64 0, .isl true 0 []] b3 = some (netC n) := by rw [upd_ne _ _ n63.symm, upd_same]
  have g6 := upd_same (upd σ b3 (netC n)) b6 [.int .i64 0, .int .i64 0, .isl true 0 []]
  have hσ : ∀ d x, σ d = some x → d ≠ b6 ∧ upd (upd σ b3 (netC n)) b6 [.int .i64 0, .int .i64 0, .isl true 0 []] d = some x := fun d x h => ⟨fun e => by (subst e; rw [(upd_none.1 hb6).2] at h; cases h), le_upd hb6 _ _ (le_upd hb3 _ _ h)⟩
  simp (disch := omega) only [go_sem, ↓if_pos, ne_eq, ↓reduceIte]
  generalize upd (upd σ b3 (netC n)) b6 [.int .i64 0, .int .i64 0, .isl true 0 []] = s1 at *
  simp (disch := omega) only [g3, hlen, hlen2, go_sem, ↓if_pos, ne_eq, ↓reduceIte]
  refine SRun.callR (NetOK_ok hn) ⟨[], rfl, rfl⟩ rfl ?_
  have zero : ∀ (s : St) (c : Int), (∀ d x, σ d = some x → d ≠ b6 ∧ s d = some x) → Conv (upd s b6 [.int .i64 0, .int .i64 0, .isl true 0 []]) (.tup [.agg [.int .i64 0, .int .i64 0, .isl true 0 []], .int .i64 c]) σ (.tup [exV zeroE, .int .i64 c]) := fun s c h =>
    ⟨fun d x hd => by rw [upd_ne _ _ (h d x hd).1]; exact (h d x hd).2, frz_tup (by exact ⟨zeroE_frz, .refl _, trivial⟩)⟩
  generalize netB n = q1 at *
  cases q1 with
  | false =>
    rw [hdef]
    simp (disch := omega) only [g6, go_sem, ↓if_pos, ne_eq, ↓reduceIte]
    exact W_retC c44_ok (r := .tup [.agg [.int .i64 0, .int .i64 0, .isl true 0 []], .int .i64 1]) (r' := .tup [exV zeroE, .int .i64 1]) (σ' := σ) (resV_2E rfl (upd_same _ _ _) rfl) (zero s1 1 hσ) ⟨rfl, rfl⟩
  | true =>
  have hf6 := hbn rfl
  have hff := filE_fine (a := a) (t := t) (hfo rfl)
  simp (disch := omega) only [g3, e0, go_sem, ↓if_pos, ne_eq, ↓reduceIte]
  refine SRun.callR (l01In_ok a 0 ((n.routers.length : Int) - 1)) ⟨[], rfl, rfl⟩ rfl ?_
  rw [show (decide (0 ≤ a) && decide (a ≤ (n.routers.length : Int) - 1)) = routerB n.routers.length a from rfl]
  generalize routerB n.routers.length a = r1 at *
  cases r1 with
  | false =>
    rw [hdef]
    simp (disch := omega) only [g6, go_sem, ↓if_pos, ne_eq, ↓reduceIte]
    exact W_retC c44_ok (r := .tup [.agg [.int .i64 0, .int .i64 0, .isl true 0 []], .int .i64 5]) (r' := .tup [exV zeroE, .int .i64 5]) (σ' := σ) (resV_2E rfl (upd_same _ _ _) rfl) (zero s1 5 hσ) ⟨rfl, rfl⟩
  | true =>
  simp (disch := omega) only [g3, e0, go_sem, ↓if_pos, ne_eq, ↓reduceIte]
  refine SRun.callR (l01In_ok t 0 ((n.routers.length : Int) - 1)) ⟨[], rfl, rfl⟩ rfl ?_
  rw [show (decide (0 ≤ t) && decide (t ≤ (n.routers.length : Int) - 1)) = routerB n.routers.length t from rfl]
  generalize routerB n.routers.length t = r2 at *
  cases r2 with
  | false =>
    rw [hdef]
    simp (disch := omega) only [g6, go_sem, ↓if_pos, ne_eq, ↓reduceIte]
    exact W_retC c44_ok (r := .tup [.agg [.int .i64 0, .int .i64 0, .isl true 0 []], .int .i64 5]) (r' := .tup [exV zeroE, .int .i64 5]) (σ' := σ) (resV_2E rfl (upd_same _ _ _) rfl) (zero s1 5 hσ) ⟨rfl, rfl⟩
  | true =>
  have hdef2 : fEx n a t = exA (filE a t n.filters) := hdef
  rw [hdef2]
  clear hdef hdef2
  simp (disch := omega) only [g3, hlen, hlen2, go_sem, ↓if_pos, ne_eq, ↓reduceIte]
  refine SRun.callR (l09Filter_ok (n := n) (a := a) (t := t) hf6) ⟨[], rfl, rfl⟩ rfl ?_
  generalize filE a t n.filters = e at *
  simp (disch := omega) only [go_sem, ↓if_pos, ne_eq, ↓reduceIte]
  refine SRun.allocR ?_
  intro b8 hb8
  have k6 := le_upd (cs := exC e) hb8 _ _ g6
  have k8 := upd_same s1 b8 (exC e)
  have kσ : ∀ d y, σ d = some y → d ≠ b6 ∧ upd s1 b8 (exC e) d = some y := fun d y h => ⟨(hσ d y h).1, le_upd hb8 _ _ (hσ d y h).2⟩
  simp (disch := omega) only [go_sem, ↓if_pos, ne_eq, ↓reduceIte]
  generalize upd s1 b8 (exC e) = s2 at *
  refine SRun.callR (ExOKsG_ok (e := e) hff.right (by have := hff.depth; omega) (by have := hff.size; omega)) ⟨[], rfl, rfl⟩ rfl ?_
  have hA : exA e = bif okE e then .tup [exV e, .int .i64 0] else .tup [exV zeroE, .int .i64 11] := rfl
  rw [hA]
  cases okE e with
  | true =>
    dsimp only [cond_true]
    simp (disch := omega) only [k8, k6, go_sem, ↓if_pos, ne_eq, ↓reduceIte]
    exact W_retC c44_ok (r := .tup [.agg (exC e), .int .i64 0]) (r' := .tup [exV e, .int .i64 0]) (σ' := σ) (resV_2E rfl (upd_same _ _ _) (exC_len e).symm) ⟨fun d x hd => by rw [upd_ne _ _ (kσ d x hd).1]; exact (kσ d x hd).2, frz_tup (by exact ⟨by rw [agg_exC]; exact .refl _, .refl _, trivial⟩)⟩ ⟨rfl, rfl⟩
  | false =>
    dsimp only [cond_false]
    simp (disch := omega) only [k6, go_sem, ↓if_pos, ne_eq, ↓reduceIte]
    exact W_retC c44_ok (r := .tup [.agg [.int .i64 0, .int .i64 0, .isl true 0 []], .int .i64 11]) (r' := .tup [exV zeroE, .int .i64 11]) (σ' := σ) (resV_2E rfl (upd_same _ _ _) rfl) (zero s2 11 kσ) ⟨rfl, rfl⟩
theorem lessN_ev {us ws : List Ex} {bs : List Bool} {x y : Int} {N : Nat} (hu : ∀ i, i < N → evE bs (us.getD i default) = B3 x i) (hw : ∀ i, i < N → evE bs (ws.getD i default) = B3 y i) : ∀ i, i ≤ N → evE bs (lessE us ws i) = lessB x y i := by
  intro i
  induction i with
  | zero => intro _; simp [lessE, evE_const, lessB]
  | succ i ih =>
    intro hi
    simp only [lessE, evE_node _ 5 _ (by decide), evE_node _ 4 _ (by decide), evE_node _ 3 _ (by decide), evE_node _ 6 _ (by decide), evL, List.getD_cons_zero, List.getD_cons_succ, Int.reduceEq, ↓reduceIte, hu i (by omega), hw i (by omega), ih (by omega), lessB]
theorem less_small : ((List.range 16).all fun x => (List.range 16).all fun y => lessB (x : Int) (y : Int) 4 == decide ((x : Int) < (y : Int))) = true := by kernel_rfl
theorem less_in {x y : Int} (hx : 0 ≤ x ∧ x ≤ 15) (hy : 0 ≤ y ∧ y ≤ 15) : lessB x y 4 = decide (x < y) := by
  have h := List.all_eq_true.1 less_small x.toNat (List.mem_range.2 (by omega))
  have h2 := List.all_eq_true.1 h y.toNat (List.mem_range.2 (by omega))
  rw [show ((x.toNat : Nat) : Int) = x by omega, show ((y.toNat : Nat) : Int) = y by omega] at h2
  simpa using h2
theorem filE_ev {a t p : Int} (hp : 0 ≤ p ∧ p ≤ 15) {fs : List Fil} (hf : ∀ x ∈ fs, FilOK x) : evE (valuesP p 4) (filE a t fs) = fs.any (filtB a t p) := by
  have hport : ∀ i, i < 4 → evE (valuesP p 4) (port4.getD i default) = B3 p i := fun i hi => by
    have : port4.getD i default = varE (i : Nat) := by simp [port4, List.getD, hi]
    rw [this, evE_var, Int.toNat_natCast]
    simp only [valuesP, List.getD, List.getElem?_map, List.getElem?_range hi, Option.map_some, Option.getD_some]
    rfl
  have hbits : ∀ n : Int, ∀ i, i < 4 → evE (valuesP p 4) ((bits4 n).getD i default) = B3 n i := fun n i hi => by
    have : (bits4 n).getD i default = constE (bitI n i) := by simp [bits4, List.getD, hi]
    rw [this, evE_const]; rfl
  have hstep : ∀ (e : Ex) (x : Fil), FilOK x → evE (valuesP p 4) (stepE a t e x) = (evE (valuesP p 4) e || filtB a t p x) := fun e x hx => by
    unfold stepE filtB
    cases hc : (decide (x.at_ = a) && decide (x.to = t)) with
    | false => simp
    | true =>
      obtain ⟨h1, h2, h3⟩ := hx
      simp only [cond_true, evE_node _ 5 _ (by decide), evE_node _ 4 _ (by decide), evE_node _ 3 _ (by decide), evL, List.getD_cons_zero, List.getD_cons_succ, Int.reduceEq, ↓reduceIte]
      rw [lessN_ev hport (hbits x.low) 4 (by omega), lessN_ev (hbits x.high) hport 4 (by omega), less_in hp ⟨h1, by omega⟩, less_in ⟨by omega, h3⟩ hp]
      congr 1
      rw [Bool.true_and, ← decide_not, ← decide_not]
      congr 1
      · exact decide_eq_decide.2 (by omega)
      · exact decide_eq_decide.2 (by omega)
  have : ∀ (fs : List Fil) (e : Ex), (∀ x ∈ fs, FilOK x) → evE (valuesP p 4) (fs.foldl (stepE a t) e) = (evE (valuesP p 4) e || fs.any (filtB a t p)) := by
    intro fs
    induction fs with
    | nil => intro e _; simp
    | cons x r ih =>
      intro e hx
      rw [List.foldl_cons, ih _ (fun y hy => hx y (by simp [hy])), hstep e x (hx x (by simp)), List.any_cons, Bool.or_assoc]
  unfold filE
  rw [this fs _ hf, evE_const]
  simp
end
section
attribute [local irreducible] SRun DS DRun
variable {Γ : St} {σ σ0 : St}
def fnet (fs : List Fil) : Net := ⟨[[97], [98]], [⟨0, 1, 1⟩], [], [], [], fs⟩
def FD (x : Fil) : Prop := x.at_ = 0 ∧ x.to = 1 ∧ FilOK x
theorem fil1_ok (x : Fil) : ∀ y ∈ [V.agg (filC x)], y.cells.length = 4 ∧ ∀ c ∈ y.cells, c.one = true := by
  intro y hy; rw [List.mem_singleton.1 hy]; simp [V.cells, filC, V.one]
theorem fils_app (fs : List Fil) (x : Fil) : filsV fs ++ [.agg (filC x)] = filsV (fs ++ [x]) := by simp [filsV]
def netR (q : V) : List V := [.isl true 1 [.str [97], .str [98]], .isl true 3 [.agg [.int .i64 0, .int .i64 1, .int .i64 1]], .isl true 0 [], .isl true 0 [], .isl true 0 [], q]
set_option maxHeartbeats 1000000 in
theorem filtered_ok {b : Nat} {ex : Bool} {code : List UInt8} {s : Int} (hb : σ b = some (srcC ex code 0 s)) (hs : 0 ≤ s ∧ s < 2147483648) :
    ACalls Try.prog Γ 105 [.ptr b 0] σ fun r σ' => ∃ fs a' s', fs.length ≤ 3 ∧ (∀ x ∈ fs, FD x) ∧ r = netV (fnet fs) ∧ σ' = upd σ b (srcC ex code a' s') := by
  refine acalls_W c105_ok rfl ?_
  simp (disch := omega) only [c105, go_sem, ↓if_pos, ne_eq, ↓reduceIte]
  refine SRun.allocR ?_
  intro b2 hb2
  have e2 : b2 ≠ b := fun e => by subst e; rw [hb] at hb2; cases hb2
  simp (disch := omega) only [go_sem, ↓if_pos, ne_eq, ↓reduceIte]
  refine SRun.allocR ?_
  intro b3 hb3
  have n3 := upd_none.1 hb3
  have e3 : b3 ≠ b := fun e => by subst e; rw [hb] at n3; cases n3.2
  have n32 := n3.1
  simp (disch := omega) only [go_sem, ↓if_pos, ne_eq, ↓reduceIte]
  have Z : ∀ z, upd (upd σ b2 [V.isl true 0 [], V.isl true 0 [], V.isl true 0 [], V.isl true 0 [], V.isl true 0 [], V.isl true 0 []]) b3 z b = some (srcC ex code 0 s) := fun z => by rw [upd_ne _ _ e3.symm, upd_ne _ _ e2.symm]; exact hb
  refine SRun.callQ (next_ok (Z _) (by omega) hs) ⟨[], rfl, rfl⟩ rfl ?_
  rintro r σ1 ⟨w, a1, s1, j1, j2, j3, j4, j5, j6, j7, rfl, rfl⟩
  have hw := j3 (by omega)
  obtain ⟨w, rfl⟩ : ∃ w' : Nat, w = w' := ⟨w.toNat, by omega⟩
  have hst : upd (upd (upd σ b2 [V.isl true 0 [], V.isl true 0 [], V.isl true 0 [], V.isl true 0 [], V.isl true 0 [], V.isl true 0 []]) b3 [V.isl true 1 [V.str [97], V.str [98]], V.isl true 3 [V.agg [V.int IntKind.i64 0, V.int IntKind.i64 1, V.int IntKind.i64 1]], V.isl true 0 [], V.isl true 0 [], V.isl true 0 [], V.isl true 0 []]) b (srcC ex code a1 s1) = upd (upd (upd σ b2 [V.isl true 0 [], V.isl true 0 [], V.isl true 0 [], V.isl true 0 [], V.isl true 0 [], V.isl true 0 []]) b (srcC ex code a1 s1)) b3 (netR (.isl true 0 [])) := upd_comm _ e3 _ _
  rw [hst]
  simp (disch := omega) only [go_sem, ↓if_pos, ne_eq, ↓reduceIte]
  refine W_loopC (α := List Fil × Int × Int × V × St) (fun p => p.1.length ≤ w ∧ (∀ x ∈ p.1, FD x) ∧ 0 ≤ p.2.1 ∧ p.2.1 ≤ 3 + 6 * p.1.length ∧ 0 ≤ p.2.2.1 ∧ p.2.2.1 < 2147483648 ∧ OwnL (upd (upd (upd σ b2 [V.isl true 0 [], V.isl true 0 [], V.isl true 0 [], V.isl true 0 [], V.isl true 0 [], V.isl true 0 []]) b (srcC ex code p.2.1 p.2.2.1)) b3 (netR p.2.2.2.1)) 4 (filsV p.1) p.2.2.2.1 p.2.2.2.2)
    (fun p => [(0, .ptr b 0), (2, .ptr b2 0), (3, .ptr b3 0), (4, .int .i64 ((w : Int) - p.1.length))]) (fun p => p.2.2.2.2) (fun p => w - p.1.length) ([], a1, s1, .isl true 0 [], _) ⟨by simp, by simp, by simp only; omega, by simp only [List.length_nil]; omega, j6, j7, OwnL.nil _ _⟩ (by simp (disch := omega) only [subT, Int.natCast_add, Int.cast_ofNat_Int, go_sem, ↓if_pos, ne_eq, ↓reduceIte] <;> (repeat' apply And.intro) <;> first | rfl | (congr 1; omega) | assumption) rfl ?_
  rintro ⟨fs, a3, s3, q, σ3⟩ ⟨hfl, hall, ha3, ha4, hs3, hs4, ho⟩ ih
  dsimp only at hfl hall ha3 ha4 hs3 hs4 ho
  have gb := ho.get (b := b) (c := srcC ex code a3 s3) (by rw [upd_ne _ _ e3.symm, upd_same])
  have g3 := ho.get (upd_same _ b3 _)
  have hq1 := ho.one
  simp (disch := omega) only [go_sem, ↓if_pos, ne_eq, ↓reduceIte]
  first | refine iteW_dec (fun h2 => ?_) (fun h2 => ?_) | refine iteW_of (fun h2 => ?_) (fun h2 => ?_)
  · simp (disch := omega) only [go_sem, ↓if_pos, ne_eq, ↓reduceIte]
    refine SRun.callQ (next_ok gb (by omega) ⟨hs3, hs4⟩) ⟨[], rfl, rfl⟩ rfl ?_
    rintro r σ4 ⟨low, a4, s4, k1, k2, k3, k4, k5, k6, k7, rfl, rfl⟩
    have hl16 := k3 (by omega)
    have ho2 := ho.upd (b := b) (c := srcC ex code a3 s3) (c' := srcC ex code a4 s4) (by rw [upd_ne _ _ e3.symm, upd_same])
    rw [upd_comm _ e3, upd_upd] at ho2
    have gb2 := ho2.get (b := b) (c := srcC ex code a4 s4) (by rw [upd_ne _ _ e3.symm, upd_same])
    have g32 := ho2.get (upd_same _ b3 _)
    generalize upd σ3 b (srcC ex code a4 s4) = σ5 at *
    have g3d : del σ5 b b3 = some (netR q) := by rw [del_ne _ e3]; exact g32
    have hnr : netR q = [.isl true 1 [.str [97], .str [98]], .isl true 3 [.agg [.int .i64 0, .int .i64 1, .int .i64 1]], .isl true 0 [], .isl true 0 [], .isl true 0 [], q] := rfl
    simp (disch := omega) only [go_sem, ↓if_pos, ne_eq, ↓reduceIte]
    rw [W_draw]
    refine DRun.start (DRun.mix1 gb2 rfl ?_)
    simp (disch := omega) only [g3d, hnr, go_sem, ↓if_pos, ne_eq, ↓reduceIte]
    refine DS.callQ (next_ok (upd_same emp b (srcC ex code a4 s4)) (by omega) ⟨k6, k7⟩) ⟨[], rfl, rfl⟩ rfl ?_
    rintro r sx ⟨v, a5, s5, l1, l2, l3, l4, l5, l6, l7, rfl, rfl⟩ _
    have hv := l3 (by omega)
    rw [upd_upd]
    simp (disch := omega) only [go_sem, ↓if_pos, ne_eq, ↓reduceIte]
    refine ⟨_, rfl, ?_⟩
    have ho3 := ho2.upd (b := b) (c := srcC ex code a4 s4) (c' := srcC ex code a5 s5) (by rw [upd_ne _ _ e3.symm, upd_same])
    rw [upd_comm _ e3, upd_upd] at ho3
    refine DRun.appL ho3 rfl (fil1_ok ⟨0, 1, low, low + v⟩) (by rw [filsV_len]; simp only [List.length_singleton]; omega) ?_
    intro q' σ6 ho4
    have hap : filsV fs ++ [V.agg [.int .i64 0, .int .i64 1, .int .i64 low, .int .i64 (low + v)]] = filsV (fs ++ [⟨0, 1, low, low + v⟩]) := fils_app fs ⟨0, 1, low, low + v⟩
    rw [hap] at ho4
    have g34 := ho4.get (upd_same _ b3 _)
    simp (disch := omega) only [g34, hnr, ho4.one, ho4.cells, go_sem, ↓if_pos, ne_eq, ↓reduceIte]
    have ho5 := ho4.upd (c' := netR q') (upd_same _ b3 _)
    rw [upd_upd] at ho5
    refine ih (fs ++ [⟨0, 1, low, low + v⟩], a5, s5, q', upd σ6 b3 (netR q')) _ _ ⟨by simp only [List.length_append, List.length_singleton]; omega, ?_, by simp only; omega, by simp only [List.length_append, List.length_singleton]; omega, l6, l7, ho5⟩ (by simp only [List.length_append, List.length_singleton]; omega) (by simp (disch := omega) only [subT, Int.natCast_add, Int.cast_ofNat_Int, List.length_append, List.length_singleton, go_sem, ↓if_pos, ne_eq, ↓reduceIte] <;> (repeat' apply And.intro) <;> first | rfl | (congr 1; omega) | assumption) rfl
    intro x hx
    rcases List.mem_append.1 hx with hx | hx
    · exact hall x hx
    · rw [List.mem_singleton.1 hx]; exact ⟨rfl, rfl, k1, by simp only; omega, by simp only; omega⟩
  · have hnr : netR q = [.isl true 1 [.str [97], .str [98]], .isl true 3 [.agg [.int .i64 0, .int .i64 1, .int .i64 1]], .isl true 0 [], .isl true 0 [], .isl true 0 [], q] := rfl
    have g2 := ho.get (b := b2) (c := [V.isl true 0 [], V.isl true 0 [], V.isl true 0 [], V.isl true 0 [], V.isl true 0 [], V.isl true 0 []]) (by rw [upd_ne _ _ n32.symm, upd_ne _ _ e2, upd_same])
    simp (disch := omega) only [g3, g2, hnr, hq1, ho.cells, go_sem, ↓if_pos, ne_eq, ↓reduceIte]
    have hq : Frz (upd σ3 b2 [.isl true 1 [.str [97], .str [98]], .isl true 3 [.agg [.int .i64 0, .int .i64 1, .int .i64 1]], .isl true 0 [], .isl true 0 [], .isl true 0 [], q]) (upd σ b (srcC ex code a3 s3)) q (.isl false 4 (filsV fs)) := ho.frz (fun d hd => by
      rw [upd_none, upd_none, upd_none] at hd
      rw [upd_ne _ _ hd.2.2.1]) (fun d hd => by
      rw [upd_none, upd_none, upd_none] at hd
      rw [upd_none]; exact ⟨hd.2.1, hd.2.2.2⟩)
    refine W_retC c105_ok (r := .agg [.isl true 1 [.str [97], .str [98]], .isl true 3 [.agg [.int .i64 0, .int .i64 1, .int .i64 1]], .isl true 0 [], .isl true 0 [], .isl true 0 [], q]) (σ' := upd σ b (srcC ex code a3 s3)) (r' := netV (fnet fs)) (resV_cellA rfl (upd_same _ _ _) rfl) ⟨fun d x hd => ?_, frz_agg (by exact ⟨.isl _ _ _, .isl _ _ _, frz_nil _ _, frz_nil _ _, frz_nil _ _, hq, trivial⟩) (net_one (fnet fs))⟩ ⟨fs, a3, s3, by omega, hall, rfl, rfl⟩
    have hd2 : d ≠ b2 := fun e => by subst e; rw [upd_ne _ _ e2, hb2] at hd; cases hd
    have hd3 : d ≠ b3 := fun e => by subst e; rw [upd_ne _ _ e3, n3.2] at hd; cases hd
    rw [upd_ne _ _ hd2]
    refine ho.get ?_
    rw [upd_ne _ _ hd3]
    exact le_box hb2 hb _ _ hd
theorem FilteredOf_ok {ex : Bool} {code : List UInt8} (hl : code.length ≤ 140737488355328) : ACalls Try.prog Γ 42 [codeV ex code] σ fun r σ' => ∃ fs, fs.length ≤ 3 ∧ (∀ x ∈ fs, FD x) ∧ r = netV (fnet fs) ∧ σ' = σ := by
  refine acalls_W c42_ok rfl ?_
  simp (disch := omega) only [c42, go_sem, ↓if_pos, ne_eq, ↓reduceIte]
  refine SRun.allocR ?_
  intro b2 hb2
  simp (disch := omega) only [go_sem, ↓if_pos, ne_eq, ↓reduceIte]
  refine SRun.callQ (source_ok hl) ⟨[], rfl, rfl⟩ rfl ?_
  rintro r σ1 ⟨b, s, hb, hs1, hs2, rfl, rfl⟩
  have nb := upd_none.1 hb
  simp (disch := omega) only [go_sem, ↓if_pos, ne_eq, ↓reduceIte]
  refine SRun.callQ (filtered_ok (upd_same _ b (srcC ex code 0 s)) ⟨hs1, hs2⟩) ⟨[], rfl, rfl⟩ rfl ?_
  rintro r σ3 ⟨fs, a3, s3, q1, q2, rfl, rfl⟩
  rw [upd_upd]
  have g2 : ∀ c, upd (upd σ b2 [V.isl true 0 [], V.isl true 0 [], V.isl true 0 [], V.isl true 0 [], V.isl true 0 [], V.isl true 0 []]) b c b2 = some [V.isl true 0 [], V.isl true 0 [], V.isl true 0 [], V.isl true 0 [], V.isl true 0 [], V.isl true 0 []] := fun c => by rw [upd_ne _ _ nb.1.symm, upd_same]
  have hne := net_one (fnet fs)
  have hnc : netV (fnet fs) = .agg (netC (fnet fs)) := rfl
  have hlen2 : (netC (fnet fs)).length = 6 := rfl
  have hone : (∀ c, c ∈ netC (fnet fs) → c.one = true) = True := eq_true hne
  have hsets : sets [V.isl true 0 [], V.isl true 0 [], V.isl true 0 [], V.isl true 0 [], V.isl true 0 [], V.isl true 0 []] 0 (netC (fnet fs)) = netC (fnet fs) := rfl
  rw [hnc]
  simp (disch := omega) only [g2, hlen2, hone, hsets, go_sem, ↓if_pos, ne_eq, ↓reduceIte]
  refine W_retC c42_ok (r := .agg (netC (fnet fs))) (σ' := σ) (r' := netV (fnet fs)) (resV_cellA rfl (upd_same _ _ _) rfl) (Conv.drop _ fun c x hc => ?_) ⟨fs, q1, q2, rfl, rfl⟩
  have hc2 : c ≠ b2 := fun e => by subst e; rw [hb2] at hc; cases hc
  have hcb : c ≠ b := fun e => by subst e; rw [nb.2] at hc; cases hc
  rw [upd_ne _ _ hc2, upd_ne _ _ hcb, upd_ne _ _ hc2]; exact hc
end
section
attribute [local irreducible] SRun DS DRun
variable {Γ : St} {σ σ0 : St}
theorem fnet_len (fs : List Fil) (h : fs.length ≤ 3) : NetLen (fnet fs) := by
  refine ⟨by simp [fnet], ?_, by simp [fnet], by simp [fnet], by simp [fnet], by simp [fnet], ?_⟩
  · intro s hs
    simp only [fnet, List.mem_cons, List.not_mem_nil, or_false] at hs
    rcases hs with rfl | rfl <;> simp
  · show fs.length ≤ _; omega
theorem fnet_ok {fs : List Fil} (h : fs.length ≤ 3) (hd : ∀ x ∈ fs, FD x) : netB (fnet fs) = true := by
  have h1 : (List.range 2).all (nameAt [[97], [98]]) = true := by rfl
  have h2 : (List.range 1).all (linkAt 2 [⟨0, 1, 1⟩]) = true := by rfl
  have h3 : fs.all (filOn [⟨0, 1, 1⟩]) = true := by
    rw [List.all_eq_true]
    intro x hx
    obtain ⟨e1, e2, e3, e4, e5⟩ := hd x hx
    have hl : linkP [⟨0, 1, 1⟩] 0 1 = 0 := by rfl
    simp only [filOn, inB, e1, e2, hl, Bool.and_eq_true, decide_eq_true_eq]
    omega
  have h4 : decide (fs.length ≤ 6) = true := decide_eq_true (by omega)
  show (decide (1 ≤ 2) && decide (2 ≤ 4) && decide (1 ≤ 6) && decide (0 ≤ 12) && decide (fs.length ≤ 6) && (List.range 2).all (nameAt [[97], [98]]) && (List.range 1).all (linkAt 2 [⟨0, 1, 1⟩]) && [].all (impOn [⟨0, 1, 1⟩]) && fs.all (filOn [⟨0, 1, 1⟩]) && risingB 2 [] && risingB 2 [] && decide (0 ≤ 2)) = true
  rw [h1, h2, h3, h4]
  rfl
theorem fnet_ex {fs : List Fil} (h : fs.length ≤ 3) (hd : ∀ x ∈ fs, FD x) : okE (filE 0 1 fs) = true := by
  have hf := filE_fine (a := 0) (t := 1) (fs := fs) fun x hx => (hd x hx).2.2
  have h1 := hf.size
  have h2 := hf.depth
  simp only [okE, Bool.and_eq_true, decide_eq_true_eq]
  exact ⟨⟨hf.right, by omega⟩, by omega⟩
theorem filE_most : ∀ {fs : List Fil}, mostE (filE 0 1 fs) ≤ 3 := by
  have hc : ∀ n, mostE (constE n) ≤ 3 := fun n => by simp [constE, mostE, mostL]
  have hn : ∀ (k : Int) (ks : List Ex), k ≠ 1 → (∀ e ∈ ks, mostE e ≤ 3) → mostE (nodeE k ks) ≤ 3 := fun k ks hk h => by
    simp only [nodeE, mostE]; rw [if_neg hk]
    have : ∀ l : List Ex, (∀ e ∈ l, mostE e ≤ 3) → mostL l ≤ 3 := by
      intro l
      induction l with
      | nil => intro _; simp [mostL]
      | cons a r ih => intro h; simp only [mostL]; have := h a (by simp); have := ih fun e he => h e (by simp [he]); omega
    have := this ks h
    omega
  have hp : ∀ e ∈ port4, mostE e ≤ 3 := by
    intro e he
    simp only [port4, List.mem_map, List.mem_range] at he
    obtain ⟨i, hi, rfl⟩ := he
    simp [varE, mostE, mostL]; omega
  have hb : ∀ n, ∀ e ∈ bits4 n, mostE e ≤ 3 := by
    intro n e he
    simp only [bits4, List.mem_map, List.mem_range] at he
    obtain ⟨i, hi, rfl⟩ := he
    exact hc _
  have hless : ∀ (us ws : List Ex), (∀ e ∈ us, mostE e ≤ 3) → (∀ e ∈ ws, mostE e ≤ 3) → ∀ i, i ≤ us.length → i ≤ ws.length → mostE (lessE us ws i) ≤ 3 := by
    intro us ws hu hw i
    induction i with
    | zero => intro _ _; exact hc 0
    | succ i ih =>
      intro h1 h2
      have hx := hu _ (getD_mem default (by omega : i < us.length))
      have hy := hw _ (getD_mem default (by omega : i < ws.length))
      have hl := ih (by omega) (by omega)
      simp only [lessE]
      refine hn 5 _ (by decide) ?_
      simp only [List.mem_cons, List.not_mem_nil, or_false, forall_eq_or_imp, forall_eq]
      refine ⟨hn 4 _ (by decide) ?_, hn 4 _ (by decide) ?_⟩
      · simp only [List.mem_cons, List.not_mem_nil, or_false, forall_eq_or_imp, forall_eq]
        exact ⟨hn 3 _ (by decide) (by simpa using hx), hy⟩
      · simp only [List.mem_cons, List.not_mem_nil, or_false, forall_eq_or_imp, forall_eq]
        refine ⟨hn 3 _ (by decide) ?_, hl⟩
        simp only [List.mem_cons, List.not_mem_nil, or_false, forall_eq]
        refine hn 6 _ (by decide) ?_
        simp only [List.mem_cons, List.not_mem_nil, or_false, forall_eq_or_imp, forall_eq]
        exact ⟨hx, hy⟩
  have : ∀ (fs : List Fil) (e : Ex), mostE e ≤ 3 → mostE (fs.foldl (stepE 0 1) e) ≤ 3 := by
    intro fs
    induction fs with
    | nil => intro e h; exact h
    | cons x r ih =>
      intro e h
      rw [List.foldl_cons]
      refine ih _ ?_
      unfold stepE
      cases (decide (x.at_ = 0) && decide (x.to = 1)) with
      | false => exact h
      | true =>
        refine hn 5 _ (by decide) ?_
        simp only [List.mem_cons, List.not_mem_nil, or_false, forall_eq_or_imp, forall_eq]
        refine ⟨h, hn 4 _ (by decide) ?_⟩
        simp only [List.mem_cons, List.not_mem_nil, or_false, forall_eq_or_imp, forall_eq]
        refine ⟨hn 3 _ (by decide) ?_, hn 3 _ (by decide) ?_⟩
        · simpa using hless port4 (bits4 x.low) hp (hb _) 4 (by decide) (by simp [bits4])
        · simpa using hless (bits4 x.high) port4 (hb _) hp 4 (by simp [bits4]) (by decide)
  intro fs
  exact this fs _ (hc 0)
set_option maxHeartbeats 2000000 in
theorem fnFilters_ok {ex ex2 : Bool} {code more : List UInt8} (hl1 : code.length ≤ 140737488355328) (hl2 : more.length ≤ 140737488355328) : Ret Try.prog Γ 7 [codeV ex code, codeV ex2 more] σ (.bool true) σ := by
  refine ret_of c7_ok rfl ?_
  simp (disch := omega) only [c7, codeV, go_sem, ↓if_pos, ne_eq, ↓reduceIte]
  first | refine guardW_dec (fun h => ?_) (fun h => ?_) | refine guardW_by (fun h => ?_) (fun h => ?_)
  · simp (disch := omega) only [go_sem, ↓if_pos, ne_eq, ↓reduceIte]
    refine W_retR c7_ok rfl ⟨?_, rfl⟩
    simp only [look, ev, V.bool.injEq, V.int.injEq, V.str.injEq, V.tup.injEq, V.agg.injEq, V.isl.injEq, List.cons.injEq, true_and, and_true, Nat.reduceEqDiff, Nat.reduceAdd, Nat.reduceSub, Nat.reduceMul, Nat.reducePow, Nat.reduceDiv, Nat.reduceMod, Int.reduceToNat, Nat.reduceLeDiff, Nat.reduceLT, Int.reduceEq, Int.reduceLT, Int.reduceLE, Int.reduceGT, Int.reduceGE, Int.reduceNeg, Int.reduceSub, Int.reduceAdd, Int.reduceMul, Int.reducePow, ne_eq, reduceCtorEq, ↓reduceIte]
  simp (disch := omega) only [go_sem, ↓if_pos, ne_eq, ↓reduceIte]
  first | refine iteW_dec (fun h2 => ?_) (fun h2 => ?_) | refine iteW_of (fun h2 => ?_) (fun h2 => ?_)
  · simp (disch := omega) only [go_sem, ↓if_pos, ne_eq, ↓reduceIte]
    refine W_retR c7_ok rfl ⟨?_, rfl⟩
    simp only [look, ev, V.bool.injEq, V.int.injEq, V.str.injEq, V.tup.injEq, V.agg.injEq, V.isl.injEq, List.cons.injEq, true_and, and_true, Nat.reduceEqDiff, Nat.reduceAdd, Nat.reduceSub, Nat.reduceMul, Nat.reducePow, Nat.reduceDiv, Nat.reduceMod, Int.reduceToNat, Nat.reduceLeDiff, Nat.reduceLT, Int.reduceEq, Int.reduceLT, Int.reduceLE, Int.reduceGT, Int.reduceGE, Int.reduceNeg, Int.reduceSub, Int.reduceAdd, Int.reduceMul, Int.reducePow, ne_eq, reduceCtorEq, ↓reduceIte]
  simp (disch := omega) only [go_sem, ↓if_pos, ne_eq, ↓reduceIte]
  refine SRun.callQ (FilteredOf_ok (ex := ex) (code := code) hl1) ⟨[], rfl, rfl⟩ rfl ?_
  rintro r s ⟨fs, hfl, hfd, rfl, hs⟩
  obtain rfl := hs.symm
  have hn := fnet_len fs hfl
  have hB := fnet_ok hfl hfd
  have hE := fnet_ex hfl hfd
  have hev := fun (p : Int) (hp : 0 ≤ p ∧ p ≤ 15) => filE_ev (a := 0) (t := 1) hp (fs := fs) fun x hx => (hfd x hx).2.2
  have hlen2 : ∀ fs, (netC (fnet fs)).length = 6 := fun _ => rfl
  have hlen : ∀ fs, (netC (fnet fs)).take 6 = netC (fnet fs) := fun _ => rfl
  have hone : ∀ fs, (∀ c, c ∈ netC (fnet fs) → c.one = true) = True := fun fs => eq_true (net_one (fnet fs))
  have hsets : ∀ fs, sets [V.isl true 0 [], V.isl true 0 [], V.isl true 0 [], V.isl true 0 [], V.isl true 0 [], V.isl true 0 []] 0 (netC (fnet fs)) = netC (fnet fs) := fun _ => rfl
  have hnc : ∀ fs, netV (fnet fs) = .agg (netC (fnet fs)) := fun _ => rfl
  rw [hnc]
  simp (disch := omega) only [go_sem, ↓if_pos, ne_eq, ↓reduceIte]
  refine SRun.allocR ?_
  intro b5 hb5
  simp (disch := omega) only [hlen2, hone, hsets, go_sem, ↓if_pos, ne_eq, ↓reduceIte]
  refine SRun.callQ (FilteredOf_ok (ex := ex2) (code := more) hl2) ⟨[], rfl, rfl⟩ rfl ?_
  rintro r s ⟨ms, hml, hmd, rfl, hs⟩
  obtain rfl := hs.symm
  have hn' := fnet_len ms hml
  have hB' := fnet_ok hml hmd
  have hE' := fnet_ex hml hmd
  have hev' := fun (p : Int) (hp : 0 ≤ p ∧ p ≤ 15) => filE_ev (a := 0) (t := 1) hp (fs := ms) fun x hx => (hmd x hx).2.2
  rw [hnc]
  simp (disch := omega) only [go_sem, ↓if_pos, ne_eq, ↓reduceIte]
  refine SRun.allocR ?_
  intro b6 hb6
  have n65 := (upd_none.1 hb6).1
  simp (disch := omega) only [hlen2, hone, hsets, go_sem, ↓if_pos, ne_eq, ↓reduceIte]
  have g5 : upd (upd σ b5 (netC (fnet fs))) b6 (netC (fnet ms)) b5 = some (netC (fnet fs)) := by rw [upd_ne _ _ n65.symm, upd_same]
  have g6 := upd_same (upd σ b5 (netC (fnet fs))) b6 (netC (fnet ms))
  have hσ : ∀ d x, σ d = some x → upd (upd σ b5 (netC (fnet fs))) b6 (netC (fnet ms)) d = some x := fun d x h => le_upd hb6 _ _ (le_upd hb5 _ _ h)
  generalize upd (upd σ b5 (netC (fnet fs))) b6 (netC (fnet ms)) = s1 at *
  have hX : fEx (fnet fs) 0 1 = .tup [exV (filE 0 1 fs), .int .i64 0] := by
    unfold fEx; rw [hB]; show exA (filE 0 1 fs) = _; unfold exA; rw [hE]; rfl
  have hY : fEx (fnet ms) 0 1 = .tup [exV (filE 0 1 ms), .int .i64 0] := by
    unfold fEx; rw [hB']; show exA (filE 0 1 ms) = _; unfold exA; rw [hE']; rfl
  have hA : fApart (fnet fs) 0 1 (fnet ms) 0 1 = apartA (fun p => fs.any (filtB 0 1 p)) (fun p => ms.any (filtB 0 1 p)) := by
    unfold fApart; rw [hB, hB']; rfl
  have F1 := fun Γ σ => FilterEx_ok (Γ := Γ) (σ := σ) (a := 0) (t := 1) hn
  have F2 := fun Γ σ => FilterEx_ok (Γ := Γ) (σ := σ) (a := 0) (t := 1) hn'
  have F3 := fun Γ σ => FilterExs_ok (Γ := Γ) (σ := σ) (a := 0) (t := 1) hn
  have F4 := fun Γ σ => FilterApart_ok (Γ := Γ) (σ := σ) (a := 0) (t := 1) (b := 0) (u := 1) hn hn'
  have F5 := fun Γ σ => FilterAparts_ok (Γ := Γ) (σ := σ) (a := 0) (t := 1) (b := 0) (u := 1) hn hn'
  rw [hX] at F1 F3
  rw [hY] at F2
  rw [hA] at F4 F5
  have hm1 : mostE (filE 0 1 fs) ≤ 3 := filE_most
  have hm2 : mostE (filE 0 1 ms) ≤ 3 := filE_most
  generalize filE 0 1 fs = e1 at *
  generalize filE 0 1 ms = e2 at *
  obtain ⟨pv, ec, hpe, hfact⟩ : ∃ pv ec : Int, apartA (fun p => fs.any (filtB 0 1 p)) (fun p => ms.any (filtB 0 1 p)) = .tup [.int .i64 pv, .int .i64 ec] ∧ ((∃ j : Nat, j < 16 ∧ pv = j ∧ ec = 0 ∧ fs.any (filtB 0 1 j) ≠ ms.any (filtB 0 1 j) ∧ ∀ i : Nat, i < j → fs.any (filtB 0 1 i) = ms.any (filtB 0 1 i)) ∨ (ec = 6 ∧ ∀ i : Nat, i < 16 → fs.any (filtB 0 1 i) = ms.any (filtB 0 1 i))) := by
    unfold apartA
    cases ha : apartP (fun p => fs.any (filtB 0 1 p)) (fun p => ms.any (filtB 0 1 p)) with
    | none =>
      refine ⟨_, _, rfl, .inr ⟨rfl, fun i hi => ?_⟩⟩
      unfold apartP at ha
      rw [List.findIdx?_eq_none_iff] at ha
      simpa using ha i (List.mem_range.2 hi)
    | some j =>
      unfold apartP at ha
      rw [List.findIdx?_eq_some_iff_getElem] at ha
      obtain ⟨hj, hd, hno⟩ := ha
      rw [List.length_range] at hj
      refine ⟨_, _, rfl, .inl ⟨j, hj, rfl, rfl, by simpa using hd, fun i hi => by simpa using hno i hi⟩⟩
  rw [hpe] at F4 F5
  simp (disch := omega) only [g5, hlen, hlen2, go_sem, ↓if_pos, ne_eq, ↓reduceIte]
  refine SRun.callR (F1 _ _) ⟨[], rfl, rfl⟩ rfl ?_
  simp (disch := omega) only [go_sem, ↓if_pos, ne_eq, ↓reduceIte]
  refine SRun.allocR ?_
  intro b7 hb7
  have k5 := le_upd (cs := exC e1) hb7 _ _ g5
  have k6 := le_upd (cs := exC e1) hb7 _ _ g6
  have k7 := upd_same s1 b7 (exC e1)
  have kσ : ∀ d x, σ d = some x → upd s1 b7 (exC e1) d = some x := fun d x h => le_upd hb7 _ _ (hσ d x h)
  simp (disch := omega) only [go_sem, ↓if_pos, ne_eq, ↓reduceIte]
  generalize upd s1 b7 (exC e1) = s2 at *
  simp (disch := omega) only [k6, hlen, hlen2, go_sem, ↓if_pos, ne_eq, ↓reduceIte]
  refine SRun.callR (F2 _ _) ⟨[], rfl, rfl⟩ rfl ?_
  simp (disch := omega) only [go_sem, ↓if_pos, ne_eq, ↓reduceIte]
  refine SRun.allocR ?_
  intro b9 hb9
  have m5 := le_upd (cs := exC e2) hb9 _ _ k5
  have m6 := le_upd (cs := exC e2) hb9 _ _ k6
  have m7 := le_upd (cs := exC e2) hb9 _ _ k7
  have m9 := upd_same s2 b9 (exC e2)
  have mσ : ∀ d x, σ d = some x → upd s2 b9 (exC e2) d = some x := fun d x h => le_upd hb9 _ _ (kσ d x h)
  simp (disch := omega) only [go_sem, ↓if_pos, ne_eq, ↓reduceIte]
  generalize upd s2 b9 (exC e2) = s3 at *
  simp (disch := omega) only [m5, hlen, hlen2, go_sem, ↓if_pos, ne_eq, ↓reduceIte]
  refine SRun.callR (F3 _ _) ⟨[], rfl, rfl⟩ rfl ?_
  simp (disch := omega) only [go_sem, ↓if_pos, ne_eq, ↓reduceIte]
  refine SRun.allocR ?_
  intro b11 hb11
  have q5 := le_upd (cs := exC e1) hb11 _ _ m5
  have q6 := le_upd (cs := exC e1) hb11 _ _ m6
  have q7 := le_upd (cs := exC e1) hb11 _ _ m7
  have q9 := le_upd (cs := exC e1) hb11 _ _ m9
  have qσ : ∀ d x, σ d = some x → upd s3 b11 (exC e1) d = some x := fun d x h => le_upd hb11 _ _ (mσ d x h)
  simp (disch := omega) only [go_sem, ↓if_pos, ne_eq, ↓reduceIte]
  generalize upd s3 b11 (exC e1) = s4 at *
  simp (disch := omega) only [q5, q6, hlen, hlen2, go_sem, ↓if_pos, ne_eq, ↓reduceIte]
  refine SRun.callR (F4 _ _) ⟨[], rfl, rfl⟩ rfl ?_
  simp (disch := omega) only [q5, q6, hlen, hlen2, go_sem, ↓if_pos, ne_eq, ↓reduceIte]
  refine SRun.callR (F5 _ _) ⟨[], rfl, rfl⟩ rfl ?_
  have hee : (decide ¬ ec = ec) = false := by simp
  have hpp : (decide ¬ pv = pv) = false := by simp
  simp (disch := omega) only [hee, hpp, go_sem, ↓if_pos, ne_eq, ↓reduceIte]
  refine W_loopC (α := Nat) (fun i => i ≤ 16 ∧ ∀ k : Nat, k < i → fs.any (filtB 0 1 k) = ms.any (filtB 0 1 k)) (fun i => [(7, .ptr b7 0), (9, .ptr b9 0), (13, .int .i64 pv), (14, .int .i64 ec), (17, .int .i64 (i : Nat))]) (fun _ => s4) (fun i => 16 - i) 0 ⟨by omega, fun k hk => by omega⟩ (by simp (disch := omega) only [subT, Int.natCast_add, Int.cast_ofNat_Int, go_sem, ↓if_pos, ne_eq, ↓reduceIte] <;> (repeat' apply And.intro) <;> first | rfl | (congr 1; omega) | assumption) rfl ?_
  rintro i ⟨hi, hno⟩ ih
  simp (disch := omega) only [go_sem, ↓if_pos, ne_eq, ↓reduceIte]
  first | refine iteW_dec (fun hq => ?_) (fun hq => ?_) | refine iteW_of (fun hq => ?_) (fun hq => ?_)
  · have h1 := hev (i : Int) (by omega)
    have h2 := hev' (i : Int) (by omega)
    have hvl := valuesP_len (i : Int) 4
    simp (disch := omega) only [go_sem, ↓if_pos, ne_eq, ↓reduceIte]
    refine W_drawW ?_
    refine DRun.mixE rfl ?_
    simp (disch := omega) only [q7, go_sem, ↓if_pos, ne_eq, ↓reduceIte]
    refine DS.callB (values_ok (a := (i : Int)) (many := 4) (by omega)) ⟨[], rfl, rfl⟩ rfl rfl ?_
    simp (disch := omega) only [boolsV, go_sem, ↓if_pos, ne_eq, ↓reduceIte]
    refine DRun.callQ (EvalExs_ok (e := e1) (ex := false) (bs := valuesP i 4) hE (by omega) (by omega)) ⟨[], rfl, rfl⟩ ?_
    rintro r s ⟨rfl, hs⟩
    obtain rfl := hs.symm
    simp (disch := omega) only [go_sem, ↓if_pos, ne_eq, ↓reduceIte]
    refine W_drawW ?_
    refine DRun.mixE rfl ?_
    simp (disch := omega) only [q9, go_sem, ↓if_pos, ne_eq, ↓reduceIte]
    refine DS.callB (values_ok (a := (i : Int)) (many := 4) (by omega)) ⟨[], rfl, rfl⟩ rfl rfl ?_
    simp (disch := omega) only [boolsV, go_sem, ↓if_pos, ne_eq, ↓reduceIte]
    refine DRun.callQ (EvalExs_ok (e := e2) (ex := false) (bs := valuesP i 4) hE' (by omega) (by omega)) ⟨[], rfl, rfl⟩ ?_
    rintro r s ⟨rfl, hs⟩
    obtain rfl := hs.symm
    rw [h1, h2]
    by_cases he : fs.any (filtB 0 1 i) = ms.any (filtB 0 1 i)
    · have hx : (!(fs.any (filtB 0 1 i) == ms.any (filtB 0 1 i))) = false := by rw [he]; simp
      simp (disch := omega) only [hx, go_sem, ↓if_pos, ne_eq, ↓reduceIte]
      refine ih (i + 1) _ _ ⟨by omega, fun j hj => ?_⟩ (by omega) (by simp (disch := omega) only [subT, Int.natCast_add, Int.cast_ofNat_Int, go_sem, ↓if_pos, ne_eq, ↓reduceIte] <;> (repeat' apply And.intro) <;> first | rfl | (congr 1; omega) | assumption) rfl
      by_cases e : j = i
      · subst e; exact he
      · exact hno j (by omega)
    · have hx : (!(fs.any (filtB 0 1 i) == ms.any (filtB 0 1 i))) = true := by simpa using he
      rcases hfact with ⟨j, hj, rfl, rfl, hd, hmin⟩ | ⟨_, hall⟩
      · have hji : j = i := by
          rcases Nat.lt_trichotomy j i with h | h | h
          · exact absurd (hno j h) hd
          · exact h
          · exact absurd (hmin i h) he
        subst hji
        simp (disch := omega) only [hx, go_sem, ↓if_pos, ne_eq, ↓reduceIte]
        exact W_retC c7_ok rfl (Conv.drop _ qσ) ⟨by simp [look], rfl⟩
      · exact absurd (hall i (by omega)) he
  · have hi16 : i = 16 := by omega
    subst hi16
    rcases hfact with ⟨j, hj, _, _, hd, _⟩ | ⟨rfl, _⟩
    · exact absurd (hno j hj) hd
    · simp (disch := omega) only [go_sem, ↓if_pos, ne_eq, ↓reduceIte]
      exact W_retC c7_ok rfl (Conv.drop _ qσ) ⟨rfl, rfl⟩
end
end Go.Proofs.Ytlidjjjpjndneaa.Lg
