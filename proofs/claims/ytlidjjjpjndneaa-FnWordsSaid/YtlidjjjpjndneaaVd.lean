/- The bits of words: the reference's. -/
import Derived.Test.YtlidjjjpjndneaaVc
set_option linter.unusedSimpArgs false
set_option linter.unusedVariables false
namespace Go.Proofs.Ytlidjjjpjndneaa.Lg
open Go
attribute [local irreducible] SRun DS DRun
variable {Γ : St} {σ σ0 : St}
def lessK (k : Int) (us ws : List Ex) : Ex := if k = 5 then lessE us ws 3 else constE 0
set_option maxHeartbeats 2000000 in
theorem l05Bits_ok : ∀ (w : W3) (d : Nat) {Γ σ : St}, d ≤ 3 → okW w d → Ret Try.prog Γ 67 [wdV w, .int .i64 3] σ (.isl false 3 (exsV (bitsW w))) σ := by
  intro w
  induction w with
  | const n =>
    intro d Γ σ hd3 h
    obtain ⟨h1, h2, h3⟩ := h
    refine ret_of c67_ok rfl ?_
    simp (disch := omega) only [c67, wdV, wdC, go_sem, ↓if_pos, ne_eq, ↓reduceIte]
    refine SRun.boxR (by simp [ev, look, V.cells, V.one]) ?_
    intro b2 hb2
    have g2 := upd_same σ b2 [.int .i64 1, .int .i64 n, .isl false 3 []]
    simp (disch := omega) only [go_sem, ↓if_pos, ne_eq, ↓reduceIte]
    refine W_loopC (α := Nat × V × St) (fun p => p.1 ≤ 3 ∧ OwnL (upd σ b2 [.int .i64 1, .int .i64 n, .isl false 3 []]) 3 (exsV ((List.range p.1).map fun i => constE (bitI n i))) p.2.1 p.2.2) (fun p => [(1, .int .i64 3), (2, .ptr b2 0), (5, p.2.1), (6, .int .i64 (p.1 : Nat))]) (fun p => p.2.2) (fun p => 3 - p.1) (0, .isl true 3 [], _) ⟨by simp, OwnL.nil _ _⟩ (by simp (disch := omega) only [subT, Int.natCast_add, Int.cast_ofNat_Int, go_sem, ↓if_pos, ne_eq, ↓reduceIte] <;> (repeat' apply And.intro) <;> first | rfl | (congr 1; omega) | assumption) rfl ?_
    rintro ⟨i, t, s⟩ ⟨hi, ho⟩ ih
    dsimp only at hi ho
    simp (disch := omega) only [go_sem, ↓if_pos, ne_eq, ↓reduceIte]
    first | refine iteW_dec (fun hq => ?_) (fun hq => ?_) | refine iteW_of (fun hq => ?_) (fun hq => ?_)
    · have w2 := wrapU64 (a := (i : Int)) (by omega) (by omega)
      simp (disch := omega) only [ho.get g2, w2, go_sem, ↓if_pos, ne_eq, ↓reduceIte]
      refine SRun.callR (l05Const_ok (n := bitI n i)) ⟨[], rfl, rfl⟩ rfl ?_
      simp (disch := omega) only [List.getD_cons_zero, List.getD_cons_succ, go_sem, ↓if_pos, ne_eq, ↓reduceIte]
      refine SRun.appL ho rfl (exs1_ok _) (by rw [exsV_len, List.length_map, List.length_range]; simp only [List.length_singleton]; omega) ?_
      intro t2 s2 ho2
      rw [exs_app, show (List.range i).map (fun i => constE (bitI n i)) ++ [constE (bitI n i)] = (List.range (i + 1)).map (fun i => constE (bitI n i)) by simp [List.range_succ]] at ho2
      simp (disch := omega) only [go_sem, ↓if_pos, ne_eq, ↓reduceIte]
      exact ih (i + 1, t2, s2) _ _ ⟨by simp only; omega, ho2⟩ (by simp only; omega) (by simp (disch := omega) only [subT, Int.natCast_add, Int.cast_ofNat_Int, go_sem, ↓if_pos, ne_eq, ↓reduceIte] <;> (repeat' apply And.intro) <;> first | rfl | (congr 1; omega) | assumption) rfl
    · obtain rfl : i = 3 := by omega
      simp (disch := omega) only [go_sem, ↓if_pos, ne_eq, ↓reduceIte]
      exact W_retC c67_ok (r := t) (r' := .isl false 3 (exsV (bitsW (.const n)))) (σ' := σ) rfl ⟨fun d x hd => ho.le _ _ (le_upd hb2 _ _ hd), ho.frz (fun _ _ => rfl) (fun d hd => (upd_none.1 hd).2)⟩ ⟨rfl, rfl⟩
  | var n =>
    intro d Γ σ hd3 h
    obtain ⟨h1, h2, h3⟩ := h
    refine ret_of c67_ok rfl ?_
    simp (disch := omega) only [c67, wdV, wdC, go_sem, ↓if_pos, ne_eq, ↓reduceIte]
    refine SRun.boxR (by simp [ev, look, V.cells, V.one]) ?_
    intro b2 hb2
    have g2 := upd_same σ b2 [.int .i64 2, .int .i64 n, .isl false 3 []]
    simp (disch := omega) only [go_sem, ↓if_pos, ne_eq, ↓reduceIte]
    refine W_loopC (α := Nat × V × St) (fun p => p.1 ≤ 3 ∧ RowF (upd σ b2 [.int .i64 2, .int .i64 n, .isl false 3 []]) 3 (exsV ((List.range p.1).map fun i => varE (n * 3 + (i : Nat)))) p.2.1 p.2.2) (fun p => [(1, .int .i64 3), (2, .ptr b2 0), (5, p.2.1), (7, .int .i64 (p.1 : Nat))]) (fun p => p.2.2) (fun p => 3 - p.1) (0, .isl true 3 [], _) ⟨by simp, RowF.nil⟩ (by simp (disch := omega) only [subT, Int.natCast_add, Int.cast_ofNat_Int, go_sem, ↓if_pos, ne_eq, ↓reduceIte] <;> (repeat' apply And.intro) <;> first | rfl | (congr 1; omega) | assumption) rfl ?_
    rintro ⟨i, t, s⟩ ⟨hi, ho⟩ ih
    dsimp only at hi ho
    simp (disch := omega) only [go_sem, ↓if_pos, ne_eq, ↓reduceIte]
    obtain ⟨ys, hy1, hy2, hy3⟩ := ho
    rw [exsV_len, List.length_map, List.length_range] at hy2
    first | refine iteW_dec (fun hq => ?_) (fun hq => ?_) | refine iteW_of (fun hq => ?_) (fun hq => ?_)
    · simp (disch := omega) only [hy1.get g2, go_sem, ↓if_pos, ne_eq, ↓reduceIte]
      refine SRun.appL hy1 rfl (rawVar_ok _) (by simp only [List.length_singleton]; omega) ?_
      intro t2 s2 ho2
      have hrow : RowF (upd σ b2 [.int .i64 2, .int .i64 n, .isl false 3 []]) 3 (exsV ((List.range (i + 1)).map fun i => varE (n * 3 + (i : Nat)))) t2 s2 := by
        refine ⟨_, ho2, by simp [exsV_len, hy2], fun σ σ' => ?_⟩
        rw [flat_app1, show (List.range (i + 1)).map (fun i => varE (n * 3 + (i : Nat))) = (List.range i).map (fun i => varE (n * 3 + (i : Nat))) ++ [varE (n * 3 + (i : Nat))] by simp [List.range_succ], ← exs_app, flat_app1]
        exact frzL_app (hy3 _ _) (rawVar_frz _)
      simp (disch := omega) only [go_sem, ↓if_pos, ne_eq, ↓reduceIte]
      exact ih (i + 1, t2, s2) _ _ ⟨by simp only; omega, hrow⟩ (by simp only; omega) (by simp (disch := omega) only [subT, Int.natCast_add, Int.cast_ofNat_Int, go_sem, ↓if_pos, ne_eq, ↓reduceIte] <;> (repeat' apply And.intro) <;> first | rfl | (congr 1; omega) | assumption) rfl
    · obtain rfl : i = 3 := by omega
      simp (disch := omega) only [go_sem, ↓if_pos, ne_eq, ↓reduceIte]
      refine W_retC c67_ok (r := t) (r' := .isl false 3 (exsV (bitsW (.var n)))) (σ' := σ) rfl ⟨fun d x hd => hy1.le _ _ (le_upd hb2 _ _ hd), RowF.frz ⟨ys, hy1, by rw [hy2]; rfl, hy3⟩ (exsV_ok _) (fun _ _ => rfl) (fun d hd => ?_)⟩ ⟨rfl, rfl⟩
      exact (upd_none.1 hd).2
  | op k a b iha ihb =>
    intro d Γ σ hd3 h
    obtain ⟨h1, h2, h3, h4, h5⟩ := h
    have fu := bits_fine a _ h4
    have fw := bits_fine b _ h5
    have hS : sbW (d - 1) ≤ 34 := by
      have : d - 1 = 1 ∨ d - 1 = 2 := by omega
      rcases this with e | e <;> rw [e] <;> decide
    refine ret_of c67_ok rfl ?_
    simp (disch := omega) only [c67, wdV, wdC, go_sem, ↓if_pos, ne_eq, ↓reduceIte]
    refine SRun.boxR (by simp [ev, look, V.cells, V.one]) ?_
    intro b2 hb2
    have g2 := upd_same σ b2 [.int .i64 k, .int .i64 0, .isl false 3 [.agg (wdC a), .agg (wdC b)]]
    have e1 : decide (k = 1) = false := decide_eq_false (by omega)
    have e2 : decide (k = 2) = false := decide_eq_false (by omega)
    simp (disch := omega) only [e1, e2, go_sem, ↓if_pos, ne_eq, ↓reduceIte]
    have hA := fun Γ σ => iha _ (Γ := Γ) (σ := σ) (by omega) h4
    have hB := fun Γ σ => ihb _ (Γ := Γ) (σ := σ) (by omega) h5
    have hlu := bitsW_len a
    have hlw := bitsW_len b
    have hW : bitsW (.op k a b) = (List.range 3).map (opBit k (bitsW a) (bitsW b)) := rfl
    rw [hW]
    clear hW
    generalize bitsW a = us at *
    generalize bitsW b = ws at *
    generalize sbW (d - 1) = S at *
    generalize 10 * (d - 1) = D at *
    have hcsz : ∀ i, i ≤ 3 → sizeE (carryK k us ws i) ≤ 1000000 := fun i hi => by
      unfold carryK
      split
      · have h1 := (carry_fine fu fw hlu hlw i hi).size
        have h2 : i * (4 + 4 * S) ≤ 3 * (4 + 4 * S) := Nat.mul_le_mul_right _ hi
        omega
      · simp [constE, sizeE, sizeL]
    have hlsz : sizeE (lessK k us ws) ≤ 1000000 := by
      unfold lessK
      split
      · have h1 := (less_fine fu fw hlu hlw 3 (by omega)).size
        omega
      · simp [constE, sizeE, sizeL]
    generalize hR : (List.range 3).map (opBit k us ws) = R
    refine SRun.callR (hA _ _) ⟨[], rfl, rfl⟩ rfl ?_
    simp (disch := omega) only [go_sem, ↓if_pos, ne_eq, ↓reduceIte]
    refine SRun.callR (hB _ _) ⟨[], rfl, rfl⟩ rfl ?_
    simp (disch := omega) only [go_sem, ↓if_pos, ne_eq, ↓reduceIte]
    refine SRun.callR (l05Const_ok (n := 0)) ⟨[], rfl, rfl⟩ rfl ?_
    simp (disch := omega) only [List.getD_cons_zero, List.getD_cons_succ, go_sem, ↓if_pos, ne_eq, ↓reduceIte]
    refine SRun.allocR ?_
    intro b10 hb10
    have n102 := (upd_none.1 hb10).1
    have n210 := n102.symm
    simp (disch := omega) only [go_sem, ↓if_pos, ne_eq, ↓reduceIte]
    refine SRun.callR (l05Const_ok (n := 0)) ⟨[], rfl, rfl⟩ rfl ?_
    simp (disch := omega) only [List.getD_cons_zero, List.getD_cons_succ, go_sem, ↓if_pos, ne_eq, ↓reduceIte]
    refine SRun.allocR ?_
    intro b11 hb11
    have n1110 := (upd_none.1 hb11).1
    have n112 := (upd_none.1 (upd_none.1 hb11).2).1
    have n1011 := n1110.symm
    have n211 := n112.symm
    simp (disch := omega) only [n210, n211, go_sem, ↓if_pos, ne_eq, ↓reduceIte]
    generalize hA1 : upd (upd (upd σ b2 [V.int .i64 k, .int .i64 0, .isl false 3 [.agg (wdC a), .agg (wdC b)]]) b10 (exC (constE 0))) b11 (exC (constE 0)) = A1
    have g2' : A1 b2 = some [V.int .i64 k, .int .i64 0, .isl false 3 [.agg (wdC a), .agg (wdC b)]] := by rw [← hA1, upd_ne _ _ n112.symm, upd_ne _ _ n102.symm, upd_same]
    have g10 : A1 b10 = some (exC (constE 0)) := by rw [← hA1, upd_ne _ _ n1011, upd_same]
    have g11 : A1 b11 = some (exC (constE 0)) := by rw [← hA1, upd_same]
    have hσ : ∀ d x, σ d = some x → d ≠ b10 ∧ d ≠ b11 ∧ A1 d = some x := fun d x h => by
      have h9 : d ≠ b10 := fun e => by (subst e; rw [(upd_none.1 hb10).2] at h; cases h)
      have h10 : d ≠ b11 := fun e => by (subst e; rw [(upd_none.1 (upd_none.1 hb11).2).2] at h; cases h)
      refine ⟨h9, h10, ?_⟩
      rw [← hA1, upd_ne _ _ h10, upd_ne _ _ h9]; exact le_upd hb2 _ _ h
    clear hA1
    have hkk : k = 3 ∨ k = 4 ∨ k = 5 := by omega
    have hsuc : ∀ i e, e = opBit k us ws i → exsV ((List.range i).map (opBit k us ws)) ++ [exV e] = exsV ((List.range (i + 1)).map (opBit k us ws)) := fun i e he => by rw [exs_app, he]; simp [List.range_succ]
    have hfit : ∀ i, i < 3 → ((exsV ((List.range i).map (opBit k us ws))).length + 1) * 40 ≤ 140737488355328 := fun i h => by rw [exsV_len, List.length_map, List.length_range]; omega
    have hfin : ∀ A : St, (∀ d x, σ d = some x → A d = some x) → ∀ d, A d = none → σ d = none := fun A hle d hd => by
      cases hc : σ d with
      | none => rfl
      | some x => rw [hle _ _ hc] at hd; cases hd
    rcases hkk with rfl | rfl | rfl
    · simp (disch := omega) only [g2', go_sem, ↓if_pos, ne_eq, ↓reduceIte]
      have hc0 : carryK 3 us ws 0 = constE 0 := rfl
      rw [← hc0] at g10
      refine W_loopC (α := Nat × V × St × St) (fun p => p.1 ≤ 3 ∧ OwnL p.2.2.1 3 (exsV ((List.range p.1).map (opBit 3 us ws))) p.2.1 p.2.2.2 ∧ p.2.2.1 b2 = some [V.int .i64 3, .int .i64 0, .isl false 3 [.agg (wdC a), .agg (wdC b)]] ∧ p.2.2.1 b10 = some (exC (carryK 3 us ws p.1)) ∧ ∀ d x, σ d = some x → p.2.2.1 d = some x)
        (fun p => [(1, .int .i64 3), (2, .ptr b2 0), (5, p.2.1), (8, .isl false 3 (exsV us)), (9, .isl false 3 (exsV ws)), (10, .ptr b10 0), (11, .ptr b11 0), (12, .int .i64 (p.1 : Nat))]) (fun p => p.2.2.2) (fun p => 3 - p.1) (0, .isl true 3 [], A1, A1) ⟨by simp, OwnL.nil _ _, g2', g10, fun d x h => (hσ d x h).2.2⟩ (by simp (disch := omega) only [subT, Int.natCast_add, Int.cast_ofNat_Int, go_sem, ↓if_pos, ne_eq, ↓reduceIte] <;> (repeat' apply And.intro) <;> first | rfl | (congr 1; omega) | assumption) rfl ?_
      clear g2 g2' g10 g11
      rintro ⟨i, t, A, s⟩ ⟨hi, ho, g2, g10, hle⟩ ih
      dsimp only at hi ho g2 g10 hle
      simp (disch := omega) only [go_sem, ↓if_pos, ne_eq, ↓reduceIte]
      first | refine iteW_dec (fun hq => ?_) (fun hq => ?_) | refine iteW_of (fun hq => ?_) (fun hq => ?_)
      · have hob : nodeE 6 [nodeE 6 [us.getD i default, ws.getD i default], carryK 3 us ws i] = opBit 3 us ws i := rfl
        have hcs : carryK 3 us ws (i + 1) = nodeE 5 [nodeE 4 [us.getD i default, ws.getD i default], nodeE 4 [carryK 3 us ws i, nodeE 6 [us.getD i default, ws.getD i default]]] := rfl
        have hcz := hcsz i (by omega)
        have hxz : sizeE (us.getD i default) ≤ 34 := by have := (fu _ (getD_mem default (by omega : i < us.length))).size; omega
        have hyz : sizeE (ws.getD i default) ≤ 34 := by have := (fw _ (getD_mem default (by omega : i < ws.length))).size; omega
        simp (disch := omega) only [ho.get g2, go_sem, ↓if_pos, ne_eq, ↓reduceIte]
        generalize hgx : us.getD i default = x at *
        generalize hgy : ws.getD i default = y at *
        have hhz : sizeE (nodeE 6 [x, y]) ≤ 1000000 := by simp only [nodeE, sizeE, sizeL]; omega
        rw [W_draw]
        refine DRun.start (DRun.mixNR (fun T s' => ∃ b13, s b13 = none ∧ s' = upd emp b13 [.int .i64 0, .int .i64 0, .isl true 0 []] ∧ look T 1 = .int .i64 3 ∧ look T 2 = .ptr b2 0 ∧ look T 5 = t ∧ look T 8 = .isl false 3 (exsV us) ∧ look T 9 = .isl false 3 (exsV ws) ∧ look T 10 = .ptr b10 0 ∧ look T 11 = .ptr b11 0 ∧ look T 12 = .int .i64 (i : Nat) ∧ look T 13 = .ptr b13 0 ∧ look T 89 = exV (nodeE 6 [x, y])) rfl ?_ ?_)
        · simp (disch := omega) only [hgx, hgy, go_sem, ↓if_pos, ne_eq, ↓reduceIte]
          refine DS.wr2 (WrF.call (l05Ex_ok (k := 6) (ks := [x, y]) (e := true)) ⟨[], rfl, rfl⟩) rfl ?_ ?_
          · rintro r s ⟨rfl, hs⟩ hd
            obtain rfl := hs.symm
            simp (disch := omega) only [go_sem, ↓if_pos, ne_eq, ↓reduceIte]
            refine DS.wrQ WrF.alloc rfl ?_
            rintro _ s3 ⟨b13, hb13, rfl, rfl⟩ hd2
            exact ⟨b13, disj_new hd2, rfl, rfl, rfl, rfl, rfl, rfl, rfl, rfl, rfl, rfl, rfl⟩
          · refine DS.wrQ WrF.alloc rfl ?_
            rintro _ s3 ⟨b13, hb13, rfl, rfl⟩ hd2
            simp (disch := omega) only [go_sem, ↓if_pos, ne_eq, ↓reduceIte]
            refine DS.wrQ (WrF.call (l05Ex_ok (k := 6) (ks := [x, y]) (e := true)) ⟨[], rfl, rfl⟩) rfl ?_
            rintro r s ⟨rfl, hs⟩ hd
            obtain rfl := hs.symm
            exact ⟨b13, disj_new hd2, rfl, rfl, rfl, rfl, rfl, rfl, rfl, rfl, rfl, rfl, rfl⟩
        · rintro T _ ⟨b13, hb13, rfl, t1, t2, t5, t8, t9, t10, t11, t12, t13, t89⟩
          rw [cup_new]
          have hA13 : A b13 = none := by
            cases hc : A b13 with
            | none => rfl
            | some x => rw [ho.get hc] at hb13; cases hb13
          have ho2 := ho.ext (z := exC (nodeE 6 [x, y])) hb13
          have a2 := le_upd (cs := exC (nodeE 6 [x, y])) hA13 _ _ g2
          have a10 := le_upd (cs := exC (nodeE 6 [x, y])) hA13 _ _ g10
          have a13 := upd_same A b13 (exC (nodeE 6 [x, y]))
          have hle3 : ∀ d z, A d = some z → upd A b13 (exC (nodeE 6 [x, y])) d = some z := fun d z h => le_upd hA13 _ _ h
          have s10 := ho2.get a10
          have s13 := ho2.get a13
          generalize upd A b13 (exC (nodeE 6 [x, y])) = A3 at *
          generalize carryK 3 us ws i = c at *
          simp (disch := omega) only [t13, t89, t5, t10, s10, go_sem, ↓if_pos, ne_eq, ↓reduceIte]
          generalize upd s b13 (exC (nodeE 6 [x, y])) = s3 at *
          refine SRun.freeze (T' := [(90, t), (93, .isl true 3 [exV (nodeE 6 [x, y]), exV c]), (13, .ptr b13 0), (1, .int .i64 3), (2, .ptr b2 0), (5, t), (8, .isl false 3 (exsV us)), (9, .isl false 3 (exsV ws)), (10, .ptr b10 0), (11, .ptr b11 0), (12, .int .i64 (i : Nat))]) (σ' := s3) (fun _ _ h => h) ⟨?_, ?_, ?_, ?_, ?_, ?_, ?_, ?_, ?_, ?_, ?_, trivial⟩ ?_
          all_goals try (simp only [look_cons, Nat.reduceEqDiff, ↓reduceIte, t1, t2, t5, t8, t9, t10, t11, t12, t13]; exact .refl _)
          clear t1 t2 t5 t8 t9 t10 t11 t12 t13 t89 T
          refine SRun.callR (l05Ex_ok (k := 6) (ks := [nodeE 6 [x, y], c]) (e := true)) ⟨[], rfl, rfl⟩ rfl ?_
          simp (disch := omega) only [List.getD_cons_zero, List.getD_cons_succ, go_sem, ↓if_pos, ne_eq, ↓reduceIte]
          refine SRun.appL ho2 rfl (exs1_ok _) (hfit i (by omega)) ?_
          intro t2 s5 ho3
          rw [hsuc _ _ hob] at ho3
          have q10 := ho3.get a10
          have q13 := ho3.get a13
          simp (disch := omega) only [go_sem, ↓if_pos, ne_eq, ↓reduceIte]
          refine W_drawW ?_
          refine DRun.mixE rfl ?_
          simp (disch := omega) only [q10, q13, hgx, hgy, go_sem, ↓if_pos, ne_eq, ↓reduceIte]
          refine DS.callB (l05Copy_ok x (by omega)) ⟨[], rfl, rfl⟩ rfl rfl ?_
          simp (disch := omega) only [go_sem, ↓if_pos, ne_eq, ↓reduceIte]
          refine DS.callB (l05Copy_ok y (by omega)) ⟨[], rfl, rfl⟩ rfl rfl ?_
          simp (disch := omega) only [go_sem, ↓if_pos, ne_eq, ↓reduceIte]
          refine DS.callB (l05Ex_ok (k := 4) (ks := [x, y]) (e := true)) ⟨[], rfl, rfl⟩ rfl rfl ?_
          simp (disch := omega) only [go_sem, ↓if_pos, ne_eq, ↓reduceIte]
          refine DS.callB (l05Copy_ok c hcz) ⟨[], rfl, rfl⟩ rfl rfl ?_
          simp (disch := omega) only [go_sem, ↓if_pos, ne_eq, ↓reduceIte]
          refine DRun.callQ (l05Copy_ok (nodeE 6 [x, y]) hhz) ⟨[], rfl, rfl⟩ ?_
          rintro r s ⟨rfl, hs⟩
          obtain rfl := hs.symm
          simp (disch := omega) only [go_sem, ↓if_pos, ne_eq, ↓reduceIte]
          refine DRun.callQ (l05Ex_ok (k := 4) (ks := [c, nodeE 6 [x, y]]) (e := true)) ⟨[], rfl, rfl⟩ ?_
          rintro r s ⟨rfl, hs⟩
          obtain rfl := hs.symm
          simp (disch := omega) only [go_sem, ↓if_pos, ne_eq, ↓reduceIte]
          refine DRun.callQ (l05Ex_ok (k := 5) (ks := [nodeE 4 [x, y], nodeE 4 [c, nodeE 6 [x, y]]]) (e := true)) ⟨[], rfl, rfl⟩ ?_
          rintro r s ⟨rfl, hs⟩
          obtain rfl := hs.symm
          simp (disch := omega) only [q10, go_sem, ↓if_pos, ne_eq, ↓reduceIte]
          have ho4 := ho3.upd (c' := exC (nodeE 5 [nodeE 4 [x, y], nodeE 4 [c, nodeE 6 [x, y]]])) a10
          exact ih (i + 1, t2, upd A3 b10 (exC (nodeE 5 [nodeE 4 [x, y], nodeE 4 [c, nodeE 6 [x, y]]])), upd s5 b10 (exC (nodeE 5 [nodeE 4 [x, y], nodeE 4 [c, nodeE 6 [x, y]]]))) _ _ ⟨by simp only; omega, ho4, by dsimp only; rw [upd_ne _ _ n210]; exact a2, by dsimp only; rw [hcs]; exact upd_same _ _ _, fun d z h => by dsimp only; rw [upd_ne _ _ (hσ d z h).1]; exact hle3 _ _ (hle _ _ h)⟩ (by simp only; omega) (by simp (disch := omega) only [subT, Int.natCast_add, Int.cast_ofNat_Int, go_sem, ↓if_pos, ne_eq, ↓reduceIte] <;> (repeat' apply And.intro) <;> first | rfl | (congr 1; omega) | assumption) rfl
      · obtain rfl : i = 3 := by omega
        rw [hR] at ho
        simp (disch := omega) only [go_sem, ↓if_pos, ne_eq, ↓reduceIte]
        exact W_retC c67_ok (r := t) (r' := .isl false 3 (exsV R)) (σ' := σ) rfl ⟨fun d x hd => ho.le _ _ (hle _ _ hd), ho.frz (fun _ _ => rfl) (hfin _ hle)⟩ ⟨rfl, rfl⟩
    · simp (disch := omega) only [g2', go_sem, ↓if_pos, ne_eq, ↓reduceIte]
      refine W_loopC (α := Nat × V × St) (fun p => p.1 ≤ 3 ∧ OwnL A1 3 (exsV ((List.range p.1).map (opBit 4 us ws))) p.2.1 p.2.2)
        (fun p => [(1, .int .i64 3), (2, .ptr b2 0), (5, p.2.1), (8, .isl false 3 (exsV us)), (9, .isl false 3 (exsV ws)), (12, .int .i64 (p.1 : Nat))]) (fun p => p.2.2) (fun p => 3 - p.1) (0, .isl true 3 [], A1) ⟨by simp, OwnL.nil _ _⟩ (by simp (disch := omega) only [subT, Int.natCast_add, Int.cast_ofNat_Int, go_sem, ↓if_pos, ne_eq, ↓reduceIte] <;> (repeat' apply And.intro) <;> first | rfl | (congr 1; omega) | assumption) rfl ?_
      rintro ⟨i, t, s⟩ ⟨hi, ho⟩ ih
      dsimp only at hi ho
      simp (disch := omega) only [go_sem, ↓if_pos, ne_eq, ↓reduceIte]
      first | refine iteW_dec (fun hq => ?_) (fun hq => ?_) | refine iteW_of (fun hq => ?_) (fun hq => ?_)
      · have hob : nodeE 4 [us.getD i default, ws.getD i default] = opBit 4 us ws i := by unfold opBit; rw [if_neg (by decide), if_pos rfl]
        simp (disch := omega) only [ho.get g2', go_sem, ↓if_pos, ne_eq, ↓reduceIte]
        refine W_drawW ?_
        refine DRun.mixE rfl ?_
        simp (disch := omega) only [go_sem, ↓if_pos, ne_eq, ↓reduceIte]
        generalize us.getD i default = x at *
        generalize ws.getD i default = y at *
        refine DS.callB (l05Ex_ok (k := 4) (ks := [x, y]) (e := true)) ⟨[], rfl, rfl⟩ rfl rfl ?_
        simp (disch := omega) only [go_sem, ↓if_pos, ne_eq, ↓reduceIte]
        refine DRun.appL ho rfl (exs1_ok _) (hfit i (by omega)) ?_
        intro t2 s5 ho3
        rw [hsuc _ _ hob] at ho3
        simp (disch := omega) only [go_sem, ↓if_pos, ne_eq, ↓reduceIte]
        exact ih (i + 1, t2, s5) _ _ ⟨by simp only; omega, ho3⟩ (by simp only; omega) (by simp (disch := omega) only [subT, Int.natCast_add, Int.cast_ofNat_Int, go_sem, ↓if_pos, ne_eq, ↓reduceIte] <;> (repeat' apply And.intro) <;> first | rfl | (congr 1; omega) | assumption) rfl
      · obtain rfl : i = 3 := by omega
        rw [hR] at ho
        simp (disch := omega) only [go_sem, ↓if_pos, ne_eq, ↓reduceIte]
        exact W_retC c67_ok (r := t) (r' := .isl false 3 (exsV R)) (σ' := σ) rfl ⟨fun d x hd => ho.le _ _ (hσ d x hd).2.2, ho.frz (fun _ _ => rfl) (hfin _ fun d x h => (hσ d x h).2.2)⟩ ⟨rfl, rfl⟩
    · simp (disch := omega) only [g2', go_sem, ↓if_pos, ne_eq, ↓reduceIte]
      refine SRun.callR (l05Less_ok (ea := false) (eb := false) (us := us) (ws := ws) (by omega) (by omega) ⟨fun e he => by have := (fu e he).size; omega, fun e he => by have := (fw e he).size; omega⟩) ⟨[], rfl, rfl⟩ rfl ?_
      simp (disch := omega) only [List.getD_cons_zero, List.getD_cons_succ, go_sem, ↓if_pos, ne_eq, ↓reduceIte]
      rw [hlu]
      simp (disch := omega) only [g11, go_sem, ↓if_pos, ne_eq, ↓reduceIte]
      have g2'' : upd A1 b11 (exC (lessE us ws 3)) b2 = _ := (upd_ne _ _ n211).trans g2'
      have g11'' := upd_same A1 b11 (exC (lessE us ws 3))
      have hσ2 : ∀ d x, σ d = some x → upd A1 b11 (exC (lessE us ws 3)) d = some x := fun d x h => by rw [upd_ne _ _ (hσ d x h).2.1]; exact (hσ d x h).2.2
      have hlz : sizeE (lessE us ws 3) ≤ 1000000 := hlsz
      generalize upd A1 b11 (exC (lessE us ws 3)) = A2 at *
      refine W_loopC (α := Nat × V × St) (fun p => p.1 ≤ 3 ∧ OwnL A2 3 (exsV ((List.range p.1).map (opBit 5 us ws))) p.2.1 p.2.2)
        (fun p => [(1, .int .i64 3), (2, .ptr b2 0), (5, p.2.1), (8, .isl false 3 (exsV us)), (9, .isl false 3 (exsV ws)), (11, .ptr b11 0), (12, .int .i64 (p.1 : Nat))]) (fun p => p.2.2) (fun p => 3 - p.1) (0, .isl true 3 [], A2) ⟨by simp, OwnL.nil _ _⟩ (by simp (disch := omega) only [subT, Int.natCast_add, Int.cast_ofNat_Int, go_sem, ↓if_pos, ne_eq, ↓reduceIte] <;> (repeat' apply And.intro) <;> first | rfl | (congr 1; omega) | assumption) rfl ?_
      rintro ⟨i, t, s⟩ ⟨hi, ho⟩ ih
      dsimp only at hi ho
      simp (disch := omega) only [go_sem, ↓if_pos, ne_eq, ↓reduceIte]
      first | refine iteW_dec (fun hq => ?_) (fun hq => ?_) | refine iteW_of (fun hq => ?_) (fun hq => ?_)
      · have hob : nodeE 7 [lessE us ws 3, us.getD i default, ws.getD i default] = opBit 5 us ws i := by unfold opBit; rw [if_neg (by decide), if_neg (by decide)]
        simp (disch := omega) only [ho.get g2'', go_sem, ↓if_pos, ne_eq, ↓reduceIte]
        refine W_drawW ?_
        refine DRun.mixE rfl ?_
        simp (disch := omega) only [ho.get g11'', go_sem, ↓if_pos, ne_eq, ↓reduceIte]
        generalize us.getD i default = x at *
        generalize ws.getD i default = y at *
        generalize lessE us ws 3 = l at *
        refine DS.callB (l05Copy_ok l hlz) ⟨[], rfl, rfl⟩ rfl rfl ?_
        simp (disch := omega) only [go_sem, ↓if_pos, ne_eq, ↓reduceIte]
        refine DS.callB (l05Ex_ok (k := 7) (ks := [l, x, y]) (e := true)) ⟨[], rfl, rfl⟩ rfl rfl ?_
        simp (disch := omega) only [go_sem, ↓if_pos, ne_eq, ↓reduceIte]
        refine DRun.appL ho rfl (exs1_ok _) (hfit i (by omega)) ?_
        intro t2 s5 ho3
        rw [hsuc _ _ hob] at ho3
        simp (disch := omega) only [go_sem, ↓if_pos, ne_eq, ↓reduceIte]
        exact ih (i + 1, t2, s5) _ _ ⟨by simp only; omega, ho3⟩ (by simp only; omega) (by simp (disch := omega) only [subT, Int.natCast_add, Int.cast_ofNat_Int, go_sem, ↓if_pos, ne_eq, ↓reduceIte] <;> (repeat' apply And.intro) <;> first | rfl | (congr 1; omega) | assumption) rfl
      · obtain rfl : i = 3 := by omega
        rw [hR] at ho
        simp (disch := omega) only [go_sem, ↓if_pos, ne_eq, ↓reduceIte]
        exact W_retC c67_ok (r := t) (r' := .isl false 3 (exsV R)) (σ' := σ) rfl ⟨fun d x hd => ho.le _ _ (hσ2 d x hd), ho.frz (fun _ _ => rfl) (hfin _ hσ2)⟩ ⟨rfl, rfl⟩
end Go.Proofs.Ytlidjjjpjndneaa.Lg
