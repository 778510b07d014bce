/- A verdict's text: the program's function and the reference's. -/
import Derived.Test.YtjibkkhgejcjeaaGreatDoorXd
set_option linter.unusedSimpArgs false
set_option linter.unusedVariables false
namespace Go.Proofs.YtjibkkhgejcjeaaGreatDoor.Lg
open Go Go.Lib
attribute [local irreducible] SRun DS DRun
variable {Γ : St} {σ σ0 : St}
theorem VerdictText_ok (hg : NumG Γ) {n : Net} {v : Vd} (hB : netB n = true) (hN : NetLen n) (hv : VdR n v) : Ret Tryz.prog Γ 15 [netV n, vdV v] σ (.tup [.str (verdT n v), .int .i64 0]) σ := by
  have hn := netN_of hB
  have hR := netR_of hB
  have hl6 : (netC n).length = 6 := rfl
  have ht6 : (netC n).take 6 = netC n := rfl
  have vl6 : (vdC v).length = 6 := rfl
  have vt6 : (vdC v).take 6 = vdC v := rfl
  have n1 : (netC n)[1]? = some (.isl false 3 (linksV n.links)) := rfl
  have n3 : (netC n)[3]? = some (.isl false 1 (ints n.externals)) := rfl
  have v0 : (vdC v)[0]? = some (.bool v.holds) := rfl
  have v2 : (vdC v)[2]? = some (.isl false 1 (bools v.down)) := rfl
  have v3 : (vdC v)[3]? = some (.isl false 1 (ints v.env)) := rfl
  have v4 : (vdC v)[4]? = some (.isl false 1 (ints v.vias)) := rfl
  refine ret_of c15_ok rfl ?_
  simp (disch := omega) only [c15, netV, vdV, go_sem]
  refine SRun.boxR (net_one n) ?_
  intro b2 hb2
  have g2 := upd_same σ b2 (netC n)
  have hσ : ∀ d x, σ d = some x → upd σ b2 (netC n) d = some x := le_upd hb2
  simp (disch := omega) only [go_sem]
  generalize upd σ b2 (netC n) = s1 at *
  refine SRun.boxR (vd_one v) ?_
  intro b3 hb3
  have g2 := le_upd (cs := vdC v) hb3 _ _ g2
  have g3 := upd_same s1 b3 (vdC v)
  have hσ : ∀ d x, σ d = some x → upd s1 b3 (vdC v) d = some x := fun d x h => le_upd hb3 _ _ (hσ d x h)
  simp (disch := omega) only [go_sem]
  generalize upd s1 b3 (vdC v) = s2 at *
  simp (disch := omega) only [g2, ht6, hl6, go_sem]
  refine SRun.callR (isNet_ok hN) ⟨[], rfl, rfl⟩ rfl ?_
  rw [hB]
  cases hh : v.holds with
  | true =>
    simp (disch := omega) only [g3, v0, vl6, hh, go_sem]
    simp (disch := omega) only [g2, g3, ht6, hl6, vt6, vl6, go_sem]
    refine SRun.callR (verdictText_ok hg hn hv) ⟨[], rfl, rfl⟩ rfl ?_
    simp (disch := omega) only [go_sem]
    exact W_retC c15_ok rfl (Conv.drop _ hσ) ⟨rfl, rfl⟩
  | false =>
    have hdl := hv.dn hh
    have hel := hv.en hh
    have hvl := hv.vi hh
    have hvr : ViasR n v.vias := ⟨hvl, fun i hi => by have := hv.vias i hi; omega⟩
    simp (disch := omega) only [g2, g3, v0, v4, vl6, ht6, hl6, hh, go_sem]
    refine SRun.callR (areVias_ok hR hvr) ⟨[], rfl, rfl⟩ rfl ?_
    have dk : ∀ x : Int, (decide ¬ (x = x)) = false := fun x => by simp
    simp (disch := omega) only [g2, g3, v2, v3, vl6, n1, n3, hl6, bools_len, ints_len, linksV_len, hdl, hel, dk, go_sem]
    simp (disch := omega) only [g2, g3, ht6, hl6, vt6, vl6, go_sem]
    refine SRun.callR (verdictText_ok hg hn hv) ⟨[], rfl, rfl⟩ rfl ?_
    simp (disch := omega) only [go_sem]
    exact W_retC c15_ok rfl (Conv.drop _ hσ) ⟨rfl, rfl⟩
theorem VerdictTexts_ok {n : Net} {v : Vd} (hB : netB n = true) (hN : NetLen n) (hv : VdR n v) : Ret Tryz.prog Γ 16 [netV n, vdV v] σ (.tup [.str (verdT n v), .int .i64 0]) σ := by
  have hn := netN_of hB
  have r4 := hn.r4
  have hl6 : (netC n).length = 6 := rfl
  have ht6 : (netC n).take 6 = netC n := rfl
  have vl6 : (vdC v).length = 6 := rfl
  have vt6 : (vdC v).take 6 = vdC v := rfl
  have n0 : (netC n)[0]? = some (.isl false 1 (strsV n.routers)) := rfl
  have n1 : (netC n)[1]? = some (.isl false 3 (linksV n.links)) := rfl
  have n3 : (netC n)[3]? = some (.isl false 1 (ints n.externals)) := rfl
  have v0 : (vdC v)[0]? = some (.bool v.holds) := rfl
  have v2 : (vdC v)[2]? = some (.isl false 1 (bools v.down)) := rfl
  have v3 : (vdC v)[3]? = some (.isl false 1 (ints v.env)) := rfl
  have v4 : (vdC v)[4]? = some (.isl false 1 (ints v.vias)) := rfl
  obtain ⟨m1, m2, m3⟩ := hv.sm
  have d1 : decide ((v.vias.length : Int) > 4096) = false := decide_eq_false (by omega)
  have d2 : decide ((v.env.length : Int) > 4096) = false := decide_eq_false (by omega)
  have d3 : decide ((v.down.length : Int) > 4096) = false := decide_eq_false (by omega)
  have dk : ∀ x : Int, (decide ¬ (x = x)) = false := fun x => by simp
  refine ret_of c16_ok rfl ?_
  simp (disch := omega) only [c16, netV, vdV, go_sem]
  refine SRun.boxR (net_one n) ?_
  intro b2 hb2
  have g2 := upd_same σ b2 (netC n)
  have hσ : ∀ d x, σ d = some x → upd σ b2 (netC n) d = some x := le_upd hb2
  simp (disch := omega) only [go_sem]
  generalize upd σ b2 (netC n) = s1 at *
  refine SRun.boxR (vd_one v) ?_
  intro b3 hb3
  have g2 := le_upd (cs := vdC v) hb3 _ _ g2
  have g3 := upd_same s1 b3 (vdC v)
  have hσ : ∀ d x, σ d = some x → upd s1 b3 (vdC v) d = some x := fun d x h => le_upd hb3 _ _ (hσ d x h)
  simp (disch := omega) only [go_sem]
  generalize upd s1 b3 (vdC v) = s2 at *
  simp (disch := omega) only [g2, g3, v2, v3, v4, vl6, bools_len, ints_len, d1, d2, d3, ht6, hl6, go_sem]
  refine SRun.callR (NetOK_ok hN) ⟨[], rfl, rfl⟩ rfl ?_
  rw [hB]
  cases hh : v.holds with
  | true =>
    simp (disch := omega) only [g3, v0, vl6, hh, go_sem]
    simp (disch := omega) only [g2, g3, ht6, hl6, vt6, vl6, go_sem]
    refine SRun.callR (l10Text_ok hn hv) ⟨[], rfl, rfl⟩ rfl ?_
    simp (disch := omega) only [go_sem]
    exact W_retC c16_ok rfl (Conv.drop _ hσ) ⟨rfl, rfl⟩
  | false =>
    have hdl := hv.dn hh
    have hel := hv.en hh
    have hvl := hv.vi hh
    simp (disch := omega) only [g2, g3, v0, v2, v3, v4, vl6, n0, n1, n3, hl6, hh, bools_len, ints_len, linksV_len, strsV_len, hdl, hel, hvl, dk, go_sem]
    refine W_loopC (α := Nat) (fun i => i ≤ n.routers.length) (fun i => [(2, .ptr b2 0), (3, .ptr b3 0), (6, .int .i64 (i : Nat))]) (fun _ => s2) (fun i => n.routers.length - i) 0 (by omega) (by simp (disch := omega) only [subT, Int.natCast_add, Int.cast_ofNat_Int, go_sem] <;> (repeat' apply And.intro) <;> first | rfl | (congr 1; omega) | assumption) rfl ?_
    intro i hi ih
    simp (disch := omega) only [g3, v4, vl6, ints_len, hvl, go_sem]
    first | refine iteW_dec (fun hq => ?_) (fun hq => ?_) | refine iteW_of (fun hq => ?_) (fun hq => ?_)
    · obtain ⟨w0, w1⟩ := hv.vias i (by omega)
      simp (disch := omega) only [go_sem]
      refine W_drawW ?_
      simp (disch := omega) only [g2, g3, n0, hl6, v4, vl6, strsV_len, go_sem]
      refine DRun.callQ (l01In_ok _ _ _) ⟨[], rfl, rfl⟩ ?_
      rintro _ _ ⟨rfl, rfl⟩
      have dw : (decide ((-3 : Int) ≤ v.vias.getD i 0) && decide (v.vias.getD i 0 ≤ (n.routers.length : Int) - 1)) = true := by rw [decide_eq_true (by omega), decide_eq_true (by omega)]; rfl
      simp (disch := omega) only [dw, go_sem]
      exact ih (i + 1) _ _ (by omega) (by omega) (by simp (disch := omega) only [subT, Int.natCast_add, Int.cast_ofNat_Int, go_sem] <;> (repeat' apply And.intro) <;> first | rfl | (congr 1; omega) | assumption) rfl
    · simp (disch := omega) only [g2, g3, ht6, hl6, vt6, vl6, go_sem]
      refine SRun.callR (l10Text_ok hn hv) ⟨[], rfl, rfl⟩ rfl ?_
      simp (disch := omega) only [go_sem]
      exact W_retC c16_ok rfl (Conv.drop _ hσ) ⟨rfl, rfl⟩
end Go.Proofs.YtjibkkhgejcjeaaGreatDoor.Lg
/- Questions drawn: any of them is a text. -/
set_option linter.unusedSimpArgs false
set_option linter.unusedVariables false
namespace Go.Proofs.YtjibkkhgejcjeaaGreatDoor.Lg
open Go Go.Lib
attribute [local irreducible] SRun DS DRun
variable {Γ : St} {σ σ0 : St}
def ask10 : List (List UInt8) := [[118, 101, 114, 105, 102, 121], [118, 101, 114, 105, 102, 121, 32, 103, 111, 32, 97], [118, 101, 114, 105, 102, 121, 32, 114, 101, 97, 99, 104, 32, 113], [118, 101, 114, 105, 102, 121, 32, 119, 97, 121, 32, 97], [118, 101, 114, 105, 102, 121, 32, 119, 97, 121, 32, 97, 32, 118, 105, 97, 32, 113], [118, 101, 114, 105, 102, 121, 32, 114, 101, 97, 99, 104, 32, 97, 32, 112, 111, 114, 116, 32, 120], [118, 101, 114, 105, 102, 121, 32, 114, 101, 97, 99, 104, 32, 97, 32, 102, 97, 105, 108, 32, 51], [118, 101, 114, 105, 102, 121, 32, 114, 101, 97, 99, 104, 32, 97, 32, 102, 97, 105, 108, 32, 49, 32, 112, 111, 114, 116, 32, 50], [118, 101, 114, 105, 102, 121, 32, 114, 101, 97, 99, 104, 32, 97, 32, 110, 111, 119], [114, 101, 97, 99, 104, 32, 97]]
theorem ask10_len (j : Nat) : (ask10.getD j []).length ≤ 100 := by
  have h : ∀ j, j < 10 → (ask10.getD j []).length ≤ 100 := by decide
  by_cases hj : j < 10
  · exact h j hj
  · rw [List.getD_eq_getElem?_getD, List.getElem?_eq_none (by simp [ask10]; omega)]; simp
set_option maxHeartbeats 1000000 in
theorem ask_ok {b : Nat} {n : Net} {ex : Bool} {code : List UInt8} {s : Int} (hb : σ b = some (srcC ex code 0 s)) (hs : 0 ≤ s ∧ s < 2147483648) (hn : NetN n) :
    ACalls Tryz.prog Γ 45 [.ptr b 0, netV n] σ fun r σ' => ∃ t a' s', t.length ≤ 1000 ∧ r = .str t ∧ σ' = upd σ b (srcC ex code a' s') := by
  have r1 := hn.r1
  have r4 := hn.r4
  have e0 : (netC n)[0]? = some (.isl false 1 (strsV n.routers)) := rfl
  have hl6 : (netC n).length = 6 := rfl
  have w4 : ∀ j, (([[114, 101, 97, 99, 104], [110, 101, 118, 101, 114], [119, 97, 121], [111, 119, 110]] : List (List UInt8)).getD j []).length ≤ 5 := fun j => by
    rcases j with _ | _ | _ | _ | j <;> simp [List.getD]
  refine acalls_W c45_ok rfl ?_
  simp (disch := omega) only [c45, netV, go_sem]
  refine SRun.boxR (net_one n) ?_
  intro b3 hb3
  have e3 : b ≠ b3 := fun e => by subst e; rw [hb] at hb3; cases hb3
  have g3 := upd_same σ b3 (netC n)
  have gb : upd σ b3 (netC n) b = some (srcC ex code 0 s) := le_upd hb3 _ _ hb
  have hσ2 : ∀ z d x, d ≠ b → σ d = some x → upd (upd σ b3 (netC n)) b z d = some x := fun z d x hd h => by rw [upd_ne _ _ hd]; exact le_upd hb3 _ _ h
  simp (disch := omega) only [go_sem]
  generalize upd σ b3 (netC n) = σ2 at *
  have q3d : del σ2 b b3 = some (netC n) := by rw [del_ne _ e3.symm]; exact g3
  have q3 : ∀ z, upd σ2 b z b3 = some (netC n) := fun z => by rw [upd_ne _ _ e3.symm]; exact g3
  rw [W_draw]
  refine DRun.start (DRun.mix1 gb rfl ?_)
  simp (disch := omega) only [q3d, e0, hl6, strsV_len, go_sem]
  refine DS.wrQ (WrF.call (pick_ok (ex2 := true) (ss := [[114, 101, 97, 99, 104], [110, 101, 118, 101, 114], [119, 97, 121], [111, 119, 110]]) (upd_same emp b (srcC ex code 0 s)) (by omega) hs (by simp) (by simp)) ⟨[], rfl, rfl⟩) rfl ?_
  rintro r sx ⟨j, a1, s1, w1, w2, w3, w4', w5, rfl, rfl⟩ hd
  rw [upd_upd]
  have hwl := w4 j
  generalize ([[114, 101, 97, 99, 104], [110, 101, 118, 101, 114], [119, 97, 121], [111, 119, 110]] : List (List UInt8)).getD j [] = wd at *
  simp (disch := omega) only [List.length_append, List.length_cons, List.length_nil, go_sem]
  refine DS.wrQ (WrF.call (next_ok (upd_same emp b (srcC ex code a1 s1)) (by omega) (by omega)) ⟨[], rfl, rfl⟩) rfl ?_
  rintro r sx ⟨v, a2, s2, x1, x2, x3, x4, x5, x6, x7, rfl, rfl⟩ hd
  rw [upd_upd]
  have hv := x3 (by omega)
  have hna := hn.names v.toNat
  simp (disch := omega) only [go_sem]
  refine ⟨_, rfl, ?_⟩
  have hl : (118 :: 101 :: 114 :: 105 :: 102 :: 121 :: 32 :: (wd ++ [32] ++ n.routers.getD v.toNat [])).length ≤ 100 ∧ 8 ≤ (118 :: 101 :: 114 :: 105 :: 102 :: 121 :: 32 :: (wd ++ [32] ++ n.routers.getD v.toNat [])).length := by
    simp only [List.length_append, List.length_cons, List.length_nil]; omega
  generalize 118 :: 101 :: 114 :: 105 :: 102 :: 121 :: 32 :: (wd ++ [32] ++ n.routers.getD v.toNat []) = t at *
  obtain ⟨hl, hl8⟩ := hl
  simp (disch := omega) only [go_sem]
  refine iteW_join (fun T sx => ∃ t a' s', (t.length ≤ 200 ∧ 0 ≤ a' ∧ a' ≤ 9 ∧ 0 ≤ s' ∧ s' < 2147483648) ∧ sx = upd σ2 b (srcC ex code a' s') ∧ look T 0 = .ptr b 0 ∧ look T 3 = .ptr b3 0 ∧ look T 5 = .str t) (fun k' key => ?_) ?_
  · first | refine iteW_dec (fun h7 => ?_) (fun h7 => ?_) | refine iteW_of (fun h7 => ?_) (fun h7 => ?_)
    · rw [W_draw]
      refine DRun.start (DRun.mix1 (upd_same σ2 b (srcC ex code a2 s2)) rfl ?_)
      have q3d : del (upd σ2 b (srcC ex code a2 s2)) b b3 = some (netC n) := by rw [del_ne _ e3.symm]; exact q3 _
      simp (disch := omega) only [q3d, e0, hl6, strsV_len, go_sem]
      refine DS.wrQ (WrF.call (next_ok (upd_same emp b (srcC ex code a2 s2)) (by omega) (by omega)) ⟨[], rfl, rfl⟩) rfl ?_
      rintro r sx ⟨z, a3, s3, z1, z2, z3, z4, z5, z6, z7, rfl, rfl⟩ hd
      rw [upd_upd]
      have hz := z3 (by omega)
      have hnb := hn.names z.toNat
      simp (disch := omega) only [List.length_append, List.length_cons, List.length_nil, go_sem]
      refine ⟨_, rfl, ?_⟩
      try rw [upd_upd]
      try simp (disch := omega) only [List.length_append, List.length_cons, List.length_nil, go_sem]
      exact key _ _ ⟨_, a3, s3, ⟨by simp only [List.length_append, List.length_cons, List.length_nil]; omega, by omega, by omega, by omega, by omega⟩, rfl, rfl, rfl, rfl⟩
    · simp (disch := omega) only [go_sem]
      exact key _ _ ⟨t, a2, s2, ⟨by omega, by omega, by omega, by omega, by omega⟩, rfl, rfl, rfl, rfl⟩
  clear hl hl8 t x1 x2 x3 x4 x5 x6 x7 hv hna w1 w2 w3 w4' w5
  rintro T sx ⟨t, a, sd, ⟨hl, ha0, ha1, hs0, hs1⟩, rfl, k0, k3, k5⟩
  simp (disch := omega) only [k0, go_sem]
  refine SRun.callQ (chance_ok (upd_same σ2 b (srcC ex code a sd)) (by omega) (by omega) (by omega)) ⟨[], rfl, rfl⟩ rfl ?_
  rintro r sx ⟨cv, a', s', y1, y2, y3, y4, rfl, rfl⟩
  rw [upd_upd]
  clear hs0 hs1
  simp (disch := omega) only [k0, go_sem]
  refine iteW_join (fun T sx => ∃ t a' s', (t.length ≤ 300 ∧ 0 ≤ a' ∧ a' ≤ 15 ∧ 0 ≤ s' ∧ s' < 2147483648) ∧ sx = upd σ2 b (srcC ex code a' s') ∧ look T 0 = .ptr b 0 ∧ look T 3 = .ptr b3 0 ∧ look T 5 = .str t) (fun k' key => ?_) ?_
  · cases cv with
    | false =>
      simp (disch := omega) only [go_sem]
      exact key _ _ ⟨t, a', s', ⟨by omega, by omega, by omega, by omega, by omega⟩, rfl, by simpa [look] using k0, by simpa [look] using k3, by simpa [look] using k5⟩
    | true =>
      simp (disch := omega) only [k5, k0, go_sem]
      refine SRun.callQ (next_ok (upd_same σ2 b (srcC ex code a' s')) (by omega) (by omega)) ⟨[], rfl, rfl⟩ rfl ?_
      rintro r sx ⟨z, a2, s2, z1, z2, z3, z4, z5, z6, z7, rfl, rfl⟩
      rw [upd_upd]
      have hz := z3 (by omega)
      have hzl := itoa_len (n := z) (by omega) (by omega)
      simp (disch := omega) only [go_sem]
      refine SRun.callR (digits_ok (by omega) (by omega)) ⟨[], rfl, rfl⟩ rfl ?_
      simp (disch := omega) only [List.length_append, List.length_cons, List.length_nil, go_sem]
      exact key _ _ ⟨_, a2, s2, ⟨by simp only [List.length_append, List.length_cons, List.length_nil]; omega, by omega, by omega, by omega, by omega⟩, rfl, by simpa [look] using k0, by simpa [look] using k3, rfl⟩
  clear y1 y2 y3 y4 k0 k3 k5 hl ha0 ha1 T
  rintro T sx ⟨t, a, sd, ⟨hl, ha0, ha1, hs0, hs1⟩, rfl, k0, k3, k5⟩
  simp (disch := omega) only [k0, go_sem]
  refine SRun.callQ (chance_ok (upd_same σ2 b (srcC ex code a sd)) (by omega) (by omega) (by omega)) ⟨[], rfl, rfl⟩ rfl ?_
  rintro r sx ⟨cv, a', s', y1, y2, y3, y4, rfl, rfl⟩
  rw [upd_upd]
  clear hs0 hs1
  simp (disch := omega) only [k0, go_sem]
  refine iteW_join (fun T sx => ∃ t a' s', (t.length ≤ 400 ∧ 0 ≤ a' ∧ a' ≤ 21 ∧ 0 ≤ s' ∧ s' < 2147483648) ∧ sx = upd σ2 b (srcC ex code a' s') ∧ look T 0 = .ptr b 0 ∧ look T 3 = .ptr b3 0 ∧ look T 5 = .str t) (fun k' key => ?_) ?_
  · cases cv with
    | false =>
      simp (disch := omega) only [go_sem]
      exact key _ _ ⟨t, a', s', ⟨by omega, by omega, by omega, by omega, by omega⟩, rfl, by simpa [look] using k0, by simpa [look] using k3, by simpa [look] using k5⟩
    | true =>
      simp (disch := omega) only [k5, k0, go_sem]
      refine SRun.callQ (next_ok (upd_same σ2 b (srcC ex code a' s')) (by omega) (by omega)) ⟨[], rfl, rfl⟩ rfl ?_
      rintro r sx ⟨z, a2, s2, z1, z2, z3, z4, z5, z6, z7, rfl, rfl⟩
      rw [upd_upd]
      have hz := z3 (by omega)
      have hzl := itoa_len (n := z) (by omega) (by omega)
      simp (disch := omega) only [go_sem]
      refine SRun.callR (digits_ok (by omega) (by omega)) ⟨[], rfl, rfl⟩ rfl ?_
      simp (disch := omega) only [List.length_append, List.length_cons, List.length_nil, go_sem]
      exact key _ _ ⟨_, a2, s2, ⟨by simp only [List.length_append, List.length_cons, List.length_nil]; omega, by omega, by omega, by omega, by omega⟩, rfl, by simpa [look] using k0, by simpa [look] using k3, rfl⟩
  clear y1 y2 y3 y4 k0 k3 k5 hl ha0 ha1 T
  rintro T sx ⟨t, a, sd, ⟨hl, ha0, ha1, hs0, hs1⟩, rfl, k0, k3, k5⟩
  simp (disch := omega) only [k0, go_sem]
  refine SRun.callQ (chance_ok (upd_same σ2 b (srcC ex code a sd)) (by omega) (by omega) (by omega)) ⟨[], rfl, rfl⟩ rfl ?_
  rintro r sx ⟨cv, a', s', y1, y2, y3, y4, rfl, rfl⟩
  rw [upd_upd]
  clear hs0 hs1
  simp (disch := omega) only [k0, go_sem]
  refine iteW_join (fun T sx => ∃ t a' s', (t.length ≤ 400 ∧ 0 ≤ a' ∧ a' ≤ 100 ∧ 0 ≤ s' ∧ s' < 2147483648) ∧ sx = upd σ2 b (srcC ex code a' s') ∧ look T 0 = .ptr b 0 ∧ look T 3 = .ptr b3 0 ∧ look T 5 = .str t) (fun k' key => ?_) ?_
  · cases cv with
    | false =>
      simp (disch := omega) only [go_sem]
      exact key _ _ ⟨t, a', s', ⟨by omega, by omega, by omega, by omega, by omega⟩, rfl, by simpa [look] using k0, by simpa [look] using k3, by simpa [look] using k5⟩
    | true =>
      simp (disch := omega) only [k0, go_sem]
      refine SRun.callQ (pick_ok (ex2 := true) (ss := ask10) (upd_same σ2 b (srcC ex code a' s')) (by omega) (by omega) (by simp [ask10]) (by simp [ask10])) ⟨[], rfl, rfl⟩ rfl ?_
      rintro r sx ⟨j, a2, s2, z1, z4, z5, z6, z7, rfl, rfl⟩
      rw [upd_upd]
      have hl10 := ask10_len j
      simp (disch := omega) only [go_sem]
      exact key _ _ ⟨_, a2, s2, ⟨by omega, by omega, by omega, by omega, by omega⟩, rfl, by simpa [look] using k0, by simpa [look] using k3, rfl⟩
  clear y1 y2 y3 y4 k0 k3 k5 hl ha0 ha1 T
  rintro T sx ⟨t, a, sd, ⟨hl, ha0, ha1, hs0, hs1⟩, rfl, k0, k3, k5⟩
  simp (disch := omega) only [k5, go_sem]
  refine W_retC c45_ok (σ' := upd σ b (srcC ex code a sd)) rfl (Conv.drop _ fun d x h => ?_) ⟨t, a, sd, by omega, rfl, rfl⟩
  by_cases e : d = b
  · subst e; rw [upd_same] at h ⊢; exact h
  · rw [upd_ne _ _ e] at h; exact hσ2 _ _ _ e h
theorem AskOf_ok {n : Net} {ex : Bool} {code : List UInt8} (hl : code.length ≤ 140737488355328) (hn : NetN n) : ACalls Tryz.prog Γ 13 [codeV ex code, netV n] σ fun r σ' => ∃ t, t.length ≤ 1000 ∧ r = .str t ∧ σ' = σ := by
  have hlen : (netC n).take 6 = netC n := rfl
  have hlen2 : (netC n).length = 6 := rfl
  refine acalls_W c13_ok rfl ?_
  simp (disch := omega) only [c13, netV, go_sem]
  refine SRun.boxR (net_one n) ?_
  intro b3 hb3
  have g3 := upd_same σ b3 (netC n)
  simp (disch := omega) only [go_sem]
  rw [W_draw]
  refine DRun.start (DRun.mixN rfl ?_)
  simp (disch := omega) only [g3, hlen, hlen2, go_sem]
  refine DS.callQ (source_ok (σ := emp) hl) ⟨[], rfl, rfl⟩ rfl ?_
  rintro r sx ⟨b, s, hb, hs1, hs2, rfl, rfl⟩ hd
  have hbf := disj_new hd
  simp (disch := omega) only [go_sem]
  rw [cup_new]
  have nb := upd_none.1 hbf
  refine DRun.callQ (ask_ok (upd_same _ b (srcC ex code 0 s)) ⟨hs1, hs2⟩ hn) ⟨[], rfl, rfl⟩ ?_
  rintro r sx ⟨t, a', s', q1, rfl, rfl⟩
  simp (disch := omega) only [go_sem]
  refine W_retC c13_ok (r' := .str t) (σ' := σ) rfl (Conv.drop _ fun d x h => ?_) ⟨t, q1, rfl, rfl⟩
  have e1 : d ≠ b := fun e => by subst e; rw [nb.2] at h; cases h
  have e2 : d ≠ b3 := fun e => by subst e; rw [hb3] at h; cases h
  simp only [upd_ne _ _ e1, upd_ne _ _ e2]; exact h
end Go.Proofs.YtjibkkhgejcjeaaGreatDoor.Lg
/- What a question that is right asks, and what its verdict is made of: plain. -/
set_option linter.unusedSimpArgs false
set_option linter.unusedVariables false
namespace Go.Proofs.YtjibkkhgejcjeaaGreatDoor.Lg
open Go Go.Lib
theorem optS_fine {word : Wrd} {hi d : Int} {rest : List Wrd} (hd : d ≤ hi) : (optS word hi d rest).1 = 0 → (optS word hi d rest).2.1 = d ∨ 0 ≤ (optS word hi d rest).2.1 ∧ (optS word hi d rest).2.1 ≤ hi := by
  unfold optS
  split
  · split
    · split
      · intro h; exact absurd (show (4 : Int) = 0 from h) (by decide)
      · split
        · rename_i x hN hx; intro _; exact .inr hx
        · intro h; exact absurd (show (5 : Int) = 0 from h) (by decide)
    · intro _; exact .inl rfl
  · intro _; exact .inl rfl
theorem tailS_fine {kind fr way : Int} {rest : List Wrd} (h : (tailS kind fr way rest).code = 0) : ∃ port k, tailS kind fr way rest = ⟨kind, fr, port, way, k, 0⟩ ∧ (-1 ≤ port ∧ port ≤ 15) ∧ (0 ≤ k ∧ k ≤ 2) := by
  unfold tailS at h ⊢
  have o1 := optS_fine (word := wPort) (hi := 15) (d := -1) (rest := rest) (by omega)
  have o2 := optS_fine (word := wFail) (hi := 2) (d := 0) (rest := (optS wPort 15 (-1) rest).2.2) (by omega)
  by_cases c1 : (optS wPort 15 (-1) rest).1 ≠ 0
  · rw [if_pos c1] at h; exact absurd h c1
  rw [if_neg c1] at h ⊢
  by_cases c2 : (optS wFail 2 0 (optS wPort 15 (-1) rest).2.2).1 ≠ 0
  · rw [if_pos c2] at h; exact absurd h c2
  rw [if_neg c2] at h ⊢
  have o1 := o1 (by omega)
  have o2 := o2 (by omega)
  by_cases c3 : (optS wFail 2 0 (optS wPort 15 (-1) rest).2.2).2.2 ≠ []
  · rw [if_pos c3] at h; exact absurd h (by decide)
  rw [if_neg c3]
  exact ⟨_, _, rfl, by omega, by omega⟩
theorem kinds_len : kindsP.length = 5 := rfl
/-- A question that is read asks for a right property. -/
theorem askS_fine {n : Net} (hB : netB n = true) {w : List Wrd} (h : (askS n.routers w).code = 0) : propB n (askS n.routers w).kind (askS n.routers w).from_ (askS n.routers w).port (askS n.routers w).way = true ∧ 0 ≤ (askS n.routers w).k ∧ (askS n.routers w).k ≤ 2 := by
  have bad : ∀ c : Int, c ≠ 0 → (AskR.bad c).code = 0 → False := fun c hc h => hc h
  have fin : ∀ kind fr port way k : Int, 1 ≤ kind → kind ≤ 4 → 0 ≤ fr → fr < n.routers.length → -1 ≤ port → port ≤ 15 → (if kind = 3 then 0 ≤ way ∧ way < n.routers.length else way = 0) → propB n kind fr port way = true := by
    intro kind fr port way k a1 a2 b1 b2 c1 c2 hw
    unfold propB
    rw [hB]
    have e1 : inB kind 1 4 = true := by simp [inB]; omega
    have e2 : routerB n.routers.length fr = true := by simp [routerB]; omega
    have e3 : inB port (-1) 15 = true := by simp [inB]; omega
    rw [e1, e2, e3]
    by_cases hk : kind = 3
    · rw [if_pos hk] at hw ⊢
      have e4 : routerB n.routers.length way = true := by simp [routerB]; omega
      rw [e4]; rfl
    · rw [if_neg hk] at hw ⊢
      rw [decide_eq_true hw]; rfl
  rcases w with _ | ⟨v, _ | ⟨kw, _ | ⟨fw, rest⟩⟩⟩
  · exact (bad 4 (by decide) h).elim
  · exact (bad 4 (by decide) h).elim
  · exact (bad 4 (by decide) h).elim
  rw [askS_cons] at h ⊢
  by_cases hv : v ≠ wVerify
  · rw [if_pos hv] at h; exact (bad 4 (by decide) h).elim
  rw [if_neg hv] at h ⊢
  by_cases hk : idxP kindsP kw < 1
  · rw [if_pos hk] at h; exact (bad 4 (by decide) h).elim
  rw [if_neg hk] at h ⊢
  by_cases hf : idxP n.routers fw < 0
  · rw [if_pos hf] at h; exact (bad 9 (by decide) h).elim
  rw [if_neg hf] at h ⊢
  obtain ⟨k1, k2⟩ := idxP_lt kindsP kw
  obtain ⟨f1, f2⟩ := idxP_lt n.routers fw
  rw [kinds_len] at k2
  by_cases h3 : idxP kindsP kw = 3
  · rw [if_pos h3] at h ⊢
    unfold wayS at h ⊢
    rcases rest with _ | ⟨va, _ | ⟨ww, r2⟩⟩
    · exact (bad 4 (by decide) h).elim
    · exact (bad 4 (by decide) h).elim
    simp only at h ⊢
    by_cases c1 : va ≠ wVia
    · rw [if_pos c1] at h; exact (bad 4 (by decide) h).elim
    rw [if_neg c1] at h ⊢
    by_cases c2 : idxP n.routers ww < 0
    · rw [if_pos c2] at h; exact (bad 9 (by decide) h).elim
    rw [if_neg c2] at h ⊢
    obtain ⟨w1, w2⟩ := idxP_lt n.routers ww
    obtain ⟨port, k, e, p1, q1⟩ := tailS_fine h
    rw [e]
    show propB n (idxP kindsP kw) (idxP n.routers fw) port (idxP n.routers ww) = true ∧ 0 ≤ k ∧ k ≤ 2
    refine ⟨fin (idxP kindsP kw) (idxP n.routers fw) port (idxP n.routers ww) k (by omega) (by omega) (by omega) f2 p1.1 p1.2 ?_, q1⟩
    rw [if_pos h3]; omega
  · rw [if_neg h3] at h ⊢
    obtain ⟨port, k, e, p1, q1⟩ := tailS_fine h
    rw [e]
    show propB n (idxP kindsP kw) (idxP n.routers fw) port 0 = true ∧ 0 ≤ k ∧ k ≤ 2
    refine ⟨fin (idxP kindsP kw) (idxP n.routers fw) port 0 k (by omega) (by omega) (by omega) f2 p1.1 p1.2 ?_, q1⟩
    rw [if_neg h3]
/-! A verdict's parts -/
theorem flatMap_le {α β : Type} {B : Nat} {f : α → List β} : ∀ {l : List α}, (∀ x ∈ l, (f x).length ≤ B) → (l.flatMap f).length ≤ l.length * B := by
  intro l
  induction l with
  | nil => intro _; simp
  | cons x r ih =>
    intro h
    have h1 := h x (by simp)
    have h2 := ih fun y hy => h y (by simp [hy])
    rw [List.flatMap_cons, List.length_append, List.length_cons, Nat.succ_mul]; omega
theorem downs_few : ∀ L, L < 7 → ∀ k, k < 2 → (downsP L k).length ≤ 7 := by decide +kernel
theorem envs_few : ∀ x, x < 3 → (envsP x).length ≤ 9 := by decide +kernel
theorem items_few {n : Net} (hn : NetR n) {k : Nat} (hk : k < 2) : (itemsP n (downsP n.links.length k)).length ≤ 81648 := by
  have l6 := hn.l6
  have x2 := hn.x2
  have h1 := downs_few n.links.length (by omega) k hk
  have h2 := envs_few n.externals.length (by omega)
  have h3 : ∀ d, ((envsP n.externals.length).flatMap fun e => (statesP n e d).map fun rs => (d, e, rs)).length ≤ 9 * 1296 := fun d => by
    have := flatMap_le (B := 1296) (f := fun e => (statesP n e d).map fun rs => (d, e, rs)) (l := envsP n.externals.length) fun e _ => by rw [List.length_map]; exact statesP_len2 hn
    exact Nat.le_trans this (Nat.mul_le_mul_right _ h2)
  have := flatMap_le (B := 9 * 1296) (f := fun d => (envsP n.externals.length).flatMap fun e => (statesP n e d).map fun rs => (d, e, rs)) (l := downsP n.links.length k) fun d _ => h3 d
  exact Nat.le_trans this (Nat.le_trans (Nat.mul_le_mul_right _ h1) (by decide))
theorem verGo_count {fail : List Rt → Option Int} : ∀ (l : List (List Bool × List Int × List Rt)) (c : Int), c ≤ (verGo fail l c).states ∧ (verGo fail l c).states ≤ c + l.length := by
  intro l
  induction l with
  | nil => intro c; exact ⟨Int.le_refl _, by simp [verGo]⟩
  | cons y l ih =>
    obtain ⟨d, e, rs⟩ := y
    intro c
    cases hf : fail rs with
    | some port => rw [verGo_some hf, List.length_cons]; simp only; omega
    | none => rw [verGo_none hf, List.length_cons]; have := ih (c + 1); omega
theorem verGo_parts {fail : List Rt → Option Int} : ∀ (l : List (List Bool × List Int × List Rt)) (c : Int), (verGo fail l c).holds = true → (verGo fail l c).down = [] ∧ (verGo fail l c).env = [] ∧ (verGo fail l c).vias = [] := by
  intro l
  induction l with
  | nil => intro c _; exact ⟨rfl, rfl, rfl⟩
  | cons y l ih =>
    obtain ⟨d, e, rs⟩ := y
    intro c h
    cases hf : fail rs with
    | some port => rw [verGo_some hf] at h; cases h
    | none => rw [verGo_none hf] at h ⊢; exact ih _ h
/-- A verdict that is found can be told. -/
theorem verd_told {n : Net} (hB : netB n = true) {kd f p w : Int} {k : Nat} (hk : k < 2) : VdR n (verP n (failP n kd f p w) k) := by
  have hR := netR_of hB
  have l6 := hR.l6
  have x2 := hR.x2
  have r4 := hR.r4
  have hc := verGo_count (fail := failP n kd f p w) (itemsP n (downsP n.links.length k)) 0
  have hi := items_few hR hk
  have hp := verGo_parts (fail := failP n kd f p w) (itemsP n (downsP n.links.length k)) 0
  have hf := verGo_false (fail := failP n kd f p w) (itemsP n (downsP n.links.length k)) 0
  have hVd : verGo (failP n kd f p w) (itemsP n (downsP n.links.length k)) 0 = verP n (failP n kd f p w) k := rfl
  rw [hVd] at hc hp hf
  cases hh : (verP n (failP n kd f p w) k).holds with
  | true =>
    obtain ⟨e1, e2, e3⟩ := hp hh
    refine ⟨by omega, fun h => ?_, fun h => ?_, fun h => ?_, fun h => ?_, fun i h => ?_, fun i h => ?_, ?_⟩
    · rw [hh] at h; cases h
    · rw [hh] at h; cases h
    · rw [hh] at h; cases h
    · rw [hh] at h; cases h
    · rw [e2] at h; simp at h
    · rw [e3] at h; simp at h
    · rw [e1, e2, e3]; simp
  | false =>
    obtain ⟨⟨d, e, rs⟩, hx, port, c', hfl, he⟩ := hf hh
    dsimp only at hfl he
    simp only [itemsP, List.mem_flatMap, List.mem_map, Prod.mk.injEq] at hx
    obtain ⟨d', hd, e', hee, rs', hrs, rfl, rfl, rfl⟩ := hx
    obtain ⟨q1, q2, q3⟩ := failP_some hfl
    have hst := statesP_fine hR hrs
    have hrl := hst.len
    obtain ⟨en1, en2⟩ := envs_fine hee
    have hdl := downs_len hd
    rw [he] at hc ⊢
    refine ⟨by omega, fun _ => q1, fun _ => hdl, fun _ => en1, fun _ => by rw [List.length_map]; exact hrl, fun i h => ?_, fun i h => ?_, ?_⟩
    · have := List.all_eq_true.1 en2 _ (getD_mem 0 h)
      simpa [inB] using this
    · simp only [List.length_map] at h
      have h1 := (hst.ok i h).via
      have h2 : (rs'.map (·.via)).getD i 0 = (rs'.getD i default).via := by simp [List.getD, h]
      rw [h2]; omega
    · simp only [List.length_map]; omega
end Go.Proofs.YtjibkkhgejcjeaaGreatDoor.Lg
