/- Formulas read by the reference: a line of numbers, a literal. -/
import Derived.Test.YtlojopaebdnacaaDoorBr
set_option linter.unusedSimpArgs false
set_option linter.unusedVariables false
namespace Go.Proofs.YtlojopaebdnacaaDoor.Lg
open Go Go.Lib
attribute [local irreducible] SRun DS DRun
variable {Γ : St} {σ σ0 : St}
/-- The reference's reader. -/
def boxR (vars : Int) (q : V) (left : Int) (qn : V) (begun : Bool) (code place : Int) : List V := [.int .i64 vars, q, .int .i64 left, qn, .bool begun, .int .i64 code, .int .i64 place]
theorem headC_zero {ws : List Wd} (h : (headC ws).1 = 0) : (headC ws).2 = 0 := by
  revert h
  unfold headC
  iterate 5
    split
    · intro h; cases h
  intro _; rfl
theorem rFail_ok {rb : Nat} {vars left c p : Int} {q qn : V} {bg : Bool} {pl : Int} (hb : σ rb = some (boxR vars q left qn bg 0 pl)) :
    Ret Tryd.prog Γ 40 [.ptr rb 0, .int .i64 c, .int .i64 p] σ (.tup []) (upd σ rb (boxR vars q left qn bg c p)) := by
  unfold boxR at *
  refine ret_of c40_ok rfl ?_
  simp (disch := omega) only [c40, hb, upd_same, upd_upd, go_sem]
  exact W_fallR c40_ok rfl ⟨rfl, rfl⟩
set_option maxHeartbeats 4000000 in
theorem rHead_ok {ws : List Wd} (hne : 0 < ws.length) (hw : WdsOK ws) (e0 : textW ws 0 = [112]) {rb : Nat} {q qn : V} (hb : σ rb = some (boxR 0 q 0 qn false 0 0)) :
    ACalls Tryd.prog Γ 39 [.ptr rb 0, .isl false 2 (wdsV ws)] σ fun r s => r = .tup [] ∧ ∃ vars left bg, s = upd σ rb (boxR vars q left qn bg (headC ws).1 (headC ws).2) ∧ ((headC ws).1 = 0 → vars = varsW ws ∧ left = mostW ws ∧ bg = true ∧ (0 ≤ varsW ws ∧ varsW ws ≤ 40) ∧ (0 ≤ mostW ws ∧ mostW ws ≤ 300)) := by
  have hwn := wdsV_len ws
  have hF := fun (c p vars left : Int) (bg : Bool) (s : St) (hb : s rb = some (boxR vars q left qn bg 0 0)) => rFail_ok (Γ := Γ) (c := c) (p := p) hb
  have hb' := hb
  unfold boxR at hb'
  generalize hH : headC ws = H
  unfold varsW mostW
  by_cases e1 : ws.length = 4
  case' neg =>
    have b1 : decide (((ws.length : Nat) : Int) = 4) = false := decide_eq_false (by omega)
    unfold headC at hH
    rw [if_pos (.inr (.inl e1))] at hH
    refine acalls_W c39_ok rfl ?_
    simp (disch := omega) only [c39, b1, hwn, go_sem]
    refine SRun.callR (hF 4 (placeW ws 0) _ _ _ _ hb) ⟨[], rfl, rfl⟩ rfl ?_
    have gz := upd_same σ rb (boxR 0 q 0 qn false 4 (placeW ws 0))
    unfold boxR at gz
    simp (disch := omega) only [go_sem]
    exact W_retR c39_ok rfl ⟨rfl, _, _, _, by rw [← hH], fun h => by rw [← hH] at h; cases h⟩
  have b1 : decide (((ws.length : Nat) : Int) = 4) = true := decide_eq_true (by omega)
  have b1' : ∀ i : Nat, i < 4 → i < ws.length := fun i hi => by omega
  by_cases e2 : textW ws 1 = [99, 110, 102]
  case' neg =>
    have b2 : (textW ws 1 == [99, 110, 102]) = false := by simpa using e2
    unfold headC at hH
    rw [if_pos (.inr (.inr e2))] at hH
    refine acalls_W c39_ok rfl ?_
    simp (disch := omega) only [c39, b1, hwn, b2, go_sem]
    refine SRun.callR (hF 4 (placeW ws 0) _ _ _ _ hb) ⟨[], rfl, rfl⟩ rfl ?_
    have gz := upd_same σ rb (boxR 0 q 0 qn false 4 (placeW ws 0))
    unfold boxR at gz
    simp (disch := omega) only [go_sem]
    exact W_retR c39_ok rfl ⟨rfl, _, _, _, by rw [← hH], fun h => by rw [← hH] at h; cases h⟩
  have b2 : (textW ws 1 == [99, 110, 102]) = true := by simpa using e2
  rw [dHead_num e0 e1 e2] at hH
  refine acalls_W c39_ok rfl ?_
  simp (disch := omega) only [c39, b1, hwn, b2, go_sem]
  refine SRun.callR (l00Number_ok (by have := hw.text 2; omega)) ⟨[], rfl, rfl⟩ rfl ?_
  simp (disch := omega) only [go_sem]
  refine SRun.callR (l00Number_ok (by have := hw.text 3; omega)) ⟨[], rfl, rfl⟩ rfl ?_
  cases hP : numP (textW ws 2) with
  | none =>
    rw [hP, if_pos (.inl rfl)] at hH
    have hs : (none : Option Int).isSome = false := rfl
    simp (disch := omega) only [hs, go_sem]
    refine SRun.callR (hF 4 (placeW ws 2) _ _ _ _ hb) ⟨[], rfl, rfl⟩ rfl ?_
    have gz := upd_same σ rb (boxR 0 q 0 qn false 4 (placeW ws 2))
    unfold boxR at gz
    simp (disch := omega) only [gz, boxR, upd_same, upd_upd, go_sem]
    exact W_fallR c39_ok rfl ⟨rfl, _, _, _, by rw [← hH], fun h => by rw [← hH] at h; cases h⟩
  | some n2 =>
    have hs : (some n2 : Option Int).isSome = true := rfl
    have hgd : ∀ x : Int, (some x : Option Int).getD 0 = x := fun _ => rfl
    rw [hP] at hH
    by_cases c0 : n2 < 0
    · rw [if_pos (.inr c0)] at hH
      have d0 : decide (n2 < 0) = true := decide_eq_true c0
      simp (disch := omega) only [hs, hgd, d0, go_sem]
      refine SRun.callR (hF 4 (placeW ws 2) _ _ _ _ hb) ⟨[], rfl, rfl⟩ rfl ?_
      have gz := upd_same σ rb (boxR 0 q 0 qn false 4 (placeW ws 2))
      unfold boxR at gz
      simp (disch := omega) only [gz, boxR, upd_same, upd_upd, go_sem]
      exact W_fallR c39_ok rfl ⟨rfl, _, _, _, by rw [← hH], fun h => by rw [← hH] at h; cases h⟩
    rw [if_neg (by rintro (h | h); cases h; exact c0 h)] at hH
    have d0 : decide (n2 < 0) = false := decide_eq_false c0
    cases hP3 : numP (textW ws 3) with
    | none =>
      rw [hP3, if_pos (.inl rfl)] at hH
      have hs3 : (none : Option Int).isSome = false := rfl
      simp (disch := omega) only [hs, hgd, d0, hs3, go_sem]
      refine SRun.callR (hF 4 (placeW ws 3) _ _ _ _ hb) ⟨[], rfl, rfl⟩ rfl ?_
      have gz := upd_same σ rb (boxR 0 q 0 qn false 4 (placeW ws 3))
      unfold boxR at gz
      simp (disch := omega) only [gz, boxR, upd_same, upd_upd, go_sem]
      exact W_fallR c39_ok rfl ⟨rfl, _, _, _, by rw [← hH], fun h => by rw [← hH] at h; cases h⟩
    | some n3 =>
      have hs3 : (some n3 : Option Int).isSome = true := rfl
      rw [hP3] at hH
      by_cases c3 : n3 < 0
      · rw [if_pos (.inr c3)] at hH
        have d3 : decide (n3 < 0) = true := decide_eq_true c3
        simp (disch := omega) only [hs, hgd, d0, hs3, d3, go_sem]
        refine SRun.callR (hF 4 (placeW ws 3) _ _ _ _ hb) ⟨[], rfl, rfl⟩ rfl ?_
        have gz := upd_same σ rb (boxR 0 q 0 qn false 4 (placeW ws 3))
        unfold boxR at gz
        simp (disch := omega) only [gz, boxR, upd_same, upd_upd, go_sem]
        exact W_fallR c39_ok rfl ⟨rfl, _, _, _, by rw [← hH], fun h => by rw [← hH] at h; cases h⟩
      rw [if_neg (by rintro (h | h); cases h; exact c3 h)] at hH
      simp only [Option.getD_some] at hH
      have d3 : decide (n3 < 0) = false := decide_eq_false c3
      by_cases c4 : 40 < n2
      · rw [if_pos c4] at hH
        have d4 : decide (n2 > 40) = true := decide_eq_true c4
        simp (disch := omega) only [hs, hgd, d0, hs3, d3, d4, go_sem]
        refine SRun.callR (hF 5 (placeW ws 2) _ _ _ _ hb) ⟨[], rfl, rfl⟩ rfl ?_
        have gz := upd_same σ rb (boxR 0 q 0 qn false 5 (placeW ws 2))
        unfold boxR at gz
        simp (disch := omega) only [gz, boxR, upd_same, upd_upd, go_sem]
        exact W_fallR c39_ok rfl ⟨rfl, _, _, _, by rw [← hH], fun h => by rw [← hH] at h; cases h⟩
      rw [if_neg c4] at hH
      have d4 : decide (n2 > 40) = false := decide_eq_false c4
      by_cases c5 : 300 < n3
      · rw [if_pos c5] at hH
        have d5 : decide (n3 > 300) = true := decide_eq_true c5
        simp (disch := omega) only [hs, hgd, d0, hs3, d3, d4, d5, go_sem]
        refine SRun.callR (hF 5 (placeW ws 3) _ _ _ _ hb) ⟨[], rfl, rfl⟩ rfl ?_
        have gz := upd_same σ rb (boxR 0 q 0 qn false 5 (placeW ws 3))
        unfold boxR at gz
        simp (disch := omega) only [gz, boxR, upd_same, upd_upd, go_sem]
        exact W_fallR c39_ok rfl ⟨rfl, _, _, _, by rw [← hH], fun h => by rw [← hH] at h; cases h⟩
      rw [if_neg c5] at hH
      have d5 : decide (n3 > 300) = false := decide_eq_false c5
      simp (disch := omega) only [hs, hgd, d0, hs3, d3, d4, d5, hb', upd_same, upd_upd, go_sem]
      exact W_fallR c39_ok rfl ⟨rfl, n2, n3, true, by rw [← hH]; rfl, fun _ => ⟨rfl, rfl, rfl, ⟨by show 0 ≤ n2; omega, by show n2 ≤ 40; omega⟩, ⟨by show 0 ≤ n3; omega, by show n3 ≤ 300; omega⟩⟩⟩
set_option maxHeartbeats 4000000 in
theorem rLit_ok {w : List UInt8} {p : Int} (hw : w.length ≤ 1000000000) {rb : Nat} {vars most : Int} (hv : 0 ≤ vars ∧ vars ≤ 40) (hm : most ≤ 300) {cls : List (List Int)} {now : List Int} {q qn : V} {qs : List V} (hc : (cls.length : Int) ≤ most) (hn : now.length ≤ 12)
    (h : DimL σ0 rb cls now q qs qn σ) (hb : σ rb = some (boxR vars q (most - (cls.length : Int)) qn true 0 0)) :
    ACalls Tryd.prog Γ 41 [.ptr rb 0, .agg [.str w, .int .i64 p]] σ fun r s => r = .tup [] ∧ ∃ cls' now' q' qs' qn', DimL σ0 rb cls' now' q' qs' qn' s ∧ s rb = some (boxR vars q' (most - (cls'.length : Int)) qn' true (litC vars most (cls, now) w) (if litC vars most (cls, now) w = 0 then 0 else p)) ∧ (cls'.length : Int) ≤ most ∧ now'.length ≤ 12 ∧ (litC vars most (cls, now) w = 0 → (cls', now') = litN (cls, now) w) := by
  have hel : (els pre0 cls qs).length = cls.length := els_len h.lla.rows.len
  generalize hC : litC vars most (cls, now) w = C
  generalize hN : litN (cls, now) w = N
  unfold litC at hC
  unfold litN at hN
  refine acalls_W c41_ok rfl ?_
  simp (disch := omega) only [c41, go_sem]
  refine SRun.boxR (by simp [ev, look, V.cells, V.one]) ?_
  intro b3 hb3'
  have h3 := h.mono (le_upd (cs := [.str w, .int .i64 p]) hb3')
  have hb3 := le_upd (cs := [V.str w, .int .i64 p]) hb3' _ _ hb
  have g3 := upd_same σ b3 [V.str w, .int .i64 p]
  simp (disch := omega) only [upd_same, go_sem]
  generalize upd σ b3 [V.str w, .int .i64 p] = s at *
  have hbb := hb3
  unfold boxR at hbb
  refine SRun.callR (l00Number_ok (by omega)) ⟨[], rfl, rfl⟩ rfl ?_
  cases hP : numP w with
  | none =>
    rw [hP] at hC
    have hs : (none : Option Int).isSome = false := rfl
    simp (disch := omega) only [hs, g3, go_sem]
    refine SRun.callR (rFail_ok (c := 4) (p := p) hb3) ⟨[], rfl, rfl⟩ rfl ?_
    simp (disch := omega) only [go_sem]
    have hD2 := h3.box (boxR vars q (most - (cls.length : Int)) qn true 4 p)
    exact W_fallR c41_ok rfl ⟨rfl, cls, now, q, qs, qn, hD2, by rw [← hC]; exact upd_same _ _ _, hc, hn, fun h => by rw [← hC] at h; cases h⟩
  | some n =>
    have hs : (some n : Option Int).isSome = true := rfl
    have hgd : ∀ x : Int, (some x : Option Int).getD 0 = x := fun _ => rfl
    rw [hP] at hC hN
    simp only at hC hN
    by_cases c7 : (cls.length : Int) = most
    · rw [if_pos c7] at hC
      have d7 : decide (most - (cls.length : Int) = 0) = true := decide_eq_true (by omega)
      simp (disch := omega) only [hs, hbb, d7, g3, go_sem]
      refine SRun.callR (rFail_ok (c := 7) (p := p) hb3) ⟨[], rfl, rfl⟩ rfl ?_
      simp (disch := omega) only [go_sem]
      have hD2 := h3.box (boxR vars q (most - (cls.length : Int)) qn true 7 p)
      exact W_fallR c41_ok rfl ⟨rfl, cls, now, q, qs, qn, hD2, by rw [← hC]; exact upd_same _ _ _, hc, hn, fun h => by rw [← hC] at h; cases h⟩
    rw [if_neg c7] at hC
    have d7 : decide (most - (cls.length : Int) = 0) = false := decide_eq_false (by omega)
    by_cases c0 : n = 0
    · rw [if_pos c0] at hC hN
      have d0 : decide (n = 0) = true := decide_eq_true c0
      simp (disch := omega) only [hs, hgd, hbb, d7, d0, go_sem]
      refine W_drawW ?_
      refine DRun.mixR hbb rfl ?_
      have hy2 : ∀ y ∈ [qn], y.cells.length = 1 ∧ ∀ c ∈ y.cells, c.one = true := by
        intro y hy
        rw [List.mem_singleton.1 hy, h3.now.cells]
        exact ⟨rfl, fun c hc => by rw [List.mem_singleton.1 hc]; exact h3.now.one⟩
      have hfit : ((els pre0 cls qs).length + [qn].length) * 24 ≤ 140737488355328 := by rw [hel]; simp only [List.length_singleton]; omega
      simp (disch := omega) only [upd_same, go_sem]
      refine ⟨hy2 qn (List.mem_singleton.2 rfl), ?_⟩
      refine DS.wrQ (WrF.appAt (xs := els pre0 cls qs) (ys := [qn]) ?_ ?_ rfl hy2 (by exact hfit)) rfl ?_
      · exact h3.lla.at_.del h3.rq
      · exact src_isl
      rintro q' s' hA hdj
      have hcu := cup_upd1 hdj
      obtain ⟨hA2, hrq⟩ := hA.put hbb h3.rq hdj
      obtain ⟨hD, hb2⟩ := h3.push (es := 1) hbb hA2
      simp (disch := omega) only [hcu, hA2.at_.cells, hA2.at_.one, go_sem]
      have hD2 := hD.box [.int .i64 vars, q', .int .i64 (most - (cls.length : Int) - 1), .isl true 1 [], .bool true, .int .i64 0, .int .i64 0]
      rw [upd_upd] at hD2
      have hln : most - (((cls ++ [now]).length : Nat) : Int) = most - (cls.length : Int) - 1 := by simp; omega
      exact W_fallR c41_ok rfl ⟨rfl, cls ++ [now], [], q', qs ++ [qn], .isl true 1 [], hD2, by rw [← hC, hln]; exact upd_same _ _ _, by simp; omega, by simp, fun _ => by rw [← hN]⟩
    rw [if_neg c0] at hC hN
    have d0 : decide (n = 0) = false := decide_eq_false c0
    have hnv : (0 : Int) - vars = -vars := by omega
    simp (disch := omega) only [hs, hgd, hbb, d7, d0, go_sem]
    refine W_drawW ?_
    simp (disch := omega) only [hbb, hnv, go_sem]
    refine DRun.callQ (l01In_okT n (-vars) vars) ⟨[], rfl, rfl⟩ ?_
    rintro r s2 ⟨rfl, hs2⟩
    obtain rfl := hs2.symm
    by_cases hl : -vars ≤ n ∧ n ≤ vars
    case' neg =>
      have dl : (!(decide (-vars ≤ n) && decide (n ≤ vars))) = true := by
        rcases Classical.not_and_iff_not_or_not.1 hl with h | h
        · rw [decide_eq_false h]; rfl
        · rw [decide_eq_false h, Bool.and_false]; rfl
      rw [if_pos hl] at hC
      simp (disch := omega) only [dl, g3, go_sem]
      refine SRun.callR (rFail_ok (c := 5) (p := p) hb3) ⟨[], rfl, rfl⟩ rfl ?_
      simp (disch := omega) only [go_sem]
      have hD2 := h3.box (boxR vars q (most - (cls.length : Int)) qn true 5 p)
      exact W_fallR c41_ok rfl ⟨rfl, cls, now, q, qs, qn, hD2, by rw [← hC]; exact upd_same _ _ _, hc, hn, fun h => by rw [← hC] at h; cases h⟩
    have dl : (!(decide (-vars ≤ n) && decide (n ≤ vars))) = false := by simp [hl.1, hl.2]
    rw [if_neg (fun h => h hl)] at hC
    by_cases h12 : now.length = 12
    case' pos =>
      have d12 : decide (((ints now).length : Int) = 12) = true := decide_eq_true (by rw [ints_len]; omega)
      rw [if_pos h12] at hC
      simp (disch := omega) only [dl, hbb, stepW_len_at h3.now, d12, g3, go_sem]
      refine SRun.callR (rFail_ok (c := 11) (p := p) hb3) ⟨[], rfl, rfl⟩ rfl ?_
      simp (disch := omega) only [go_sem]
      have hD2 := h3.box (boxR vars q (most - (cls.length : Int)) qn true 11 p)
      exact W_fallR c41_ok rfl ⟨rfl, cls, now, q, qs, qn, hD2, by rw [← hC]; exact upd_same _ _ _, hc, hn, fun h => by rw [← hC] at h; cases h⟩
    have d12 : decide (((ints now).length : Int) = 12) = false := decide_eq_false (by rw [ints_len]; omega)
    rw [if_neg h12] at hC
    simp (disch := omega) only [dl, hbb, stepW_len_at h3.now, d12, go_sem]
    refine SRun.appAt (ys := ints [n]) h3.now rfl rfl (ints_ok _) (by simp only [ints_len, List.length_singleton]; omega) ?_
    intro qn' s' hA
    have hA' : AppAt s 1 (ints (now ++ [n])) qn qn' s' := by have := hA; rwa [show ints now ++ ints [n] = ints (now ++ [n]) by simp [ints]] at this
    obtain ⟨hD, hb2⟩ := h3.more hbb hA'
    simp (disch := omega) only [hb2, hA'.at_.cells, hA'.at_.one, go_sem]
    have hD2 := hD.box [.int .i64 vars, q, .int .i64 (most - (cls.length : Int)), qn', .bool true, .int .i64 0, .int .i64 0]
    exact W_fallR c41_ok rfl ⟨rfl, cls, now ++ [n], q, qs, qn', hD2, by rw [← hC]; exact upd_same _ _ _, hc, by simp; omega, fun _ => by rw [← hN]⟩
end Go.Proofs.YtlojopaebdnacaaDoor.Lg
