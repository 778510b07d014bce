/- Formulas read by the program: a line of numbers, a literal. -/
import Derived.Test.YtlojopaebdnacaaDoorBp
set_option linter.unusedSimpArgs false
set_option linter.unusedVariables false
namespace Go.Proofs.YtlojopaebdnacaaDoor.Lg
open Go Go.Lib
attribute [local irreducible] SRun DS DRun
variable {Γ : St} {σ σ0 : St}
/-- The program's reader. -/
def boxI (t : List UInt8) (vars most : Int) (q qn : V) (begun : Bool) : List V := [.str t, .int .i64 vars, q, .int .i64 most, qn, .bool begun]
theorem dHead_num {ws : List Wd} (e0 : textW ws 0 = [112]) (e1 : ws.length = 4) (e2 : textW ws 1 = [99, 110, 102]) : headC ws = if numP (textW ws 2) = none ∨ (numP (textW ws 2)).getD 0 < 0 then (4, placeW ws 2)
    else if numP (textW ws 3) = none ∨ (numP (textW ws 3)).getD 0 < 0 then (4, placeW ws 3)
    else if 40 < (numP (textW ws 2)).getD 0 then (5, placeW ws 2)
    else if 300 < (numP (textW ws 3)).getD 0 then (5, placeW ws 3)
    else (0, 0) := by
  unfold headC
  rw [if_neg (by rintro (h | h | h); exact h e0; exact h e1; exact h e2)]
set_option maxHeartbeats 4000000 in
theorem dHead_ok (hg : NumG Γ) {ws : List Wd} (hne : 0 < ws.length) (hw : WdsOK ws) {rb : Nat} {t : List UInt8} {v0 m0 : Int} {q qn : V} {bg : Bool} (hq1 : q.one = true ∧ q.cells = [q]) (hb : σ rb = some (boxI t v0 m0 q qn bg)) :
    ACalls Tryd.prog Γ 67 [.ptr rb 0, .isl false 2 (wdsV ws)] σ fun r s => r = .tup [.int .i64 (headC ws).1, .int .i64 (headC ws).2] ∧ (((headC ws).1 ≠ 0 ∧ s = σ) ∨ ((headC ws).1 = 0 ∧ (0 ≤ varsW ws ∧ varsW ws ≤ 40) ∧ (0 ≤ mostW ws ∧ mostW ws ≤ 300) ∧ s = upd σ rb (boxI t (varsW ws) (mostW ws) q qn bg))) := by
  have hwn := wdsV_len ws
  unfold boxI at hb
  generalize hH : headC ws = H
  by_cases e0 : textW ws 0 = [112]
  case' neg =>
    have b0 : (textW ws 0 == [112]) = false := by simpa using e0
    unfold headC at hH
    rw [if_pos (.inl e0)] at hH
    refine acalls_W c67_ok rfl ?_
    simp (disch := omega) only [c67, b0, go_sem]
    refine W_drawW ?_
    simp (disch := omega) only [go_sem]
    exact W_retR c67_ok rfl ⟨by rw [← hH]; rfl, .inl ⟨(by rw [← hH]; intro h; cases h), rfl⟩⟩
  have b0 : (textW ws 0 == [112]) = true := by simpa using e0
  by_cases e1 : ws.length = 4
  case' neg =>
    have b1 : decide (((ws.length : Nat) : Int) = 4) = false := decide_eq_false (by omega)
    unfold headC at hH
    rw [if_pos (.inr (.inl e1))] at hH
    refine acalls_W c67_ok rfl ?_
    simp (disch := omega) only [c67, b0, b1, hwn, go_sem]
    refine W_drawW ?_
    simp (disch := omega) only [go_sem]
    exact W_retR c67_ok rfl ⟨by rw [← hH]; rfl, .inl ⟨(by rw [← hH]; intro h; cases h), rfl⟩⟩
  have b1 : decide (((ws.length : Nat) : Int) = 4) = true := decide_eq_true (by omega)
  have b1' : ∀ i : Nat, i < 4 → i < ws.length := fun i hi => by omega
  by_cases e2 : textW ws 1 = [99, 110, 102]
  case' neg =>
    have b2 : (textW ws 1 == [99, 110, 102]) = false := by simpa using e2
    unfold headC at hH
    rw [if_pos (.inr (.inr e2))] at hH
    refine acalls_W c67_ok rfl ?_
    simp (disch := omega) only [c67, b0, b1, hwn, b2, go_sem]
    refine W_drawW ?_
    simp (disch := omega) only [go_sem]
    exact W_retR c67_ok rfl ⟨by rw [← hH]; rfl, .inl ⟨(by rw [← hH]; intro h; cases h), rfl⟩⟩
  have b2 : (textW ws 1 == [99, 110, 102]) = true := by simpa using e2
  rw [dHead_num e0 e1 e2] at hH
  refine acalls_W c67_ok rfl ?_
  simp (disch := omega) only [c67, b0, b1, hwn, b2, go_sem]
  refine SRun.callQ (number_ok hg (by have := hw.text 2; omega)) ⟨[], rfl, rfl⟩ rfl ?_
  rintro _ _ ⟨rfl, n2, rfl, hn2⟩
  simp (disch := omega) only [go_sem]
  refine SRun.callQ (number_ok hg (by have := hw.text 3; omega)) ⟨[], rfl, rfl⟩ rfl ?_
  rintro _ _ ⟨rfl, n3, rfl, hn3⟩
  unfold varsW mostW
  cases hP : numP (textW ws 2) with
  | none =>
    rw [hP, if_pos (.inl rfl)] at hH
    have hs : (none : Option Int).isSome = false := rfl
    simp (disch := omega) only [hs, go_sem]
    refine W_drawW ?_
    simp (disch := omega) only [go_sem]
    exact W_retR c67_ok rfl ⟨by rw [← hH]; rfl, .inl ⟨(by rw [← hH]; intro h; cases h), rfl⟩⟩
  | some v =>
    obtain rfl := hn2 v hP
    have hs : (some n2 : Option Int).isSome = true := rfl
    rw [hP] at hH
    by_cases c0 : n2 < 0
    · rw [if_pos (.inr c0)] at hH
      have d0 : decide (n2 < 0) = true := decide_eq_true c0
      simp (disch := omega) only [hs, d0, go_sem]
      refine W_drawW ?_
      simp (disch := omega) only [go_sem]
      exact W_retR c67_ok rfl ⟨by rw [← hH]; rfl, .inl ⟨(by rw [← hH]; intro h; cases h), rfl⟩⟩
    rw [if_neg (by rintro (h | h); cases h; exact c0 h)] at hH
    have d0 : decide (n2 < 0) = false := decide_eq_false c0
    cases hP3 : numP (textW ws 3) with
    | none =>
      rw [hP3, if_pos (.inl rfl)] at hH
      have hs3 : (none : Option Int).isSome = false := rfl
      simp (disch := omega) only [hs, d0, hs3, go_sem]
      refine W_drawW ?_
      simp (disch := omega) only [go_sem]
      exact W_retR c67_ok rfl ⟨by rw [← hH]; rfl, .inl ⟨(by rw [← hH]; intro h; cases h), rfl⟩⟩
    | some v3 =>
      obtain rfl := hn3 v3 hP3
      have hs3 : (some n3 : Option Int).isSome = true := rfl
      rw [hP3] at hH
      by_cases c3 : n3 < 0
      · rw [if_pos (.inr c3)] at hH
        have d3 : decide (n3 < 0) = true := decide_eq_true c3
        simp (disch := omega) only [hs, d0, hs3, d3, go_sem]
        refine W_drawW ?_
        simp (disch := omega) only [go_sem]
        exact W_retR c67_ok rfl ⟨by rw [← hH]; rfl, .inl ⟨(by rw [← hH]; intro h; cases h), rfl⟩⟩
      rw [if_neg (by rintro (h | h); cases h; exact c3 h)] at hH
      simp only [Option.getD_some] at hH
      have d3 : decide (n3 < 0) = false := decide_eq_false c3
      by_cases c4 : 40 < n2
      · rw [if_pos c4] at hH
        have d4 : decide (n2 > 40) = true := decide_eq_true c4
        simp (disch := omega) only [hs, d0, hs3, d3, d4, go_sem]
        refine W_drawW ?_
        simp (disch := omega) only [go_sem]
        exact W_retR c67_ok rfl ⟨by rw [← hH]; rfl, .inl ⟨(by rw [← hH]; intro h; cases h), rfl⟩⟩
      rw [if_neg c4] at hH
      have d4 : decide (n2 > 40) = false := decide_eq_false c4
      by_cases c5 : 300 < n3
      · rw [if_pos c5] at hH
        have d5 : decide (n3 > 300) = true := decide_eq_true c5
        simp (disch := omega) only [hs, d0, hs3, d3, d4, d5, go_sem]
        refine W_drawW ?_
        simp (disch := omega) only [go_sem]
        exact W_retR c67_ok rfl ⟨by rw [← hH]; rfl, .inl ⟨(by rw [← hH]; intro h; cases h), rfl⟩⟩
      rw [if_neg c5] at hH
      have d5 : decide (n3 > 300) = false := decide_eq_false c5
      simp (disch := omega) only [hs, d0, hs3, d3, d4, d5, hb, upd_same, upd_upd, go_sem]
      exact W_retR c67_ok rfl ⟨by rw [← hH]; rfl, .inr ⟨by rw [← hH], ⟨by show 0 ≤ n2; omega, by show n2 ≤ 40; omega⟩, ⟨by show 0 ≤ n3; omega, by show n3 ≤ 300; omega⟩, rfl⟩⟩
set_option maxHeartbeats 4000000 in
theorem dLit_ok (hg : NumG Γ) {w : List UInt8} (hw : w.length ≤ 1000000000) {rb : Nat} {t : List UInt8} {vars most : Int} (hv : 0 ≤ vars ∧ vars ≤ 40) (hm : most ≤ 300) {cls : List (List Int)} {now : List Int} {q qn : V} {qs : List V} {bg : Bool} (hc : (cls.length : Int) ≤ most) (hn : now.length ≤ 12)
    (h : DimL σ0 rb cls now q qs qn σ) (hb : σ rb = some (boxI t vars most q qn bg)) :
    ACalls Tryd.prog Γ 68 [.ptr rb 0, .str w] σ fun r s => r = .int .i64 (litC vars most (cls, now) w) ∧ ((litC vars most (cls, now) w ≠ 0 ∧ s = σ) ∨ (litC vars most (cls, now) w = 0 ∧ ∃ q' qs' qn', DimL σ0 rb (litN (cls, now) w).1 (litN (cls, now) w).2 q' qs' qn' s ∧ s rb = some (boxI t vars most q' qn' (decide ((litN (cls, now) w).2 ≠ []))))) := by
  have hel : (els pre0 cls qs).length = cls.length := els_len h.lla.rows.len
  unfold boxI at *
  generalize hC : litC vars most (cls, now) w = C
  generalize hN : litN (cls, now) w = N
  unfold litC at hC
  unfold litN at hN
  refine acalls_W c68_ok rfl ?_
  simp (disch := omega) only [c68, go_sem]
  refine SRun.callQ (number_ok hg (by omega)) ⟨[], rfl, rfl⟩ rfl ?_
  rintro _ s ⟨hss, n, rfl, hn1⟩
  obtain rfl := hss.symm
  cases hP : numP w with
  | none =>
    rw [hP] at hC
    have hs : (none : Option Int).isSome = false := rfl
    simp (disch := omega) only [hs, go_sem]
    exact W_retR c68_ok rfl ⟨by rw [← hC]; rfl, .inl ⟨(by rw [← hC]; intro h; cases h), rfl⟩⟩
  | some v =>
    obtain rfl := hn1 v hP
    have hs : (some n : Option Int).isSome = true := rfl
    rw [hP] at hC hN
    simp only at hC hN
    by_cases c7 : (cls.length : Int) = most
    · rw [if_pos c7] at hC
      have d7 : decide (((els pre0 cls qs).length : Int) = most) = true := decide_eq_true (by omega)
      simp (disch := omega) only [hs, go_sem]
      refine W_drawW ?_
      simp (disch := omega) only [hb, stepK_len_at h.lla.at_, d7, go_sem]
      exact W_retR c68_ok rfl ⟨by rw [← hC]; rfl, .inl ⟨(by rw [← hC]; intro h; cases h), rfl⟩⟩
    rw [if_neg c7] at hC
    have d7 : decide (((els pre0 cls qs).length : Int) = most) = false := decide_eq_false (by omega)
    by_cases c0 : n = 0
    · rw [if_pos c0] at hC hN
      have d0 : decide (n = 0) = true := decide_eq_true c0
      simp (disch := omega) only [hs, go_sem]
      refine W_drawW ?_
      simp (disch := omega) only [hb, stepK_len_at h.lla.at_, d7, d0, go_sem]
      refine W_drawW ?_
      refine DRun.mixR hb rfl ?_
      have hy2 : ∀ y ∈ [qn], y.cells.length = 1 ∧ ∀ c ∈ y.cells, c.one = true := by
        intro y hy
        rw [List.mem_singleton.1 hy, h.now.cells]
        exact ⟨rfl, fun c hc => by rw [List.mem_singleton.1 hc]; exact h.now.one⟩
      have hfit : ((els pre0 cls qs).length + [qn].length) * 24 ≤ 140737488355328 := by rw [hel]; simp only [List.length_singleton]; omega
      simp (disch := omega) only [upd_same, go_sem]
      refine ⟨hy2 qn (List.mem_singleton.2 rfl), ?_⟩
      refine DS.wrQ (WrF.appAt (xs := els pre0 cls qs) (ys := [qn]) ?_ ?_ rfl hy2 (by exact hfit)) rfl ?_
      · exact h.lla.at_.del h.rq
      · exact src_isl
      rintro q' s' hA hdj
      have hcu := cup_upd1 hdj
      obtain ⟨hA2, hrq⟩ := hA.put hb h.rq hdj
      obtain ⟨hD, hb2⟩ := h.push (es := 0) hb hA2
      simp (disch := omega) only [hcu, hA2.at_.cells, hA2.at_.one, go_sem]
      have hD2 := hD.box [.str t, .int .i64 vars, q', .int .i64 most, .isl true 0 [], .bool false]
      rw [upd_upd] at hD2
      exact W_retR c68_ok rfl ⟨by rw [← hC]; rfl, .inr ⟨by rw [← hC], q', qs ++ [qn], .isl true 0 [], by rw [← hN]; exact hD2, by rw [← hN]; exact upd_same _ _ _⟩⟩
    rw [if_neg c0] at hC hN
    have d0 : decide (n = 0) = false := decide_eq_false c0
    simp (disch := omega) only [hs, go_sem]
    refine W_drawW ?_
    simp (disch := omega) only [hb, stepK_len_at h.lla.at_, d7, d0, go_sem]
    refine SRun.callR (isLiteral_okT n vars ⟨hv.1, by omega⟩) ⟨[], rfl, rfl⟩ rfl ?_
    by_cases hl : -vars ≤ n ∧ n ≤ vars
    case' neg =>
      have dl : (!litOK40 vars n) = true := by
        cases hq : litOK40 vars n
        · rfl
        · exact absurd (litOK40_iff.1 hq).2 hl
      rw [if_pos hl] at hC
      simp (disch := omega) only [dl, go_sem]
      exact W_retR c68_ok rfl ⟨by rw [← hC]; rfl, .inl ⟨(by rw [← hC]; intro h; cases h), rfl⟩⟩
    have dl : (!litOK40 vars n) = false := by rw [litOK40_iff.2 ⟨c0, hl⟩]; rfl
    rw [if_neg (fun h => h hl)] at hC
    by_cases h12 : now.length = 12
    case' pos =>
      have d12 : decide (((ints now).length : Int) = 12) = true := decide_eq_true (by rw [ints_len]; omega)
      rw [if_pos h12] at hC
      simp (disch := omega) only [dl, hb, stepW_len_at h.now, d12, go_sem]
      exact W_retR c68_ok rfl ⟨by rw [← hC]; rfl, .inl ⟨(by rw [← hC]; intro h; cases h), rfl⟩⟩
    have d12 : decide (((ints now).length : Int) = 12) = false := decide_eq_false (by rw [ints_len]; omega)
    rw [if_neg h12] at hC
    simp (disch := omega) only [dl, hb, stepW_len_at h.now, d12, go_sem]
    refine SRun.appAt (ys := ints [n]) h.now rfl rfl (ints_ok _) (by simp only [ints_len, List.length_singleton]; omega) ?_
    intro qn' s' hA
    have hA' : AppAt σ 1 (ints (now ++ [n])) qn qn' s' := by have := hA; rwa [show ints now ++ ints [n] = ints (now ++ [n]) by simp [ints]] at this
    obtain ⟨hD, hb2⟩ := h.more hb hA'
    simp (disch := omega) only [hb2, hA'.at_.cells, hA'.at_.one, go_sem]
    have hD2 := hD.box [.str t, .int .i64 vars, q, .int .i64 most, qn', .bool true]
    have hne : (decide ¬ (now ++ [n] = [])) = true := by simp
    exact W_retR c68_ok rfl ⟨by rw [← hC]; rfl, .inr ⟨by rw [← hC], q, qs, qn', by rw [← hN]; exact hD2, by rw [← hN]; simp only [hne]; exact upd_same _ _ _⟩⟩
end Go.Proofs.YtlojopaebdnacaaDoor.Lg
