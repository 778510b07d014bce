/- Steps of proofs read by the reference. -/
import Derived.Test.YtlojopaebdnacaaDoorBh
set_option linter.unusedSimpArgs false
set_option linter.unusedVariables false
namespace Go.Proofs.YtlojopaebdnacaaDoor.Lg
open Go Go.Lib
attribute [local irreducible] SRun DS DRun
variable {Γ : St} {σ σ0 : St}
set_option maxHeartbeats 4000000 in
theorem l03Line_own {ws : List Wd} {e : Nat} (hne : 0 < ws.length) (hw : WdsOK ws) :
    ACalls Tryd.prog Γ 51 [.isl false 2 (wdsV ws), .int .i64 (e : Int)] σ fun r s => (∀ b c, σ b = some c → s b = some c) ∧ ∃ d c q, r = .tup [.agg [.bool d, q], .int .i64 (stepR ws e).2.1, .int .i64 (stepR ws e).2.2] ∧ At s 1 (ints c) q ∧ (∀ b, blk q = some b → σ b = none) ∧ c.length ≤ 12 ∧ ((stepR ws e).2.1 = 0 → d = delW ws ∧ c = (stepR ws e).1) := by
  have hlen2 : ∀ x y : V, [x, y].take 2 = [x, y] := fun _ _ => rfl
  have hRb := hw.1
  have hR0 : restW ws = ws.drop (if delW ws then 1 else 0) := by unfold restW; split <;> simp_all
  unfold stepR
  refine acalls_W c51_ok rfl ?_
  simp (disch := omega) only [c51, go_sem]
  refine SRun.allocR ?_
  intro b4 hb4
  simp (disch := omega) only [List.replicate_zero, go_sem]
  refine SRun.allocR ?_
  intro b7 hb7
  have k4 : ∀ c, upd (upd σ b4 [.bool false, .isl true 0 []]) b7 c b4 = some [.bool false, .isl true 0 []] := fun c => le_upd hb7 _ _ (upd_same _ _ _)
  have kσ : ∀ c d x, σ d = some x → upd (upd σ b4 [.bool false, .isl true 0 []]) b7 c d = some x := fun c d x h => le_upd hb7 _ _ (le_upd hb4 _ _ h)
  have n74 : b7 ≠ b4 := fun e => by subst e; rw [upd_same] at hb7; cases hb7
  have n4σ : σ b4 = none := hb4
  have n7σ : σ b7 = none := by
    cases h : σ b7 with
    | none => rfl
    | some x => rw [le_upd hb4 _ _ h] at hb7; cases hb7
  generalize upd σ b4 [.bool false, .isl true 0 []] = s2 at *
  generalize hS : stepGo (restW ws) [] e = S at *
  rw [hR0] at hS
  obtain ⟨d, hdd⟩ : ∃ d, d = delW ws := ⟨_, rfl⟩
  rw [← hdd]
  rw [← hdd] at hS
  have hdel0 : (textW ws 0 == [100]) = d := by rw [hdd]; rfl
  have hwn := wdsV_len ws
  clear hdd
  simp (disch := omega) only [upd_same, upd_upd, go_sem]
  by_cases hd : d = true
  case' neg =>
    have hdf : d = false := by simpa using hd
    have hdel : (textW ws 0 == [100]) = false := by rw [hdel0, hdf]
    obtain ⟨j0, hj0, hj1⟩ : ∃ j0 : Nat, j0 ≤ 1 ∧ (j0 : Int) = 0 := ⟨0, by omega, rfl⟩
    have hS0 : stepGo (ws.drop j0) [] e = S := by rw [← hS, hdf, show j0 = 0 by omega]; rfl
    simp (disch := omega) only [hdel, go_sem]
    have g7 : upd s2 b7 [.bool false, .isl true 1 []] b7 = some [.bool d, .isl true 1 []] := by rw [upd_same, hdf]
    have k4 := k4 [.bool false, .isl true 1 []]
    have kσ := kσ [.bool false, .isl true 1 []]
    generalize upd s2 b7 [.bool false, .isl true 1 []] = s5 at *
  case' pos =>
    have hdel : (textW ws 0 == [100]) = true := by rw [hdel0, hd]
    obtain ⟨j0, hj0, hj1⟩ : ∃ j0 : Nat, j0 ≤ 1 ∧ (j0 : Int) = 1 := ⟨1, by omega, rfl⟩
    have hS0 : stepGo (ws.drop j0) [] e = S := by rw [← hS, hd, show j0 = 1 by omega]; rfl
    simp (disch := omega) only [hdel, upd_same, upd_upd, go_sem]
    have g7 : upd s2 b7 [.bool true, .isl true 1 []] b7 = some [.bool d, .isl true 1 []] := by rw [upd_same, hd]
    have k4 := k4 [.bool true, .isl true 1 []]
    have kσ := kσ [.bool true, .isl true 1 []]
    generalize upd s2 b7 [.bool true, .isl true 1 []] = s5 at *
  all_goals
    clear hdel hd hdel0 hS
    refine W_loopC (α := Nat × List Int × V × St) (fun a => a.1 ≤ ws.length ∧ stepGo (ws.drop a.1) a.2.1 e = S ∧ a.2.1.length ≤ 12 ∧ a.2.2.2 b7 = some [.bool d, a.2.2.1] ∧ a.2.2.2 b4 = some [.bool false, .isl true 0 []] ∧ At a.2.2.2 1 (ints a.2.1) a.2.2.1 ∧ (∀ b, blk a.2.2.1 = some b → s5 b = none) ∧ (∀ b, a.2.2.2 b = none → s5 b = none) ∧ (∀ b c, σ b = some c → a.2.2.2 b = some c)) (fun a => [(0, .isl false 2 (wdsV ws)), (1, .int .i64 (e : Int)), (4, .ptr b4 0), (7, .ptr b7 0), (8, .int .i64 (a.1 : Nat))]) (fun a => a.2.2.2) (fun a => ws.length - a.1) (j0, [], .isl true 1 [], s5) ⟨by simp only; omega, hS0, by simp, g7, k4, ⟨fun x hx => (by cases hx), .inl ⟨rfl, 1, rfl⟩⟩, fun b hb => (by cases hb), fun b hb => hb, kσ⟩ (by simp (disch := omega) only [subT, Int.natCast_add, Int.cast_ofNat_Int, hj1, go_sem] <;> (repeat' apply And.intro) <;> first | rfl | (congr 1; omega) | assumption) rfl ?_
    have K4 := k4
    have K7 := g7
    clear g7 k4 hS0 hj0 hj1
    rintro ⟨i, c, q, s⟩ ⟨hi, hs, hc, g7, g2, ha, hq, hdom, hle⟩ ih
    dsimp only at hi hs hc g7 g2 ha hq hdom hle
    have hq0 : ∀ b c, s5 b = some c → blk q ≠ some b := fun b c h e => by rw [hq b e] at h; cases h
    have q4 := hq0 _ _ K4
    have q7 := hq0 _ _ K7
    have ho1 : ∀ c ∈ [V.bool d, q], c.one = true := by intro c hc; simp only [List.mem_cons, List.not_mem_nil, or_false] at hc; rcases hc with rfl | rfl; rfl; exact ha.one
    have ho2 : (∀ c, c ∈ [V.bool d, q] → c.one = true) = True := eq_true ho1
    have hl2 : [V.bool d, q].length = 2 := rfl
    have hset : sets [V.bool false, V.isl true 0 []] 0 [V.bool d, q] = [V.bool d, q] := rfl
    have g7d : del s b4 b7 = some [V.bool d, q] := by rw [del_ne _ n74]; exact g7
    simp (disch := omega) only [go_sem]
    first | refine iteW_dec (fun h1 => ?_) (fun h1 => ?_) | refine iteW_of (fun h1 => ?_) (fun h1 => ?_)
    · have hi' : i < ws.length := by omega
      rw [dropW hi'] at hs
      simp only [stepGo, placeW_nat] at hs
      simp (disch := omega) only [go_sem]
      refine SRun.callR (l00Number_ok (by have := hw.text i; omega)) ⟨[], rfl, rfl⟩ rfl ?_
      cases hP : numP (textW ws i) with
      | none =>
        rw [hP] at hs
        simp only at hs
        have hb : (!(none : Option Int).isSome) = true := rfl
        simp (disch := omega) only [hb, go_sem]
        refine W_drawW ?_
        refine DRun.mix1 g2 rfl ?_
        simp (disch := omega) only [g7d, hlen2, go_sem]
        refine DS.wrQ (WrF.storeT rfl (upd_same _ _ _) rfl (by intro c hc; simp only [ev, look, V.cells] at hc; exact ho1 c hc) (Nat.le_refl _)) rfl ?_
        rintro _ s4 ⟨_, rfl⟩ hdj
        simp (disch := omega) only [go_sem]
        refine ⟨_, rfl, ?_⟩
        have gz := upd_same s b4 [V.bool d, q]
        refine W_retC c51_ok (resV_C3 rfl gz rfl) (Conv.refl _ _) ⟨fun b c h => (upd_ne _ _ (fun e => by subst e; rw [n4σ] at h; cases h)).trans (hle b c h), d, c, q, by rw [← hs]; rfl, ha.upd q4, fun b hb => none_of (t := s5) kσ b (hq b hb), hc, fun hz => by rw [← hs] at hz; cases hz⟩
      | some n =>
        rw [hP] at hs
        simp only at hs
        have hb : (!(some n : Option Int).isSome) = false := rfl
        have hgd : (some n : Option Int).getD 0 = n := rfl
        by_cases hx0 : n = 0
        · have d0 : decide (n = 0) = true := decide_eq_true hx0
          rw [if_pos hx0] at hs
          by_cases hmore : i + 1 < ws.length
          · have d1 : decide ((i : Int) + 1 < ws.length) = true := decide_eq_true (by omega)
            rw [dropW hmore] at hs
            simp only [placeW_nat] at hs
            have hin : ((i : Int) + 1).toNat = i + 1 := by omega
            simp (disch := omega) only [hb, hgd, d0, hwn, d1, go_sem]
            refine W_drawW ?_
            refine DRun.mix1 g2 rfl ?_
            simp (disch := omega) only [g7d, hlen2, hin, go_sem]
            refine DS.wrQ (WrF.storeT rfl (upd_same _ _ _) rfl (by intro c hc; simp only [ev, look, V.cells] at hc; exact ho1 c hc) (Nat.le_refl _)) rfl ?_
            rintro _ s4 ⟨_, rfl⟩ hdj
            simp (disch := omega) only [go_sem]
            refine ⟨_, rfl, ?_⟩
            have gz := upd_same s b4 [V.bool d, q]
            refine W_retC c51_ok (resV_C3 rfl gz rfl) (Conv.refl _ _) ⟨fun b c h => (upd_ne _ _ (fun e => by subst e; rw [n4σ] at h; cases h)).trans (hle b c h), d, c, q, by rw [← hs]; rfl, ha.upd q4, fun b hb => none_of (t := s5) kσ b (hq b hb), hc, fun hz => by rw [← hs] at hz; cases hz⟩
          · have d1 : decide ((i : Int) + 1 < ws.length) = false := decide_eq_false (by omega)
            have hnil : ws.drop (i + 1) = [] := List.drop_eq_nil_of_le (by omega)
            rw [hnil] at hs
            simp only at hs
            simp (disch := omega) only [hb, hgd, d0, hwn, d1, g7, g2, hlen2, hl2, ho2, hset, go_sem]
            have gz := upd_same s b4 [V.bool d, q]
            refine W_retC c51_ok (resV_C3 rfl gz rfl) (Conv.refl _ _) ⟨fun b c h => (upd_ne _ _ (fun e => by subst e; rw [n4σ] at h; cases h)).trans (hle b c h), d, c, q, by rw [← hs]; rfl, ha.upd q4, fun b hb => none_of (t := s5) kσ b (hq b hb), hc, fun _ => ⟨rfl, by rw [← hs]⟩⟩
        · have d0 : decide (n = 0) = false := decide_eq_false hx0
          rw [if_neg hx0] at hs
          simp (disch := omega) only [hb, hgd, d0, go_sem]
          refine SRun.callR (l01In_okT n (-40) 40) ⟨[], rfl, rfl⟩ rfl ?_
          by_cases hl : -40 ≤ n ∧ n ≤ 40
          · have dl : (!(decide (-40 ≤ n) && decide (n ≤ 40))) = false := by simp [hl.1, hl.2]
            rw [if_neg (by omega)] at hs
            by_cases h12 : c.length = 12
            · have d12 : decide (((ints c).length : Int) = 12) = true := decide_eq_true (by rw [ints_len]; omega)
              rw [if_pos h12] at hs
              simp (disch := omega) only [dl, g7, stepW_len_at ha, d12, go_sem]
              refine W_drawW ?_
              refine DRun.mix1 g2 rfl ?_
              simp (disch := omega) only [g7d, hlen2, go_sem]
              refine DS.wrQ (WrF.storeT rfl (upd_same _ _ _) rfl (by intro c hc; simp only [ev, look, V.cells] at hc; exact ho1 c hc) (Nat.le_refl _)) rfl ?_
              rintro _ s4 ⟨_, rfl⟩ hdj
              simp (disch := omega) only [go_sem]
              refine ⟨_, rfl, ?_⟩
              have gz := upd_same s b4 [V.bool d, q]
              refine W_retC c51_ok (resV_C3 rfl gz rfl) (Conv.refl _ _) ⟨fun b c h => (upd_ne _ _ (fun e => by subst e; rw [n4σ] at h; cases h)).trans (hle b c h), d, c, q, by rw [← hs]; rfl, ha.upd q4, fun b hb => none_of (t := s5) kσ b (hq b hb), hc, fun hz => by rw [← hs] at hz; cases hz⟩
            · have d12 : decide (((ints c).length : Int) = 12) = false := decide_eq_false (by rw [ints_len]; omega)
              rw [if_neg h12] at hs
              simp (disch := omega) only [dl, g7, stepW_len_at ha, d12, go_sem]
              refine SRun.appAt (ys := ints [n]) ha rfl rfl (ints_ok _) (by simp only [ints_len, List.length_singleton]; omega) ?_
              intro q' s' hA
              have hA' : AppAt s 1 (ints (c ++ [n])) q q' s' := by have := hA; rwa [show ints c ++ ints [n] = ints (c ++ [n]) by simp [ints]] at this
              have g7' := hA'.get g7 q7
              have hqn := hA'.new hdom hq
              have e7 : blk q' ≠ some b7 := fun e => by rw [hqn _ e] at K7; cases K7
              simp (disch := omega) only [g7', hA'.at_.one, hA'.at_.cells, go_sem]
              refine ih (i + 1, c ++ [n], q', _) _ _ ⟨by simp only; omega, hs, by simp only [List.length_append, List.length_singleton]; omega, upd_same _ _ _, ?_, hA'.at_.upd e7, hqn, ?_, ?_⟩ (by simp only; omega) (by simp (disch := omega) only [subT, Int.natCast_add, Int.cast_ofNat_Int, go_sem] <;> (repeat' apply And.intro) <;> first | rfl | (congr 1; omega) | assumption) rfl
              · exact (upd_ne _ _ n74.symm).trans (hA'.get g2 q4)
              · exact fun b hb => hA'.dom hdom hq b (upd_none.1 hb).2
              · exact fun b c h => (upd_ne _ _ (fun e => by subst e; rw [n7σ] at h; cases h)).trans (hA'.get (hle b c h) (hq0 _ _ (kσ _ _ h)))
          · have dl : (!(decide (-40 ≤ n) && decide (n ≤ 40))) = true := by
              rcases Classical.not_and_iff_not_or_not.1 hl with h | h
              · rw [decide_eq_false h]; rfl
              · rw [decide_eq_false h, Bool.and_false]; rfl
            rw [if_pos hl] at hs
            simp (disch := omega) only [dl, go_sem]
            refine W_drawW ?_
            refine DRun.mix1 g2 rfl ?_
            simp (disch := omega) only [g7d, hlen2, go_sem]
            refine DS.wrQ (WrF.storeT rfl (upd_same _ _ _) rfl (by intro c hc; simp only [ev, look, V.cells] at hc; exact ho1 c hc) (Nat.le_refl _)) rfl ?_
            rintro _ s4 ⟨_, rfl⟩ hdj
            simp (disch := omega) only [go_sem]
            refine ⟨_, rfl, ?_⟩
            have gz := upd_same s b4 [V.bool d, q]
            refine W_retC c51_ok (resV_C3 rfl gz rfl) (Conv.refl _ _) ⟨fun b c h => (upd_ne _ _ (fun e => by subst e; rw [n4σ] at h; cases h)).trans (hle b c h), d, c, q, by rw [← hs]; rfl, ha.upd q4, fun b hb => none_of (t := s5) kσ b (hq b hb), hc, fun hz => by rw [← hs] at hz; cases hz⟩
    · obtain rfl : i = ws.length := by omega
      rw [List.drop_length] at hs
      simp only [stepGo] at hs
      simp (disch := omega) only [g7, g2, hlen2, hl2, ho2, hset, go_sem]
      have gz := upd_same s b4 [V.bool d, q]
      refine W_retC c51_ok (resV_C3 rfl gz rfl) (Conv.refl _ _) ⟨fun b c h => (upd_ne _ _ (fun e => by subst e; rw [n4σ] at h; cases h)).trans (hle b c h), d, c, q, by rw [← hs]; rfl, ha.upd q4, fun b hb => none_of (t := s5) kσ b (hq b hb), hc, fun hz => by rw [← hs] at hz; cases hz⟩
end Go.Proofs.YtlojopaebdnacaaDoor.Lg
