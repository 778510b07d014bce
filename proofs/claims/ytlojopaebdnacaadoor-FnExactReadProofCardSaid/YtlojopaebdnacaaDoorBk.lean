/- Proofs read by the reference. -/
import Derived.Test.YtlojopaebdnacaaDoorBj
set_option linter.unusedSimpArgs false
set_option linter.unusedVariables false
namespace Go.Proofs.YtlojopaebdnacaaDoor.Lg
open Go Go.Lib
attribute [local irreducible] SRun DS DRun
variable {Γ : St} {σ σ0 : St}
set_option maxHeartbeats 4000000 in
theorem specReadProof_own {t : List UInt8} (hl : t.length ≤ 10000000) :
    ACalls Tryd.prog Γ 22 [.str t] σ fun r s => (∀ b c, σ b = some c → s b = some c) ∧ ∃ q qs, r = .tup [q, .int .i64 (proofP t).2.1, .int .i64 (proofP t).2.2] ∧ LLA σ 2 1 preS rowS (proofP t).1 q qs s := by
  have hlen2 : ∀ x y : V, [x, y].take 2 = [x, y] := fun _ _ => rfl
  generalize hR : proofP t = R
  unfold proofP at hR
  refine acalls_W c22_ok rfl ?_
  simp (disch := omega) only [c22, List.replicate_zero, go_sem]
  first | refine iteW_dec (fun h0 => ?_) (fun h0 => ?_) | refine iteW_of (fun h0 => ?_) (fun h0 => ?_)
  · rw [if_pos (by omega)] at hR
    subst hR
    simp (disch := omega) only [go_sem]
    exact W_retR c22_ok rfl ⟨fun _ _ h => h, _, _, rfl, LLA.nil⟩
  rw [if_neg (by omega)] at hR
  simp (disch := omega) only [go_sem]
  refine SRun.callR (l00Cut_ok (b := 10) (by omega)) ⟨[], rfl, rfl⟩ rfl ?_
  have hin := fun k => atP_in (b := 10) (t := t) (k := k)
  have hatl := fun k => atP_le (b := 10) (t := t) (k := k)
  have hcl : (cutP 10 t).length ≤ t.length + 1 := cutGo_len _ _ _
  rw [show strsT (cutP 10 t) = (cutP 10 t).map V.str from rfl]
  generalize cutP 10 t = ls at *
  have hls : (ls.map V.str).length = ls.length := by simp
  simp (disch := omega) only [List.replicate_zero, go_sem]
  refine W_loopC (α := Nat × List (Bool × List Int) × V × List V × St) (fun a => a.1 ≤ ls.length ∧ proofGo (linesP (atP ls a.1) (ls.drop a.1)) a.2.1 = R ∧ a.2.1.length ≤ 200 ∧ LLA σ 2 1 preS rowS a.2.1 a.2.2.1 a.2.2.2.1 a.2.2.2.2 ∧ (∀ b c, σ b = some c → a.2.2.2.2 b = some c)) (fun a => [(0, .str t), (5, .isl true 2 []), (6, .isl false 1 (ls.map V.str)), (7, a.2.2.1), (8, .int .i64 (atP ls a.1 : Nat)), (9, .int .i64 (a.1 : Nat))]) (fun a => a.2.2.2.2) (fun a => ls.length - a.1) (0, [], .isl true 2 [], [], σ) ⟨by simp, by simpa [atP_zero] using hR, by simp, LLA.nil, fun _ _ h => h⟩ (by simp (disch := omega) only [subT, Int.natCast_add, Int.cast_ofNat_Int, atP_zero, go_sem] <;> (repeat' apply And.intro) <;> first | rfl | (congr 1; omega) | assumption) rfl ?_
  rintro ⟨k, acc, q, qs, s⟩ ⟨hk, hr, hacc, hA, hle⟩ ih
  dsimp only at hk hr hacc hA hle
  have hel : (els preS acc qs).length = acc.length := els_len hA.rows.len
  have hkl := hatl k hk
  simp (disch := omega) only [hls, go_sem]
  first | refine iteW_dec (fun h1 => ?_) (fun h1 => ?_) | refine iteW_of (fun h1 => ?_) (fun h1 => ?_)
  · have hk' : k < ls.length := by omega
    have hki := hin k hk'
    have has := atP_succ hk'
    rw [dropL hk'] at hr
    have hget : (ls.map V.str)[k]? = some (.str (ls.getD k [])) := by simp [List.getD, hk']
    simp (disch := omega) only [hget, go_sem]
    generalize hline : ls.getD k [] = line at *
    have hline' : ls.getD k default = line := hline
    generalize atP ls k = p at *
    refine SRun.callR (l01Words_ok (line := line) (p := p) (by omega) (by omega)) ⟨[], rfl, rfl⟩ rfl ?_
    simp only [linesP] at hr
    have hwO := wordsP_ok (bl := blF) (l := line) (i := p) (by omega)
    generalize wordsP blF line p = ws at *
    have hat : (p : Int) + (line.length : Int) + 1 = ((atP ls (k + 1) : Nat) : Int) := by omega
    have hpl : (p : Int) + (line.length : Int) = ((p + line.length : Nat) : Int) := by omega
    have hwn := wdsV_len ws
    have next : ∀ T, subT [(0, .str t), (5, .isl true 2 []), (6, .isl false 1 (ls.map V.str)), (7, q), (8, .int .i64 (atP ls (k + 1) : Nat)), (9, .int .i64 ((k + 1 : Nat) : Int))] T → proofGo (linesP (p + line.length + 1) (ls.drop (k + 1))) acc = R → W Tryd.prog Γ 22 (c22).n _ _ T s := fun T hT h => ih (k + 1, acc, q, qs, s) T _ ⟨by simp only; omega, by rw [has]; exact h, hacc, hA, hle⟩ (by simp only; omega) hT rfl
    by_cases hw0 : ws.length = 0
    · have d0 : decide (((wdsV ws).length : Int) = 0) = true := decide_eq_true (by omega)
      have hws : ws = [] := List.eq_nil_of_length_eq_zero hw0
      rw [if_neg (by rw [hws]; simp [saysF])] at hr
      simp (disch := omega) only [hget, hline', d0, go_sem]
      rw [hat]
      exact next _ (by simp (disch := omega) only [subT, Int.natCast_add, Int.cast_ofNat_Int, go_sem] <;> (repeat' apply And.intro) <;> first | rfl | (congr 1; omega) | assumption) hr
    · have d0 : decide (((wdsV ws).length : Int) = 0) = false := decide_eq_false (by omega)
      have hwp : 0 < ws.length := by omega
      have hsay : saysF ws = !(textW ws 0 == [99]) := by
        cases ws with
        | nil => simp at hw0
        | cons w r => rfl
      cases hc : textW ws 0 == [99] with
      | true =>
        rw [if_neg (by rw [hsay, hc]; simp)] at hr
        simp (disch := omega) only [hget, hline', d0, hc, go_sem]
        rw [hat]
        exact next _ (by simp (disch := omega) only [subT, Int.natCast_add, Int.cast_ofNat_Int, go_sem] <;> (repeat' apply And.intro) <;> first | rfl | (congr 1; omega) | assumption) hr
      | false =>
        rw [if_pos (by rw [hsay, hc]; rfl)] at hr
        simp (disch := omega) only [hget, hline', d0, hc, go_sem]
        rw [hpl]
        refine SRun.callQ (l03Line_own (e := p + line.length) hwp hwO) ⟨[], rfl, rfl⟩ rfl ?_
        rintro r s8 ⟨hle8, d, c, q', rfl, ha, hn, hcl', hz⟩
        simp only [proofGo] at hr
        have hst : stepGo (restW ws) [] ((p + line.length : Nat) : Int) = stepR ws ((p + line.length : Nat) : Int) := rfl
        rw [hst] at hr
        have hAS := hA
        have hleS := hle
        have hA := hA.mono hle8
        have hle : ∀ b c, σ b = some c → s8 b = some c := fun b c h => hle8 _ _ (hle b c h)
        have ho1 : ∀ c, c ∈ [V.bool d, q'] → c.one = true := by intro c hc; simp only [List.mem_cons, List.not_mem_nil, or_false] at hc; rcases hc with rfl | rfl; rfl; exact ha.one
        have ho2 : (∀ c, c ∈ [V.bool d, q'] → c.one = true) = True := eq_true ho1
        have hl2 : [V.bool d, q'].length = 2 := rfl
        have hset : sets [V.bool false, V.isl true 0 []] 0 [V.bool d, q'] = [V.bool d, q'] := rfl
        simp (disch := omega) only [go_sem]
        refine SRun.allocR ?_
        intro b8 hb8
        have g8 := upd_same s8 b8 [V.bool d, q']
        have hle9 := le_upd (cs := [V.bool d, q']) hb8
        have hA2 := hA.mono hle9
        have ha2 := ha.mono hle9
        have hle : ∀ b c, σ b = some c → upd s8 b8 [V.bool d, q'] b = some c := fun b c h => hle9 _ _ (hle b c h)
        generalize hcode : (stepR ws ((p + line.length : Nat) : Int)).2.1 = code at *
        simp (disch := omega) only [upd_same, upd_upd, hlen2, hl2, ho2, hset, go_sem]
        generalize upd s8 b8 [V.bool d, q'] = s9 at *
        by_cases hc0 : code = 0
        · have hc' : ¬ code ≠ 0 := fun h => h hc0
          have dd2 : (decide ¬ (code = 0)) = false := decide_eq_false (fun h => h hc0)
          obtain ⟨rfl, rfl⟩ := hz hc0
          rw [if_neg hc'] at hr
          by_cases h200 : acc.length = 200
          · have d3 : decide (((els preS acc qs).length : Int) = 200) = true := decide_eq_true (by rw [hel]; omega)
            rw [if_pos h200] at hr
            simp (disch := omega) only [dd2, stepW_len_at hA2.at_, d3, go_sem]
            refine W_drawW ?_
            simp (disch := omega) only [go_sem]
            refine W_retR c22_ok rfl ⟨hle, .isl true 2 [], [], by rw [← hr]; rfl, by rw [← hr]; exact LLA.nil⟩
          · have d3 : decide (((els preS acc qs).length : Int) = 200) = false := decide_eq_false (by rw [hel]; omega)
            rw [if_neg h200] at hr
            simp (disch := omega) only [dd2, stepW_len_at hA2.at_, d3, g8, hlen2, go_sem]
            have hy2 : ∀ y ∈ [elV [V.bool (delW ws)] q'], y.cells.length = 2 ∧ ∀ c ∈ y.cells, c.one = true := by
              intro y hy
              rw [List.mem_singleton.1 hy, elV_cells ha.cells]
              exact ⟨rfl, fun c hc => ho1 c hc⟩
            have hfit : ((els preS acc qs).length + [elV [V.bool (delW ws)] q'].length) * 32 ≤ 140737488355328 := by rw [hel]; simp only [List.length_singleton]; omega
            refine ⟨ha.one, ?_⟩
            refine SRun.appAt (ys := [elV [V.bool (delW ws)] q']) hA2.at_ (by exact src_isl) rfl hy2 (by exact hfit) ?_
            intro q2 s2 hP
            simp (disch := omega) only [go_sem]
            have hnew := hA2.push preS_ok (a := (delW ws, (stepR ws ((p + line.length : Nat) : Int)).1)) (m := q') (q' := q2) (t := s2) hle ha2 (fun b hb => none_of hleS b (hn b hb)) (fun b hb e2 => by have := hAS.at_.has e2; rw [hn b hb] at this; cases this) (fun m' hm' b hb e2 => by
              obtain ⟨a', ha'⟩ := hAS.rows.has hm'
              have := ha'.has hb
              rw [hn b e2] at this; cases this) hP.at_ hP.blk_ hP.keep
            rw [← hpl, hat]
            refine ih (k + 1, acc ++ [(delW ws, (stepR ws ((p + line.length : Nat) : Int)).1)], q2, qs ++ [q'], s2) _ _ ⟨by simp only; omega, by rw [has]; exact hr, by simp only [List.length_append, List.length_singleton]; omega, hnew, ?_⟩ (by simp only; omega) (by simp (disch := omega) only [subT, Int.natCast_add, Int.cast_ofNat_Int, go_sem] <;> (repeat' apply And.intro) <;> first | rfl | (congr 1; omega) | assumption) rfl
            intro b c h
            exact hP.get (hle b c h) (fun e2 => by rw [hA2.new b e2] at h; cases h)
        · have dd2 : (decide ¬ (code = 0)) = true := decide_eq_true hc0
          rw [if_pos hc0] at hr
          simp (disch := omega) only [dd2, go_sem]
          refine W_retR c22_ok rfl ⟨hle, .isl true 2 [], [], by rw [← hr]; rfl, by rw [← hr]; exact LLA.nil⟩
  · obtain rfl : k = ls.length := by omega
    rw [List.drop_length] at hr
    simp only [linesP, proofGo] at hr
    subst hr
    simp (disch := omega) only [go_sem]
    exact W_retR c22_ok rfl ⟨hle, q, qs, rfl, hA⟩
end Go.Proofs.YtlojopaebdnacaaDoor.Lg
