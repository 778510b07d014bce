/- Formulas read by the reference. -/
import Derived.Test.YtlojopaebdnacaaDoorBs
set_option linter.unusedSimpArgs false
set_option linter.unusedVariables false
namespace Go.Proofs.YtlojopaebdnacaaDoor.Lg
open Go Go.Lib
attribute [local irreducible] SRun DS DRun
variable {Γ : St} {σ σ0 : St}
/-- Reading clauses: what the words that are left make of it. -/
def R2 (σ0 : St) (rb : Nat) (vars most : Int) (len : Nat) (ws : List Wd) (D : DimR) (s : St) : Prop :=
  ∃ cls now q qs qn, DimL σ0 rb cls now q qs qn s ∧ s rb = some (boxR vars q (most - (cls.length : Int)) qn true 0 0) ∧ (cls.length : Int) ≤ most ∧ now.length ≤ 12 ∧ dimEnd vars most len (litsP vars most ws (cls, now)) = D
/-- It has failed. -/
def R3 (σ0 : St) (rb : Nat) (D : DimR) (s : St) : Prop :=
  ∃ vars q left qn bg code place, s rb = some (boxR vars q left qn bg code place) ∧ code ≠ 0 ∧ D = .bad code place ∧ ∀ b c, σ0 b = some c → s b = some c
def R1 (σ0 : St) (rb : Nat) (len : Nat) (rest : List (List Wd × Nat)) (D : DimR) (s : St) : Prop :=
  ∃ q qn, DimL σ0 rb [] [] q [] qn s ∧ s rb = some (boxR 0 q 0 qn false 0 0) ∧ dimL len rest = D
def RdS (σ0 : St) (rb : Nat) (len : Nat) (rest : List (List Wd × Nat)) (D : DimR) (s : St) : Prop :=
  R1 σ0 rb len rest D s ∨ (∃ vars most, (0 ≤ vars ∧ vars ≤ 40) ∧ (0 ≤ most ∧ most ≤ 300) ∧ R2 σ0 rb vars most len (rest.flatMap (·.1)) D s) ∨ R3 σ0 rb D s
set_option maxHeartbeats 8000000 in
theorem specReadDimacs_own {t : List UInt8} (hl : t.length ≤ 10000000) :
    ACalls Tryd.prog Γ 13 [.str t] σ fun r s => (∀ b c, σ b = some c → s b = some c) ∧ ∃ q qs, r = .tup [.agg [.int .i64 (dimP t).vars, q], .int .i64 (dimP t).code, .int .i64 (dimP t).place] ∧ LLA σ 1 1 pre0 ints (dimP t).cls q qs s := by
  have hlen2 : ∀ x y : V, [x, y].take 2 = [x, y] := fun _ _ => rfl
  generalize hR : dimP t = D
  unfold dimP at hR
  refine acalls_W c13_ok rfl ?_
  simp (disch := omega) only [c13, go_sem]
  refine SRun.allocR ?_
  intro b2 hb2
  simp (disch := omega) only [go_sem]
  first | refine iteW_dec (fun h0 => ?_) (fun h0 => ?_) | refine iteW_of (fun h0 => ?_) (fun h0 => ?_)
  · rw [if_pos (by omega)] at hR
    subst hR
    simp (disch := omega) only [upd_same, upd_upd, go_sem]
    have gz := upd_same σ b2 [.int .i64 0, .isl true 0 []]
    exact W_retC c13_ok (resV_C3 rfl gz rfl) (Conv.refl _ _) ⟨le_upd hb2, .isl true 0 [], [], rfl, LLA.nil⟩
  rw [if_neg (by omega)] at hR
  have hle0 : ∀ b c, σ b = some c → upd σ b2 [.int .i64 0, .isl true 0 []] b = some c := le_upd hb2
  have g2 := upd_same σ b2 [.int .i64 0, .isl true 0 []]
  generalize upd σ b2 [.int .i64 0, .isl true 0 []] = s0 at *
  have out : ∀ (s : St) (c : List V), (∀ b c, s0 b = some c → s b = some c) → ∀ b x, σ b = some x → upd s b2 c b = some x := fun s c h b x hb => (upd_ne _ _ (fun e => by subst e; rw [hb2] at hb; cases hb)).trans (h _ _ (hle0 _ _ hb))
  simp (disch := omega) only [List.replicate_zero, go_sem]
  refine SRun.boxR (by simp [ev, look, V.cells, V.one]) ?_
  intro rb hrb
  have nrb : rb ≠ b2 := fun e => by subst e; rw [g2] at hrb; cases hrb
  have h1 := DimL.start (es := 0) (es' := 1) hrb (boxR 0 (.isl true 0 []) 0 (.isl true 1 []) false 0 0)
  have g1 := upd_same s0 rb (boxR 0 (.isl true 0 []) 0 (.isl true 1 []) false 0 0)
  have e1 : upd s0 rb (boxR 0 (.isl true 0 []) 0 (.isl true 1 []) false 0 0) = upd s0 rb [.int .i64 0, .isl true 0 [], .int .i64 0, .isl true 1 [], .bool false, .int .i64 0, .int .i64 0] := rfl
  rw [e1] at h1 g1
  simp (disch := omega) only [List.replicate_zero, go_sem]
  generalize upd s0 rb [.int .i64 0, .isl true 0 [], .int .i64 0, .isl true 1 [], .bool false, .int .i64 0, .int .i64 0] = s1 at *
  refine SRun.callR (l00Cut_ok (b := 10) (by omega)) ⟨[], rfl, rfl⟩ rfl ?_
  have hin := fun k => atP_in (b := 10) (t := t) (k := k)
  have hatl := fun k => atP_le (b := 10) (t := t) (k := k)
  have hcl : (cutP 10 t).length ≤ t.length + 1 := cutGo_len _ _ _
  rw [show strsT (cutP 10 t) = (cutP 10 t).map V.str from rfl]
  generalize cutP 10 t = ls at *
  have hls : (ls.map V.str).length = ls.length := by simp
  simp (disch := omega) only [go_sem]
  refine W_loopC (α := Nat × St) (fun a => a.1 ≤ ls.length ∧ RdS s0 rb t.length (linesP (atP ls a.1) (ls.drop a.1)) D a.2) (fun a => [(0, .str t), (2, .ptr b2 0), (5, .ptr rb 0), (6, .isl false 1 (ls.map V.str)), (7, .int .i64 (atP ls a.1 : Nat)), (8, .int .i64 (a.1 : Nat))]) (fun a => a.2) (fun a => ls.length - a.1) (0, s1) ⟨by simp, .inl ⟨_, _, h1, g1, by simpa [atP_zero] using hR⟩⟩ (by simp (disch := omega) only [subT, Int.natCast_add, Int.cast_ofNat_Int, atP_zero, go_sem] <;> (repeat' apply And.intro) <;> first | rfl | (congr 1; omega) | assumption) rfl ?_
  clear h1 g1 e1 hR hrb
  rintro ⟨k, s⟩ ⟨hk, hI⟩ ih
  dsimp only at hk hI
  have hkl := hatl k hk
  rcases hI with ⟨q, qn, hD, hb, hr⟩ | ⟨vars, most, hv, hm, cls, now, q, qs, qn, hD, hb, hcl2, hn2, hr⟩ | h3
  · have hbb := hb
    unfold boxR at hbb
    by_cases hq : k < ls.length
    · have dq : decide ((k : Int) < (ls.length : Int)) = true := decide_eq_true (by omega)
      simp (disch := omega) only [hls, dq, go_sem]
      have hk' : k < ls.length := by omega
      have hki := hin k hk'
      have has := atP_succ hk'
      rw [dropL hk'] at hr
      have hget : (ls.map V.str)[k]? = some (.str (ls.getD k [])) := by simp [List.getD, hk']
      simp (disch := omega) only [hbb, hget, go_sem]
      generalize hline : ls.getD k [] = line at *
      have hline' : ls.getD k default = line := hline
      generalize atP ls k = p at *
      refine SRun.callR (l01Words_ok (line := line) (p := p) (by omega) (by omega)) ⟨[], rfl, rfl⟩ rfl ?_
      simp only [linesP] at hr
      have hwO := wordsP_ok (bl := blF) (l := line) (i := p) (by omega)
      generalize wordsP blF line p = ws at *
      have hat : (p : Int) + (line.length : Int) + 1 = ((atP ls (k + 1) : Nat) : Int) := by omega
      have hat2 : (p : Int) + ((line.length : Int) + 1) = ((atP ls (k + 1) : Nat) : Int) := by omega
      have hwn := wdsV_len ws
      have next : ∀ T s', subT [(0, .str t), (2, .ptr b2 0), (5, .ptr rb 0), (6, .isl false 1 (ls.map V.str)), (7, .int .i64 (atP ls (k + 1) : Nat)), (8, .int .i64 ((k + 1 : Nat) : Int))] T → RdS s0 rb t.length (linesP (p + line.length + 1) (ls.drop (k + 1))) D s' → W Tryd.prog Γ 13 (c13).n _ _ T s' := fun T s' hT h => ih (k + 1, s') T _ ⟨by simp only; omega, by rw [has]; exact h⟩ (by simp only; omega) hT rfl
      generalize linesP (p + line.length + 1) (ls.drop (k + 1)) = rest at *
      by_cases hw0 : ws.length = 0
      · have d0 : decide (((wdsV ws).length : Int) = 0) = true := decide_eq_true (by omega)
        have hws : ws = [] := List.eq_nil_of_length_eq_zero hw0
        rw [if_neg (by rw [hws]; simp [saysF])] at hr
        simp (disch := omega) only [hget, hline', d0, hat2, go_sem]
        exact next _ _ (by simp (disch := omega) only [subT, Int.natCast_add, Int.cast_ofNat_Int, go_sem] <;> (repeat' apply And.intro) <;> first | rfl | (congr 1; omega) | assumption) (.inl ⟨q, qn, hD, hb, hr⟩)
      have d0 : decide (((wdsV ws).length : Int) = 0) = false := decide_eq_false (by omega)
      have hwp : 0 < ws.length := by omega
      have hsay : saysF ws = !(textW ws 0 == [99]) := by
        cases ws with
        | nil => simp at hw0
        | cons w r => rfl
      cases hc : textW ws 0 == [99] with
      | true =>
        rw [if_neg (by rw [hsay, hc]; simp)] at hr
        simp (disch := omega) only [hget, hline', d0, hc, hat2, go_sem]
        exact next _ _ (by simp (disch := omega) only [subT, Int.natCast_add, Int.cast_ofNat_Int, go_sem] <;> (repeat' apply And.intro) <;> first | rfl | (congr 1; omega) | assumption) (.inl ⟨q, qn, hD, hb, hr⟩)
      | false =>
        rw [if_pos (by rw [hsay, hc]; rfl)] at hr
        simp only [dimL] at hr
        cases hp : textW ws 0 == [112] with
        | true =>
          simp (disch := omega) only [hbb, hget, hline', d0, hc, hp, hat2, go_sem]
          refine SRun.callQ (rHead_ok hwp hwO (by simpa using hp) hb) ⟨[], rfl, rfl⟩ rfl ?_
          rintro r s2 ⟨rfl, vars, left, bg, hs2, hgood⟩
          simp (disch := omega) only [go_sem]
          refine next _ _ (by simp (disch := omega) only [subT, Int.natCast_add, Int.cast_ofNat_Int, go_sem] <;> (repeat' apply And.intro) <;> first | rfl | (congr 1; omega) | assumption) ?_
          have hD2 := hD.box (boxR vars q left qn bg (headC ws).1 (headC ws).2)
          have hb2' := upd_same s rb (boxR vars q left qn bg (headC ws).1 (headC ws).2)
          rw [← hs2] at hD2 hb2'
          by_cases hz : (headC ws).1 = 0
          · obtain ⟨rfl, rfl, rfl, hv, hm⟩ := hgood hz
            rw [if_neg (fun h => h hz)] at hr
            rw [hz, headC_zero hz] at hb2'
            exact .inr (.inl ⟨_, _, hv, hm, [], [], q, [], qn, hD2, by simpa using hb2', by simpa using hm.1, by simp, hr⟩)
          · rw [if_pos hz] at hr
            exact .inr (.inr ⟨_, _, _, _, _, _, _, hb2', hz, hr.symm, hD2.le⟩)
        | false =>
          have hne : textW ws 0 ≠ [112] := by simpa using hp
          have hhd : headC ws = (4, placeW ws 0) := by unfold headC; exact if_pos (.inl hne)
          simp (disch := omega) only [hbb, hget, hline', d0, hc, hp, hat2, go_sem]
          refine SRun.callR (rFail_ok hb) ⟨[], rfl, rfl⟩ rfl ?_
          simp (disch := omega) only [go_sem]
          refine next _ _ (by simp (disch := omega) only [subT, Int.natCast_add, Int.cast_ofNat_Int, go_sem] <;> (repeat' apply And.intro) <;> first | rfl | (congr 1; omega) | assumption) ?_
          rw [hhd, if_pos (show ((4 : Int), placeW ws 0).1 ≠ 0 by intro h; cases h)] at hr
          exact .inr (.inr ⟨_, _, _, _, _, _, _, upd_same _ _ _, by decide, hr.symm, (hD.box _).le⟩)
    · obtain rfl : k = ls.length := by omega
      have dq : decide ((ls.length : Int) < (ls.length : Int)) = false := decide_eq_false (by omega)
      rw [List.drop_length] at hr
      simp only [linesP, dimL] at hr
      have hbad : D = .bad 4 (t.length : Int) := hr.symm
      simp (disch := omega) only [hls, dq, hbb, go_sem]
      refine SRun.callR (rFail_ok (c := 4) (p := (t.length : Int)) hb) ⟨[], rfl, rfl⟩ rfl ?_
      have hle := (hD.box (boxR 0 q 0 qn false 4 (t.length : Int))).le
      have hb9 := upd_same s rb (boxR 0 q 0 qn false 4 (t.length : Int))
      generalize upd s rb (boxR 0 q 0 qn false 4 (t.length : Int)) = s at *
      unfold boxR at hb9
      have g2s := hle _ _ g2
      have hdel : del s b2 rb = some [.int .i64 0, q, .int .i64 0, qn, .bool false, .int .i64 4, .int .i64 (t.length : Int)] := by rw [del_ne _ nrb]; exact hb9
      simp (disch := omega) only [hb9, go_sem]
      refine W_drawW ?_
      refine DRun.mix1 g2s rfl ?_
      simp (disch := omega) only [hdel, go_sem]
      refine DS.wrQ (WrF.storeT rfl (upd_same _ _ _) rfl (by simp [ev, look, V.cells, V.one]) (Nat.le_refl _)) rfl ?_
      rintro _ s4 ⟨_, rfl⟩ hdj
      simp (disch := omega) only [go_sem]
      refine ⟨_, rfl, ?_⟩
      have gz := upd_same s b2 [.int .i64 0, .isl true 0 []]
      exact W_retC c13_ok (resV_C3 rfl gz rfl) (Conv.refl _ _) ⟨out _ _ hle, .isl true 0 [], [], by rw [hbad]; rfl, by rw [hbad]; exact LLA.nil⟩
  · have hbb := hb
    unfold boxR at hbb
    by_cases hq : k < ls.length
    · have dq : decide ((k : Int) < (ls.length : Int)) = true := decide_eq_true (by omega)
      simp (disch := omega) only [hls, dq, go_sem]
      have hk' : k < ls.length := by omega
      have hki := hin k hk'
      have has := atP_succ hk'
      rw [dropL hk'] at hr
      have hget : (ls.map V.str)[k]? = some (.str (ls.getD k [])) := by simp [List.getD, hk']
      simp (disch := omega) only [hbb, hget, go_sem]
      generalize hline : ls.getD k [] = line at *
      have hline' : ls.getD k default = line := hline
      generalize atP ls k = p at *
      refine SRun.callR (l01Words_ok (line := line) (p := p) (by omega) (by omega)) ⟨[], rfl, rfl⟩ rfl ?_
      simp only [linesP] at hr
      have hwO := wordsP_ok (bl := blF) (l := line) (i := p) (by omega)
      generalize wordsP blF line p = ws at *
      have hat : (p : Int) + (line.length : Int) + 1 = ((atP ls (k + 1) : Nat) : Int) := by omega
      have hat2 : (p : Int) + ((line.length : Int) + 1) = ((atP ls (k + 1) : Nat) : Int) := by omega
      have hwn := wdsV_len ws
      have next : ∀ T s', subT [(0, .str t), (2, .ptr b2 0), (5, .ptr rb 0), (6, .isl false 1 (ls.map V.str)), (7, .int .i64 (atP ls (k + 1) : Nat)), (8, .int .i64 ((k + 1 : Nat) : Int))] T → RdS s0 rb t.length (linesP (p + line.length + 1) (ls.drop (k + 1))) D s' → W Tryd.prog Γ 13 (c13).n _ _ T s' := fun T s' hT h => ih (k + 1, s') T _ ⟨by simp only; omega, by rw [has]; exact h⟩ (by simp only; omega) hT rfl
      generalize linesP (p + line.length + 1) (ls.drop (k + 1)) = rest at *
      by_cases hw0 : ws.length = 0
      · have d0 : decide (((wdsV ws).length : Int) = 0) = true := decide_eq_true (by omega)
        have hws : ws = [] := List.eq_nil_of_length_eq_zero hw0
        rw [if_neg (by rw [hws]; simp [saysF])] at hr
        simp (disch := omega) only [hget, hline', d0, hat2, go_sem]
        exact next _ _ (by simp (disch := omega) only [subT, Int.natCast_add, Int.cast_ofNat_Int, go_sem] <;> (repeat' apply And.intro) <;> first | rfl | (congr 1; omega) | assumption) (.inr (.inl ⟨vars, most, hv, hm, cls, now, q, qs, qn, hD, hb, hcl2, hn2, hr⟩))
      have d0 : decide (((wdsV ws).length : Int) = 0) = false := decide_eq_false (by omega)
      have hwp : 0 < ws.length := by omega
      have hsay : saysF ws = !(textW ws 0 == [99]) := by
        cases ws with
        | nil => simp at hw0
        | cons w r => rfl
      cases hc : textW ws 0 == [99] with
      | true =>
        rw [if_neg (by rw [hsay, hc]; simp)] at hr
        simp (disch := omega) only [hget, hline', d0, hc, hat2, go_sem]
        exact next _ _ (by simp (disch := omega) only [subT, Int.natCast_add, Int.cast_ofNat_Int, go_sem] <;> (repeat' apply And.intro) <;> first | rfl | (congr 1; omega) | assumption) (.inr (.inl ⟨vars, most, hv, hm, cls, now, q, qs, qn, hD, hb, hcl2, hn2, hr⟩))
      | false =>
        rw [if_pos (by rw [hsay, hc]; rfl), List.flatMap_cons] at hr
        have hwb := hwO.1
        simp (disch := omega) only [hbb, hget, hline', d0, hc, hat2, go_sem]
        have hI : R2 s0 rb vars most t.length (ws ++ rest.flatMap (·.1)) D s := ⟨cls, now, q, qs, qn, hD, hb, hcl2, hn2, hr⟩
        clear hbb hb hD hr hcl2 hn2
        refine W_loopC (α := Nat × St) (fun a => a.1 ≤ ws.length ∧ (R2 s0 rb vars most t.length (ws.drop a.1 ++ rest.flatMap (·.1)) D a.2 ∨ R3 s0 rb D a.2)) (fun a => [(0, .str t), (2, .ptr b2 0), (5, .ptr rb 0), (6, .isl false 1 (ls.map V.str)), (7, .int .i64 (atP ls (k + 1) : Nat)), (8, .int .i64 (k : Nat)), (9, .isl false 2 (wdsV ws)), (10, .int .i64 (a.1 : Nat))]) (fun a => a.2) (fun a => ws.length - a.1) (0, s) ⟨by simp, .inl hI⟩ (by simp (disch := omega) only [subT, Int.natCast_add, Int.cast_ofNat_Int, go_sem] <;> (repeat' apply And.intro) <;> first | rfl | (congr 1; omega) | assumption) rfl ?_
        clear hI
        rintro ⟨i, s⟩ ⟨hi, hI⟩ ih2
        dsimp only at hi hI
        rcases hI with ⟨cls, now, q, qs, qn, hD, hb, hcl2, hn2, hr⟩ | h3
        · have hbb := hb
          unfold boxR at hbb
          simp (disch := omega) only [hwn, go_sem]
          by_cases hq : i < ws.length
          · have dq : decide ((i : Int) < (ws.length : Int)) = true := decide_eq_true (by omega)
            rw [dropW hq, List.cons_append] at hr
            simp only [litsP] at hr
            simp (disch := omega) only [hwn, dq, hbb, hlen2, go_sem]
            refine SRun.callQ (rLit_ok (p := placeW ws i) (by have := hwO.text i; omega) hv hm.2 hcl2 hn2 hD hb) ⟨[], rfl, rfl⟩ rfl ?_
            rintro r s2 ⟨rfl, cls', now', q', qs', qn', hD', hb', hc', hn', heq⟩
            simp (disch := omega) only [go_sem]
            refine ih2 (i + 1, s2) _ _ ⟨by simp only; omega, ?_⟩ (by simp only; omega) (by simp (disch := omega) only [subT, Int.natCast_add, Int.cast_ofNat_Int, go_sem] <;> (repeat' apply And.intro) <;> first | rfl | (congr 1; omega) | assumption) rfl
            by_cases hz : litC vars most (cls, now) (textW ws i) = 0
            · rw [if_pos hz, ← heq hz] at hr
              rw [hz, if_pos rfl] at hb'
              exact .inl ⟨cls', now', q', qs', qn', hD', hb', hc', hn', hr⟩
            · rw [if_neg hz, placeW_nat] at hr
              rw [if_neg hz] at hb'
              exact .inr ⟨_, _, _, _, _, _, _, hb', hz, by rw [← hr]; exact if_pos hz, hD'.le⟩
          · obtain rfl : i = ws.length := by omega
            have dq : decide ((ws.length : Int) < (ws.length : Int)) = false := decide_eq_false (by omega)
            rw [List.drop_length, List.nil_append] at hr
            simp (disch := omega) only [hwn, dq, go_sem]
            exact next _ _ (by simp (disch := omega) only [subT, Int.natCast_add, Int.cast_ofNat_Int, go_sem] <;> (repeat' apply And.intro) <;> first | rfl | (congr 1; omega) | assumption) (.inr (.inl ⟨vars, most, hv, hm, cls, now, q, qs, qn, hD, hb, hcl2, hn2, hr⟩))
        · have h3' := h3
          obtain ⟨vars3, q3, left3, qn3, bg3, code3, place3, hb3, hcne3, _, _⟩ := h3'
          unfold boxR at hb3
          have dc3 : decide (code3 = 0) = false := decide_eq_false hcne3
          by_cases hq : i < ws.length
          · have dq : decide ((i : Int) < (ws.length : Int)) = true := decide_eq_true (by omega)
            simp (disch := omega) only [hwn, dq, hb3, dc3, go_sem]
            exact next _ _ (by simp (disch := omega) only [subT, Int.natCast_add, Int.cast_ofNat_Int, go_sem] <;> (repeat' apply And.intro) <;> first | rfl | (congr 1; omega) | assumption) (.inr (.inr h3))
          · have dq : decide ((i : Int) < (ws.length : Int)) = false := decide_eq_false (by omega)
            simp (disch := omega) only [hwn, dq, go_sem]
            exact next _ _ (by simp (disch := omega) only [subT, Int.natCast_add, Int.cast_ofNat_Int, go_sem] <;> (repeat' apply And.intro) <;> first | rfl | (congr 1; omega) | assumption) (.inr (.inr h3))
    · obtain rfl : k = ls.length := by omega
      have dq : decide ((ls.length : Int) < (ls.length : Int)) = false := decide_eq_false (by omega)
      rw [List.drop_length] at hr
      simp only [linesP, List.flatMap_nil, litsP, dimEnd] at hr
      rw [if_neg (by simp)] at hr
      have hel : (els pre0 cls qs).length = cls.length := els_len hD.lla.rows.len
      by_cases hlt : (cls.length : Int) < most
      · have dl : decide (most - (cls.length : Int) > 0) = true := decide_eq_true (by omega)
        rw [if_pos (.inr hlt)] at hr
        have hbad : D = .bad 4 (t.length : Int) := hr.symm
        simp (disch := omega) only [hls, dq, hbb, dl, go_sem]
        refine SRun.callR (rFail_ok (c := 4) (p := (t.length : Int)) hb) ⟨[], rfl, rfl⟩ rfl ?_
        have hle := (hD.box (boxR vars q (most - (cls.length : Int)) qn true 4 (t.length : Int))).le
        have hb9 := upd_same s rb (boxR vars q (most - (cls.length : Int)) qn true 4 (t.length : Int))
        generalize upd s rb (boxR vars q (most - (cls.length : Int)) qn true 4 (t.length : Int)) = s at *
        unfold boxR at hb9
        have g2s := hle _ _ g2
        have hdel : del s b2 rb = some [.int .i64 vars, q, .int .i64 (most - (cls.length : Int)), qn, .bool true, .int .i64 4, .int .i64 (t.length : Int)] := by rw [del_ne _ nrb]; exact hb9
        simp (disch := omega) only [hb9, go_sem]
        refine W_drawW ?_
        refine DRun.mix1 g2s rfl ?_
        simp (disch := omega) only [hdel, go_sem]
        refine DS.wrQ (WrF.storeT rfl (upd_same _ _ _) rfl (by simp [ev, look, V.cells, V.one]) (Nat.le_refl _)) rfl ?_
        rintro _ s4 ⟨_, rfl⟩ hdj
        simp (disch := omega) only [go_sem]
        refine ⟨_, rfl, ?_⟩
        have gz := upd_same s b2 [.int .i64 0, .isl true 0 []]
        exact W_retC c13_ok (resV_C3 rfl gz rfl) (Conv.refl _ _) ⟨out _ _ hle, .isl true 0 [], [], by rw [hbad]; rfl, by rw [hbad]; exact LLA.nil⟩
      have dl : decide (most - (cls.length : Int) > 0) = false := decide_eq_false (by omega)
      by_cases hnow : now = []
      case' neg =>
        have dn : decide ((now.length : Int) > 0) = true := decide_eq_true (by have := List.length_pos_iff.2 hnow; omega)
        rw [if_pos (.inl hnow)] at hr
        have hbad : D = .bad 4 (t.length : Int) := hr.symm
        simp (disch := omega) only [hls, dq, hbb, dl, stepW_len_at hD.now, dn, go_sem]
        refine SRun.callR (rFail_ok (c := 4) (p := (t.length : Int)) hb) ⟨[], rfl, rfl⟩ rfl ?_
        have hle := (hD.box (boxR vars q (most - (cls.length : Int)) qn true 4 (t.length : Int))).le
        have hb9 := upd_same s rb (boxR vars q (most - (cls.length : Int)) qn true 4 (t.length : Int))
        generalize upd s rb (boxR vars q (most - (cls.length : Int)) qn true 4 (t.length : Int)) = s at *
        unfold boxR at hb9
        have g2s := hle _ _ g2
        have hdel : del s b2 rb = some [.int .i64 vars, q, .int .i64 (most - (cls.length : Int)), qn, .bool true, .int .i64 4, .int .i64 (t.length : Int)] := by rw [del_ne _ nrb]; exact hb9
        simp (disch := omega) only [hb9, go_sem]
        refine W_drawW ?_
        refine DRun.mix1 g2s rfl ?_
        simp (disch := omega) only [hdel, go_sem]
        refine DS.wrQ (WrF.storeT rfl (upd_same _ _ _) rfl (by simp [ev, look, V.cells, V.one]) (Nat.le_refl _)) rfl ?_
        rintro _ s4 ⟨_, rfl⟩ hdj
        simp (disch := omega) only [go_sem]
        refine ⟨_, rfl, ?_⟩
        have gz := upd_same s b2 [.int .i64 0, .isl true 0 []]
        exact W_retC c13_ok (resV_C3 rfl gz rfl) (Conv.refl _ _) ⟨out _ _ hle, .isl true 0 [], [], by rw [hbad]; rfl, by rw [hbad]; exact LLA.nil⟩
      have dn : decide ((now.length : Int) > 0) = false := by rw [hnow]; rfl
      rw [if_neg (by rintro (h | h); exact h hnow; exact hlt h)] at hr
      have hle := hD.le
      have g2s := hle _ _ g2
      have qb : blk q ≠ some b2 := fun e => by rw [hD.lla.new _ e] at g2; cases g2
      have hA : LLA σ 1 1 pre0 ints cls q qs (upd s b2 [.int .i64 vars, q]) := (hD.lla.to (fun b hb => upd_ne _ _ (fun e => qb (by rw [hb, e]))) (fun m hm b hb => upd_ne _ _ (fun e => by subst e; rw [hD.lla.rows.new m hm _ hb] at g2; cases g2))).less (none_of hle0)
      have ho2 : (∀ c, c ∈ [V.int .i64 vars, q] → c.one = true) = True := eq_true (by intro c hc; rcases List.mem_cons.1 hc with h | h; rw [h]; rfl; rw [List.mem_singleton.1 h]; exact hD.lla.at_.one)
      have hset : sets [V.int .i64 0, .isl true 0 []] 0 [V.int .i64 vars, q] = [V.int .i64 vars, q] := rfl
      have hl2 : [V.int .i64 vars, q].length = 2 := rfl
      simp (disch := omega) only [hls, dq, hbb, dl, stepW_len_at hD.now, dn, g2s, ho2, hset, hl2, go_sem]
      have gz := upd_same s b2 [.int .i64 vars, q]
      exact W_retC c13_ok (resV_C3 rfl gz rfl) (Conv.refl _ _) ⟨out _ _ hle, q, qs, by rw [← hr]; rfl, by rw [← hr]; exact hA⟩
  · obtain ⟨vars, q, left, qn, bg, code, place, hbb, hcne, hbad, hle⟩ := h3
    unfold boxR at hbb
    have g2s := hle _ _ g2
    have hdel : del s b2 rb = some [.int .i64 vars, q, .int .i64 left, qn, .bool bg, .int .i64 code, .int .i64 place] := by rw [del_ne _ nrb]; exact hbb
    have dc : decide (code = 0) = false := decide_eq_false hcne
    have dc2 : (decide ¬ code = 0) = true := decide_eq_true hcne
    by_cases hq : k < ls.length
    · have dq : decide ((k : Int) < (ls.length : Int)) = true := decide_eq_true (by omega)
      simp (disch := omega) only [hls, dq, hbb, dc, dc2, go_sem]
      refine W_drawW ?_
      refine DRun.mix1 g2s rfl ?_
      simp (disch := omega) only [hdel, go_sem]
      refine DS.wrQ (WrF.storeT rfl (upd_same _ _ _) rfl (by simp [ev, look, V.cells, V.one]) (Nat.le_refl _)) rfl ?_
      rintro _ s4 ⟨_, rfl⟩ hdj
      simp (disch := omega) only [go_sem]
      refine ⟨_, rfl, ?_⟩
      have gz := upd_same s b2 [.int .i64 0, .isl true 0 []]
      exact W_retC c13_ok (resV_C3 rfl gz rfl) (Conv.refl _ _) ⟨out _ _ hle, .isl true 0 [], [], by rw [hbad]; rfl, by rw [hbad]; exact LLA.nil⟩
    · have dq : decide ((k : Int) < (ls.length : Int)) = false := decide_eq_false (by omega)
      simp (disch := omega) only [hls, dq, hbb, dc, dc2, go_sem]
      refine W_drawW ?_
      refine DRun.mix1 g2s rfl ?_
      simp (disch := omega) only [hdel, go_sem]
      refine DS.wrQ (WrF.storeT rfl (upd_same _ _ _) rfl (by simp [ev, look, V.cells, V.one]) (Nat.le_refl _)) rfl ?_
      rintro _ s4 ⟨_, rfl⟩ hdj
      simp (disch := omega) only [go_sem]
      refine ⟨_, rfl, ?_⟩
      have gz := upd_same s b2 [.int .i64 0, .isl true 0 []]
      exact W_retC c13_ok (resV_C3 rfl gz rfl) (Conv.refl _ _) ⟨out _ _ hle, .isl true 0 [], [], by rw [hbad]; rfl, by rw [hbad]; exact LLA.nil⟩
end Go.Proofs.YtlojopaebdnacaaDoor.Lg
