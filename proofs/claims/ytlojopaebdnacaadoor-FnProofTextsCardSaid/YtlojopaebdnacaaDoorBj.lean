/- Proofs read, by the program and by the reference: the steps are new. -/
import Derived.Test.YtlojopaebdnacaaDoorBi
set_option linter.unusedSimpArgs false
set_option linter.unusedVariables false
namespace Go.Proofs.YtlojopaebdnacaaDoor.Lg
open Go Go.Lib
attribute [local irreducible] SRun DS DRun
variable {Γ : St} {σ σ0 : St}
def preS : Bool × List Int → List V := fun s => [.bool s.1]
def rowS : Bool × List Int → List V := fun s => ints s.2
theorem preS_ok : PreOK preS 2 := ⟨by omega, fun _ => rfl, fun a c hc => by simp only [preS, List.mem_singleton] at hc; subst hc; exact ⟨rfl, .bool _⟩⟩
theorem wordsGo_word {bl : UInt8 → Bool} : ∀ (l : List UInt8) (i : Nat) (cur : List UInt8), ∀ w ∈ wordsGo bl l i cur, w.1.length ≤ cur.length + l.length := by
  intro l
  induction l with
  | nil =>
    intro i cur w hw
    simp only [wordsGo, flushW] at hw
    split at hw
    · cases hw
    · rw [List.mem_singleton.1 hw]; simp
  | cons c r ih =>
    intro i cur w hw
    simp only [wordsGo] at hw
    split at hw
    · rcases List.mem_append.1 hw with h | h
      · simp only [flushW] at h
        split at h
        · cases h
        · rw [List.mem_singleton.1 h]; simp
      · have := ih _ _ w h; simp at this ⊢; omega
    · have := ih _ _ w hw; simp at this ⊢; omega
theorem wordsP_ok {bl : UInt8 → Bool} {l : List UInt8} {i : Nat} (h : l.length ≤ 100000000) : WdsOK (wordsP bl l i) := by
  refine ⟨?_, fun w hw => ?_⟩
  · have := wordsGo_len (bl := bl) l i []; unfold wordsP; omega
  · have := wordsGo_word (bl := bl) l i [] w hw; simp at this; omega
theorem saysF_pos {ws : List Wd} (h : saysF ws = true) : 0 < ws.length := by
  cases ws with
  | nil => cases h
  | cons w r => simp
theorem linesP_in {n : Nat} : ∀ (ls : List (List UInt8)) (i : Nat), (∀ l ∈ ls, l.length ≤ 100000000) → ∀ l ∈ linesP i ls, 0 < l.1.length ∧ WdsOK l.1 := by
  intro ls
  induction ls with
  | nil => intro i _ l h; cases h
  | cons x r ih =>
    intro i hb l h
    simp only [linesP] at h
    split at h
    · rename_i hs
      rcases List.mem_cons.1 h with h | h
      · subst h; exact ⟨saysF_pos hs, wordsP_ok (hb x (by simp))⟩
      · exact ih _ (fun y hy => hb y (by simp [hy])) l h
    · exact ih _ (fun y hy => hb y (by simp [hy])) l h
theorem cut_mem {b : UInt8} {t l : List UInt8} (h : l ∈ cutP b t) : l.length ≤ t.length := by
  obtain ⟨k, hk, rfl⟩ := List.getElem_of_mem h
  have := atP_in (b := b) (t := t) hk
  have e : (cutP b t).getD k [] = (cutP b t)[k] := by simp [List.getD, hk]
  rw [e] at this; omega
theorem dropLn {ls : List (List Wd × Nat)} {k : Nat} (h : k < ls.length) : ls.drop k = ls.getD k ([], 0) :: ls.drop (k + 1) := drop_cons _ h
section
variable {P : Program} {f : FuncId} {n : Nat} {Q : V → St → Prop} {k : List It} {T : Ts} {g : GI} {l : List GI}
theorem stepW_iaddr_lns {ex : Bool} {ls : List (List Wd × Nat)} {kk : IntKind} {m : Int} (h0 : 0 ≤ m) (h1 : m < ls.length) : stepW P Γ f n Q (.iaddr 2 (.c (.isl ex 2 (linesV ls))) (.c (.int kk m))) g l k T σ = W P Γ f n Q (.ops l :: k) (putT T g.d (.iptr [.isl false 2 (wdsV (ls.getD m.toNat ([], 0)).1), .int .i64 ((ls.getD m.toNat ([], 0)).2 : Int)])) σ := by
  have hm : m.toNat < ls.length := by omega
  rw [stepW_iaddr_at h0 (by rw [linesV_len]; exact h1)]
  have : (linesV ls).getD m.toNat .undef = lineV (ls.getD m.toNat ([], 0)) := by simp [linesV, List.getD, hm]
  rw [this]; rfl
end
attribute [go_sem] stepW_iaddr_lns
theorem resV_T3 {T : Ts} {a b c : Nat} : resV [.t a, .t b, .t c] T σ = some (.tup [look T a, look T b, look T c]) := rfl
set_option maxHeartbeats 4000000 in
theorem ReadProof_own (hg : NumG Γ) {t : List UInt8} (hl : t.length ≤ 10000000) :
    ACalls Tryd.prog Γ 20 [.str t] σ fun r s => (∀ b c, σ b = some c → s b = some c) ∧ ∃ q qs, r = .tup [q, .int .i64 (proofP t).2.1, .int .i64 (proofP t).2.2] ∧ LLA σ 2 1 preS rowS (proofP t).1 q qs s := by
  have hlen2 : ∀ x y : V, [x, y].take 2 = [x, y] := fun _ _ => rfl
  generalize hR : proofP t = R
  unfold proofP at hR
  refine acalls_W c20_ok rfl ?_
  simp (disch := omega) only [c20, go_sem]
  first | refine iteW_dec (fun h0 => ?_) (fun h0 => ?_) | refine iteW_of (fun h0 => ?_) (fun h0 => ?_)
  · rw [if_pos (by omega)] at hR
    subst hR
    simp (disch := omega) only [go_sem]
    exact W_retR c20_ok rfl ⟨fun _ _ h => h, _, _, rfl, LLA.nil⟩
  rw [if_neg (by omega)] at hR
  simp (disch := omega) only [go_sem]
  refine SRun.callR (formulaLines_ok hg (by omega)) ⟨[], rfl, rfl⟩ rfl ?_
  have hin := linesP_in (n := 0) (cutP 10 t) 0 (fun l h => by have := cut_mem h; omega)
  have hLl : (linesP 0 (cutP 10 t)).length ≤ t.length + 1 := Nat.le_trans (linesP_len _ _) (cutGo_len _ _ _)
  generalize linesP 0 (cutP 10 t) = L at *
  have hLn := linesV_len L
  simp (disch := omega) only [go_sem]
  refine W_loopC (α := Nat × List (Bool × List Int) × V × List V × St) (fun a => a.1 ≤ L.length ∧ proofGo (L.drop a.1) a.2.1 = R ∧ a.2.1.length ≤ 200 ∧ LLA σ 2 1 preS rowS a.2.1 a.2.2.1 a.2.2.2.1 a.2.2.2.2 ∧ (∀ b c, σ b = some c → a.2.2.2.2 b = some c)) (fun a => [(0, .str t), (5, a.2.2.1), (15, .isl false 2 (linesV L)), (16, .int .i64 L.length), (17, .int .i64 (a.1 : Nat))]) (fun a => a.2.2.2.2) (fun a => L.length - a.1) (0, [], .isl true 0 [], [], σ) ⟨by simp, by simpa using hR, by simp, LLA.nil, fun _ _ h => h⟩ (by simp (disch := omega) only [subT, Int.natCast_add, Int.cast_ofNat_Int, hLn, go_sem] <;> (repeat' apply And.intro) <;> first | rfl | (congr 1; omega) | assumption) rfl ?_
  rintro ⟨k, acc, q, qs, s⟩ ⟨hk, hr, hacc, hA, hle⟩ ih
  dsimp only at hk hr hacc hA hle
  have hel : (els preS acc qs).length = acc.length := els_len hA.rows.len
  simp (disch := omega) only [go_sem]
  first | refine iteW_dec (fun h1 => ?_) (fun h1 => ?_) | refine iteW_of (fun h1 => ?_) (fun h1 => ?_)
  · have hk' : k < L.length := by omega
    rw [dropLn hk'] at hr
    obtain ⟨hlp, hlw⟩ := hin _ (getD_mem ([], 0) hk')
    simp (disch := omega) only [go_sem]
    generalize L.getD k ([], 0) = ln at *
    obtain ⟨ws, e⟩ := ln
    dsimp only at hlp hlw
    refine SRun.allocR ?_
    intro b7 hb7
    simp (disch := omega) only [upd_same, upd_upd, hlen2, go_sem]
    have g7 := upd_same s b7 [V.isl false 2 (wdsV ws), V.int IntKind.i64 (e : Int)]
    have hle7 := le_upd (cs := [V.isl false 2 (wdsV ws), V.int IntKind.i64 (e : Int)]) hb7
    have hA := hA.mono hle7
    have hle : ∀ b c, σ b = some c → upd s b7 [V.isl false 2 (wdsV ws), V.int IntKind.i64 (e : Int)] b = some c := fun b c h => hle7 _ _ (hle b c h)
    generalize upd s b7 [V.isl false 2 (wdsV ws), V.int IntKind.i64 (e : Int)] = s at *
    have hAS := hA
    have hleS := hle
    refine SRun.callQ (readStep_own hg (e := e) hlp hlw) ⟨[], rfl, rfl⟩ rfl ?_
    rintro r s8 ⟨hle8, hres⟩
    simp only [proofGo] at hr
    have hst : stepGo (restW ws) [] (e : Int) = stepR ws e := rfl
    rw [hst] at hr
    have g7 := hle8 _ _ g7
    have hA := hA.mono hle8
    have hle : ∀ b c, σ b = some c → s8 b = some c := fun b c h => hle8 _ _ (hle b c h)
    rcases hres with ⟨hc, rfl⟩ | ⟨hc, hcl, q', rfl, ha, hn⟩
    · rw [if_pos hc] at hr
      simp (disch := omega) only [go_sem]
      refine SRun.allocR ?_
      intro b8 hb8
      have hle9 : ∀ b c, σ b = some c → upd s8 b8 [V.bool false, V.isl true 0 []] b = some c := fun b c h => le_upd hb8 _ _ (hle b c h)
      have d1 : decide ((stepR ws e).2.1 = 0) = false := decide_eq_false hc
      have d2 : (decide ¬ (stepR ws e).2.1 = 0) = true := decide_eq_true hc
      simp (disch := omega) only [upd_same, upd_upd, hlen2, d1, d2, go_sem]
      refine W_retR c20_ok rfl ⟨hle9, .isl true 0 [], [], by rw [← hr]; rfl, by rw [← hr]; exact LLA.nil⟩
    · have hc' : ¬ (stepR ws e).2.1 ≠ 0 := fun h => h hc
      rw [if_neg hc'] at hr
      simp (disch := omega) only [go_sem]
      refine SRun.allocR ?_
      intro b8 hb8
      have n87 : b8 ≠ b7 := fun e => by subst e; rw [g7] at hb8; cases hb8
      have ho1 : ∀ c, c ∈ [V.bool (delW ws), q'] → c.one = true := by intro c hc; simp only [List.mem_cons, List.not_mem_nil, or_false] at hc; rcases hc with rfl | rfl; rfl; exact ha.one
      have ho2 : (∀ c, c ∈ [V.bool (delW ws), q'] → c.one = true) = True := eq_true ho1
      have hl2 : [V.bool (delW ws), q'].length = 2 := rfl
      have hset : sets [V.bool false, V.isl true 0 []] 0 [V.bool (delW ws), q'] = [V.bool (delW ws), q'] := rfl
      have dd1 : decide ((0 : Int) = 0) = true := rfl
      have dd2 : (decide ¬ ((0 : Int) = 0)) = false := rfl
      have g8 := upd_same s8 b8 [V.bool (delW ws), q']
      have hle9 := le_upd (cs := [V.bool (delW ws), q']) hb8
      have g7 := hle9 _ _ g7
      have hA2 := hA.mono hle9
      have ha2 := ha.mono hle9
      have hle : ∀ b c, σ b = some c → upd s8 b8 [V.bool (delW ws), q'] b = some c := fun b c h => hle9 _ _ (hle b c h)
      simp (disch := omega) only [upd_same, upd_upd, hlen2, hl2, ho2, hset, go_sem]
      generalize upd s8 b8 [V.bool (delW ws), q'] = s9 at *
      by_cases h200 : acc.length = 200
      · have d3 : decide (((els preS acc qs).length : Int) = 200) = true := decide_eq_true (by rw [hel]; omega)
        rw [if_pos h200] at hr
        simp (disch := omega) only [dd1, stepW_len_at hA2.at_, d3, go_sem]
        refine W_drawW ?_
        simp (disch := omega) only [g7, go_sem]
        refine W_retR c20_ok rfl ⟨hle, .isl true 0 [], [], by rw [← hr]; rfl, by rw [← hr]; exact LLA.nil⟩
      · have d3 : decide (((els preS acc qs).length : Int) = 200) = false := decide_eq_false (by rw [hel]; omega)
        rw [if_neg h200] at hr
        simp (disch := omega) only [dd1, stepW_len_at hA2.at_, d3, dd2, g8, hlen2, go_sem]
        have hy2 : ∀ y ∈ [elV [V.bool (delW ws)] q'], y.cells.length = 2 ∧ ∀ c ∈ y.cells, c.one = true := by
          intro y hy
          rw [List.mem_singleton.1 hy, elV_cells ha.cells]
          exact ⟨rfl, fun c hc => ho1 c hc⟩
        have hfit : ((els preS acc qs).length + [elV [V.bool (delW ws)] q'].length) * 32 ≤ 140737488355328 := by rw [hel]; simp only [List.length_singleton]; omega
        refine ⟨ha.one, ?_⟩
        refine SRun.appAt (ys := [elV [V.bool (delW ws)] q']) hA2.at_ (by exact src_isl) rfl hy2 (by exact hfit) ?_
        intro q2 s2 hP
        simp (disch := omega) only [go_sem]
        have hPq := hP.blk_
        have hnew := hA2.push preS_ok (a := (delW ws, (stepR ws e).1)) (m := q') (q' := q2) (t := s2) hle ha2 (fun b hb => none_of hleS b (hn b hb)) (fun b hb e2 => by have := hAS.at_.has e2; rw [hn b hb] at this; cases this) (fun m' hm' b hb e2 => by
          obtain ⟨a', ha'⟩ := hAS.rows.has hm'
          have := ha'.has hb
          rw [hn b e2] at this; cases this) hP.at_ hP.blk_ hP.keep
        refine ih (k + 1, acc ++ [(delW ws, (stepR ws e).1)], q2, qs ++ [q'], s2) _ _ ⟨by simp only; omega, hr, by simp only [List.length_append, List.length_singleton]; omega, hnew, ?_⟩ (by simp only; omega) (by simp (disch := omega) only [subT, Int.natCast_add, Int.cast_ofNat_Int, go_sem] <;> (repeat' apply And.intro) <;> first | rfl | (congr 1; omega) | assumption) rfl
        intro b c h
        exact hP.get (hle b c h) (fun e2 => by rw [hA2.new b e2] at h; cases h)
  · obtain rfl : k = L.length := by omega
    rw [List.drop_length] at hr
    simp only [proofGo] at hr
    subst hr
    simp (disch := omega) only [go_sem]
    exact W_retR c20_ok rfl ⟨hle, q, qs, rfl, hA⟩
end Go.Proofs.YtlojopaebdnacaaDoor.Lg
