/- Steps of proofs read by the program. -/
import Derived.Test.YtlojopaebdnacaaDoorBg
import Derived.Test.YtlojopaebdnacaaDoorHo
set_option linter.unusedSimpArgs false
set_option linter.unusedVariables false
namespace Go.Proofs.YtlojopaebdnacaaDoor.Lg
open Go Go.Lib
attribute [local irreducible] SRun DS DRun
variable {Γ : St} {σ σ0 : St}
theorem AppAt.get {es : Nat} {xs : List V} {q q' : V} {s' : St} (h : AppAt σ es xs q q' s') {d : Nat} {c : List V} (hd : σ d = some c) (hq : blk q ≠ some d) : s' d = some c := by
  rw [h.keep d hq (fun e => (h.blk_ d e).elim hq (fun e2 => by rw [hd] at e2; cases e2))]; exact hd
theorem AppAt.dom {es : Nat} {xs : List V} {q q' : V} {s' : St} (h : AppAt σ es xs q q' s') {B0 : St} (hB : ∀ b, σ b = none → B0 b = none) (hq : ∀ b, blk q = some b → B0 b = none) : ∀ b, s' b = none → B0 b = none := fun b hb => by
  by_cases e : blk q = some b
  · exact hq b e
  · by_cases e2 : blk q' = some b
    · exact (h.blk_ b e2).elim (hq b) (hB b)
    · rw [h.keep b e e2] at hb; exact hB b hb
theorem AppAt.new {es : Nat} {xs : List V} {q q' : V} {s' : St} (h : AppAt σ es xs q q' s') {B0 : St} (hB : ∀ b, σ b = none → B0 b = none) (hq : ∀ b, blk q = some b → B0 b = none) : ∀ b, blk q' = some b → B0 b = none := fun b hb => (h.blk_ b hb).elim (hq b) (hB b)
theorem WrF.storeT {P : Program} {T : Ts} {d : Option Nat} {n : Nat} {ad y : Opd} {b off : Nat} {cs : List V} (ha : ev Γ T ad = .ptr b off) (hb : σ b = some cs) (hn : (ev Γ T y).cells.length = n) (h1 : ∀ c ∈ (ev Γ T y).cells, c.one = true) (h4 : off + n ≤ cs.length) :
    WrF P Γ σ T ⟨d, none, .store n ad y⟩ fun r s => r = .undef ∧ s = upd σ b (sets cs off (ev Γ T y).cells) :=
  WrF.of fun T' hT => by
    have e1 := hT ad (by simp [I.opds])
    have e2 := hT y (by simp [I.opds])
    exact InsOK.store (by rw [e1]; exact ha) hb (by rw [e2]; exact hn) (by rw [e2]; exact h1) h4 ⟨rfl, by rw [e2]⟩
theorem resV_C3 {T : Ts} {a nn b p q : Nat} {cs : List V} (h : look T a = .ptr b 0) (hb : σ b = some cs) (hl : nn = cs.length) : resV [.cell a true nn, .t p, .t q] T σ = some (.tup [.agg cs, look T p, look T q]) := by
  simp [resV, resV1, h, hb, hl]
def litOK40 (vars x : Int) : Bool := decide (x ≠ 0) && (decide (-vars ≤ x) && decide (x ≤ vars))
theorem within_okT (a b c : Int) : Ret Tryd.prog Γ 58 [.int .i64 a, .int .i64 b, .int .i64 c] σ (.bool (decide (b ≤ a) && decide (a ≤ c))) σ := by
  refine ret_of c58_ok rfl ?_
  simp (disch := omega) only [c58, go_sem]
  first | refine guardW_dec (fun h => ?_) (fun h => ?_) | refine guardW_by (fun h => ?_) (fun h => ?_)
  · have hd : decide (b ≤ a) = true := decide_eq_true (by omega)
    simp (disch := omega) only [go_sem]
    exact W_retR c58_ok rfl ⟨by simp only [look, ev, V.bool.injEq, V.int.injEq, V.str.injEq, V.tup.injEq, V.agg.injEq, V.isl.injEq, List.cons.injEq, true_and, and_true, Nat.reduceEqDiff, Nat.reduceAdd, Nat.reduceSub, Nat.reduceMul, Nat.reducePow, Nat.reduceDiv, Nat.reduceMod, Int.reduceToNat, Nat.reduceLeDiff, Nat.reduceLT, Int.reduceEq, Int.reduceLT, Int.reduceLE, Int.reduceGT, Int.reduceGE, Int.reduceNeg, Int.reduceSub, Int.reduceAdd, Int.reduceMul, Int.reducePow, ne_eq, reduceCtorEq, ↓reduceIte]; simp [hd], rfl⟩
  · have hd : decide (b ≤ a) = false := decide_eq_false (by omega)
    simp (disch := omega) only [go_sem]
    exact W_retR c58_ok rfl ⟨by simp only [look, ev, V.bool.injEq, V.int.injEq, V.str.injEq, V.tup.injEq, V.agg.injEq, V.isl.injEq, List.cons.injEq, true_and, and_true, Nat.reduceEqDiff, Nat.reduceAdd, Nat.reduceSub, Nat.reduceMul, Nat.reducePow, Nat.reduceDiv, Nat.reduceMod, Int.reduceToNat, Nat.reduceLeDiff, Nat.reduceLT, Int.reduceEq, Int.reduceLT, Int.reduceLE, Int.reduceGT, Int.reduceGE, Int.reduceNeg, Int.reduceSub, Int.reduceAdd, Int.reduceMul, Int.reducePow, ne_eq, reduceCtorEq, ↓reduceIte]; simp [hd], rfl⟩
theorem l01In_okT (a b c : Int) : Ret Tryd.prog Γ 64 [.int .i64 a, .int .i64 b, .int .i64 c] σ (.bool (decide (b ≤ a) && decide (a ≤ c))) σ := by
  refine ret_of c64_ok rfl ?_
  simp (disch := omega) only [c64, go_sem]
  first | refine guardW_dec (fun h => ?_) (fun h => ?_) | refine guardW_by (fun h => ?_) (fun h => ?_)
  · have hd : decide (b ≤ a) = true := decide_eq_true (by omega)
    simp (disch := omega) only [go_sem]
    exact W_retR c64_ok rfl ⟨by simp only [look, ev, V.bool.injEq, V.int.injEq, V.str.injEq, V.tup.injEq, V.agg.injEq, V.isl.injEq, List.cons.injEq, true_and, and_true, Nat.reduceEqDiff, Nat.reduceAdd, Nat.reduceSub, Nat.reduceMul, Nat.reducePow, Nat.reduceDiv, Nat.reduceMod, Int.reduceToNat, Nat.reduceLeDiff, Nat.reduceLT, Int.reduceEq, Int.reduceLT, Int.reduceLE, Int.reduceGT, Int.reduceGE, Int.reduceNeg, Int.reduceSub, Int.reduceAdd, Int.reduceMul, Int.reducePow, ne_eq, reduceCtorEq, ↓reduceIte]; simp [hd], rfl⟩
  · have hd : decide (b ≤ a) = false := decide_eq_false (by omega)
    simp (disch := omega) only [go_sem]
    exact W_retR c64_ok rfl ⟨by simp only [look, ev, V.bool.injEq, V.int.injEq, V.str.injEq, V.tup.injEq, V.agg.injEq, V.isl.injEq, List.cons.injEq, true_and, and_true, Nat.reduceEqDiff, Nat.reduceAdd, Nat.reduceSub, Nat.reduceMul, Nat.reducePow, Nat.reduceDiv, Nat.reduceMod, Int.reduceToNat, Nat.reduceLeDiff, Nat.reduceLT, Int.reduceEq, Int.reduceLT, Int.reduceLE, Int.reduceGT, Int.reduceGE, Int.reduceNeg, Int.reduceSub, Int.reduceAdd, Int.reduceMul, Int.reducePow, ne_eq, reduceCtorEq, ↓reduceIte]; simp [hd], rfl⟩
theorem isLiteral_okT (x vars : Int) (hv : 0 ≤ vars ∧ vars ≤ 1000000) : Ret Tryd.prog Γ 78 [.int .i64 x, .int .i64 vars] σ (.bool (litOK40 vars x)) σ := by
  refine ret_of c78_ok rfl ?_
  simp (disch := omega) only [c78, go_sem]
  by_cases h : x = 0
  · have hd : (decide ¬ x = 0) = false := decide_eq_false (fun g => g h)
    simp (disch := omega) only [hd, go_sem]
    exact W_retR c78_ok rfl ⟨by simp only [look, ev, V.bool.injEq, V.int.injEq, V.str.injEq, V.tup.injEq, V.agg.injEq, V.isl.injEq, List.cons.injEq, true_and, and_true, Nat.reduceEqDiff, Nat.reduceAdd, Nat.reduceSub, Nat.reduceMul, Nat.reducePow, Nat.reduceDiv, Nat.reduceMod, Int.reduceToNat, Nat.reduceLeDiff, Nat.reduceLT, Int.reduceEq, Int.reduceLT, Int.reduceLE, Int.reduceGT, Int.reduceGE, Int.reduceNeg, Int.reduceSub, Int.reduceAdd, Int.reduceMul, Int.reducePow, ne_eq, reduceCtorEq, ↓reduceIte]; simp [litOK40, h], rfl⟩
  · have hd : (decide ¬ x = 0) = true := decide_eq_true h
    have hn : (0 : Int) - vars = -vars := by omega
    simp (disch := omega) only [hd, hn, go_sem]
    refine SRun.callR (within_okT x (-vars) vars) ⟨[], rfl, rfl⟩ rfl ?_
    simp (disch := omega) only [go_sem]
    exact W_retR c78_ok rfl ⟨by simp only [look, ev, V.bool.injEq, V.int.injEq, V.str.injEq, V.tup.injEq, V.agg.injEq, V.isl.injEq, List.cons.injEq, true_and, and_true, Nat.reduceEqDiff, Nat.reduceAdd, Nat.reduceSub, Nat.reduceMul, Nat.reducePow, Nat.reduceDiv, Nat.reduceMod, Int.reduceToNat, Nat.reduceLeDiff, Nat.reduceLT, Int.reduceEq, Int.reduceLT, Int.reduceLE, Int.reduceGT, Int.reduceGE, Int.reduceNeg, Int.reduceSub, Int.reduceAdd, Int.reduceMul, Int.reducePow, ne_eq, reduceCtorEq, ↓reduceIte]; simp [litOK40, h], rfl⟩
theorem litOK40_iff {vars x : Int} : litOK40 vars x = true ↔ x ≠ 0 ∧ -vars ≤ x ∧ x ≤ vars := by simp [litOK40]
/-- Words that are not too long. -/
def WdsOK (ws : List Wd) : Prop := ws.length ≤ 1000000000 ∧ ∀ w ∈ ws, w.1.length ≤ 1000000000
theorem WdsOK.text {ws : List Wd} (h : WdsOK ws) (i : Nat) : (textW ws i).length ≤ 1000000000 := by
  unfold textW
  rcases Nat.lt_or_ge i ws.length with hi | hi
  · exact h.2 _ (getD_mem _ hi)
  · simp [List.getD, List.getElem?_eq_none hi]
theorem restW_len (ws : List Wd) : (restW ws).length ≤ ws.length := by unfold restW; split <;> simp
theorem restW_ok {ws : List Wd} (h : WdsOK ws) : WdsOK (restW ws) := by
  refine ⟨Nat.le_trans (restW_len ws) h.1, fun w hw => h.2 w ?_⟩
  unfold restW at hw
  split at hw
  · exact List.mem_of_mem_drop hw
  · exact hw
theorem dropW {ws : List Wd} {k : Nat} (h : k < ws.length) : ws.drop k = (textW ws k, (placeW ws k).toNat) :: ws.drop (k + 1) := by
  rw [drop_cons ([], 0) h]
  congr 1
theorem placeW_nat (ws : List Wd) (k : Nat) : (((placeW ws k).toNat : Nat) : Int) = placeW ws k := by simp [placeW]
/-- What a step's words say. -/
def stepR (ws : List Wd) (e : Int) : List Int × Int × Int := stepGo (restW ws) [] e
set_option maxHeartbeats 4000000 in
theorem readStep_own (hg : NumG Γ) {ws : List Wd} {e : Nat} (hne : 0 < ws.length) (hw : WdsOK ws) :
    ACalls Tryd.prog Γ 50 [.agg [.isl false 2 (wdsV ws), .int .i64 (e : Int)]] σ fun r s => (∀ b c, σ b = some c → s b = some c) ∧ (((stepR ws e).2.1 ≠ 0 ∧ r = .tup [.agg [.bool false, .isl true 0 []], .int .i64 (stepR ws e).2.1, .int .i64 (stepR ws e).2.2]) ∨
      ((stepR ws e).2.1 = 0 ∧ (stepR ws e).1.length ≤ 12 ∧ ∃ q, r = .tup [.agg [.bool (delW ws), q], .int .i64 0, .int .i64 0] ∧ At s 1 (ints (stepR ws e).1) q ∧ ∀ b, blk q = some b → σ b = none)) := by
  have hR := restW_ok hw
  have hRl := restW_len ws
  have hRe : restW ws = if delW ws then ws.drop 1 else ws := rfl
  have hlen2 : ∀ x y : V, [x, y].take 2 = [x, y] := fun _ _ => rfl
  unfold stepR
  refine acalls_W c50_ok rfl ?_
  simp (disch := omega) only [c50, go_sem]
  refine SRun.boxR (by simp [ev, look, V.cells, V.one]) ?_
  intro b1 hb1
  simp (disch := omega) only [go_sem]
  refine SRun.allocR ?_
  intro b2 hb2
  simp (disch := omega) only [go_sem]
  refine SRun.allocR ?_
  intro b5 hb5
  have k1 : ∀ c, upd (upd (upd σ b1 [.isl false 2 (wdsV ws), .int .i64 (e : Int)]) b2 [.bool false, .isl true 0 []]) b5 c b1 = some [.isl false 2 (wdsV ws), .int .i64 (e : Int)] := fun c => le_upd hb5 _ _ (le_upd hb2 _ _ (upd_same _ _ _))
  have k2 : ∀ c, upd (upd (upd σ b1 [.isl false 2 (wdsV ws), .int .i64 (e : Int)]) b2 [.bool false, .isl true 0 []]) b5 c b2 = some [.bool false, .isl true 0 []] := fun c => le_upd hb5 _ _ (upd_same _ _ _)
  have kσ : ∀ c d x, σ d = some x → upd (upd (upd σ b1 [.isl false 2 (wdsV ws), .int .i64 (e : Int)]) b2 [.bool false, .isl true 0 []]) b5 c d = some x := fun c d x h => le_upd hb5 _ _ (le_upd hb2 _ _ (le_upd hb1 _ _ h))
  have n51 : b5 ≠ b1 := fun e => by subst e; rw [le_upd hb2 _ _ (upd_same σ b5 _)] at hb5; cases hb5
  have n52 : b5 ≠ b2 := fun e => by subst e; rw [upd_same] at hb5; cases hb5
  have n5σ : σ b5 = none := by
    cases h : σ b5 with
    | none => rfl
    | some x => rw [le_upd hb2 _ _ (le_upd hb1 _ _ h)] at hb5; cases hb5
  generalize upd (upd σ b1 [.isl false 2 (wdsV ws), .int .i64 (e : Int)]) b2 [.bool false, .isl true 0 []] = s2 at *
  generalize hS : stepGo (restW ws) [] e = S at *
  generalize hRW : restW ws = R at *
  obtain ⟨d, hdd⟩ : ∃ d, d = delW ws := ⟨_, rfl⟩
  rw [← hdd]
  rw [← hdd] at hRe
  have hdel0 : (textW ws 0 == [100]) = d := by rw [hdd]; rfl
  have hRn := wdsV_len R
  simp (disch := omega) only [k1, hlen2, go_sem]
  by_cases hd : d = true
  case' neg =>
    have hdf : d = false := by simpa using hd
    have hdel : (textW ws 0 == [100]) = false := by rw [hdel0, hdf]
    have hr : R = ws := by rw [hRe, hdf]; rfl
    simp (disch := omega) only [hdel, go_sem]
    rw [← hr]
    have g5 : upd s2 b5 [.bool false, .isl true 0 []] b5 = some [.bool d, .isl true 0 []] := by rw [upd_same, hdf]
    have k1 := k1 [.bool false, .isl true 0 []]
    have k2 := k2 [.bool false, .isl true 0 []]
    have kσ := kσ [.bool false, .isl true 0 []]
    generalize upd s2 b5 [.bool false, .isl true 0 []] = s5 at *
  case' pos =>
    have hdel : (textW ws 0 == [100]) = true := by rw [hdel0, hd]
    have hr : R = ws.drop 1 := by rw [hRe, hd]; rfl
    have hwl : (wdsV ws).length = ws.length := wdsV_len ws
    have hsl : ((wdsV ws).drop 1).take (((ws.length : Int) - 1).toNat) = wdsV R := by
      rw [hr, List.take_of_length_le (by rw [List.length_drop, hwl]; omega)]; simp [wdsV, List.map_drop]
    simp (disch := omega) only [hdel, upd_same, upd_upd, hwl, hsl, go_sem]
    have g5 : upd s2 b5 [.bool true, .isl true 0 []] b5 = some [.bool d, .isl true 0 []] := by rw [upd_same, hd]
    have k1 := k1 [.bool true, .isl true 0 []]
    have k2 := k2 [.bool true, .isl true 0 []]
    have kσ := kσ [.bool true, .isl true 0 []]
    generalize upd s2 b5 [.bool true, .isl true 0 []] = s5 at *
  all_goals
    clear hr hdel hd hRe hdel0
    refine W_loopC (α := Nat × List Int × V × St) (fun a => a.1 ≤ R.length ∧ stepGo (R.drop a.1) a.2.1 e = S ∧ a.2.1.length ≤ 12 ∧ a.2.2.2 b5 = some [.bool d, a.2.2.1] ∧ a.2.2.2 b2 = some [.bool false, .isl true 0 []] ∧ a.2.2.2 b1 = some [.isl false 2 (wdsV ws), .int .i64 (e : Int)] ∧ At a.2.2.2 1 (ints a.2.1) a.2.2.1 ∧ (∀ b, blk a.2.2.1 = some b → s5 b = none) ∧ (∀ b, a.2.2.2 b = none → s5 b = none) ∧ (∀ b c, σ b = some c → a.2.2.2 b = some c)) (fun a => [(1, .ptr b1 0), (2, .ptr b2 0), (5, .ptr b5 0), (6, .isl false 2 (wdsV R)), (21, .isl false 2 (wdsV R)), (22, .int .i64 R.length), (23, .int .i64 (a.1 : Nat))]) (fun a => a.2.2.2) (fun a => R.length - a.1) (0, [], .isl true 0 [], s5) ⟨by simp, by simpa using hS, by simp, g5, k2, k1, ⟨fun x hx => (by cases hx), .inl ⟨rfl, 0, rfl⟩⟩, fun b hb => (by cases hb), fun b hb => hb, kσ⟩ (by simp (disch := omega) only [subT, Int.natCast_add, Int.cast_ofNat_Int, hRn, go_sem] <;> (repeat' apply And.intro) <;> first | rfl | (congr 1; omega) | assumption) rfl ?_
    have K1 := k1
    have hRb := hR.1
    have K2 := k2
    have K5 := g5
    have kσ' := kσ
    have n2σ : σ b2 = none := by
      cases h : σ b2 with
      | none => rfl
      | some x => rw [le_upd hb1 _ _ h] at hb2; cases hb2
    clear g5 k1 k2 kσ
    rintro ⟨i, c, q, s⟩ ⟨hi, hs, hc, g5, g2, g1, ha, hq, hdom, hle⟩ ih
    dsimp only at hi hs hc g5 g2 g1 ha hq hdom hle
    have hq0 : ∀ b c, s5 b = some c → blk q ≠ some b := fun b c h e => by rw [hq b e] at h; cases h
    have q1 := hq0 _ _ K1
    have q2 := hq0 _ _ K2
    have q5 := hq0 _ _ K5
    have n21 : b2 ≠ b1 := fun e => by subst e; rw [K1] at K2; cases K2
    have n25 : b2 ≠ b5 := n52.symm
    have qi : c.length ≤ 12 → (ints c).length + 1 ≤ 1000 := fun h => by rw [ints_len]; omega
    simp (disch := omega) only [go_sem]
    first | refine iteW_dec (fun h1 => ?_) (fun h1 => ?_) | refine iteW_of (fun h1 => ?_) (fun h1 => ?_)
    · have hi' : i < R.length := by omega
      rw [dropW hi'] at hs
      simp only [stepGo, placeW_nat] at hs
      simp (disch := omega) only [go_sem]
      refine SRun.allocR ?_
      intro b8 hb8
      simp (disch := omega) only [go_sem]
      have n82 : b8 ≠ b2 := fun e => by subst e; rw [g2] at hb8; cases hb8
      have n85 : b8 ≠ b5 := fun e => by subst e; rw [g5] at hb8; cases hb8
      have g8 := upd_same s b8 [V.str (textW R i), V.int IntKind.i64 (placeW R i)]
      have hle8 := le_upd (cs := [V.str (textW R i), V.int IntKind.i64 (placeW R i)]) hb8
      have g1 := hle8 _ _ g1
      have g2 := hle8 _ _ g2
      have g5 := hle8 _ _ g5
      have ha := ha.mono hle8
      have hle : ∀ b c, σ b = some c → upd s b8 [V.str (textW R i), V.int IntKind.i64 (placeW R i)] b = some c := fun b c h => hle8 _ _ (hle b c h)
      have hdom : ∀ b, upd s b8 [V.str (textW R i), V.int IntKind.i64 (placeW R i)] b = none → s5 b = none := fun b h => hdom b (none_of hle8 b h)
      generalize upd s b8 [V.str (textW R i), V.int IntKind.i64 (placeW R i)] = s at *
      have g8d : del s b2 b8 = some [V.str (textW R i), V.int IntKind.i64 (placeW R i)] := by rw [del_ne _ n82]; exact g8
      refine SRun.callQ (number_ok hg (by have := hR.text i; omega)) ⟨[], rfl, rfl⟩ rfl ?_
      rintro r s' ⟨hs', n, rfl, hn⟩
      obtain rfl := hs'.symm
      cases hP : numP (textW R i) with
      | none =>
        rw [hP] at hs
        simp only at hs
        have hb : (!(none : Option Int).isSome) = true := rfl
        simp (disch := omega) only [hb, go_sem]
        refine W_drawW ?_
        refine DRun.mix1 g2 rfl ?_
        simp (disch := omega) only [g8d, go_sem]
        refine DS.wrQ (WrF.storeT rfl (upd_same _ _ _) rfl (by simp [ev, look, V.cells, V.one]) (by simp)) rfl ?_
        rintro _ s4 ⟨_, rfl⟩ hdj
        simp (disch := omega) only [go_sem]
        refine ⟨_, rfl, ?_⟩
        have gz := upd_same s b2 [V.bool false, V.isl true 0 []]
        refine W_retC c50_ok (resV_C3 rfl gz rfl) (Conv.refl _ _) ⟨fun b c h => ?_, .inl ⟨by rw [← hs]; simp, by rw [← hs]; rfl⟩⟩
        rw [upd_self _ g2]; exact hle b c h
      | some x =>
        obtain rfl := hn x hP
        rw [hP] at hs
        simp only at hs
        have hb : (!(some n : Option Int).isSome) = false := rfl
        by_cases hx0 : n = 0
        · have d0 : decide (n = 0) = true := decide_eq_true hx0
          rw [if_pos hx0] at hs
          by_cases hmore : i + 1 < R.length
          · have d1 : decide ((i : Int) + 1 < R.length) = true := decide_eq_true (by omega)
            rw [dropW hmore] at hs
            simp only [placeW_nat] at hs
            have hin : ((i : Int) + 1).toNat = i + 1 := by omega
            simp (disch := omega) only [hb, d0, hRn, d1, go_sem]
            refine W_drawW ?_
            refine DRun.mix1 g2 rfl ?_
            simp (disch := omega) only [g8d, hin, go_sem]
            refine DS.wrQ (WrF.storeT rfl (upd_same _ _ _) rfl (by simp [ev, look, V.cells, V.one]) (by simp)) rfl ?_
            rintro _ s4 ⟨_, rfl⟩ hdj
            simp (disch := omega) only [go_sem]
            refine ⟨_, rfl, ?_⟩
            have gz := upd_same s b2 [V.bool false, V.isl true 0 []]
            refine W_retC c50_ok (resV_C3 rfl gz rfl) (Conv.refl _ _) ⟨fun b c h => ?_, .inl ⟨by rw [← hs]; simp, by rw [← hs]; rfl⟩⟩
            rw [upd_self _ g2]; exact hle b c h
          · have d1 : decide ((i : Int) + 1 < R.length) = false := decide_eq_false (by omega)
            have hnil : R.drop (i + 1) = [] := List.drop_eq_nil_of_le (by omega)
            rw [hnil] at hs
            simp only at hs
            have hset : sets [V.bool false, V.isl true 0 []] 0 [V.bool d, q] = [V.bool d, q] := rfl
            have hl2 : [V.bool d, q].length = 2 := rfl
            have ho2 : (∀ c, c ∈ [V.bool d, q] → c.one = true) = True := eq_true (by intro c hc; simp only [List.mem_cons, List.not_mem_nil, or_false] at hc; rcases hc with rfl | rfl; rfl; exact ha.one)
            simp (disch := omega) only [hb, d0, hRn, d1, g5, g2, hlen2, hl2, ho2, hset, go_sem]
            have gz := upd_same s b2 [V.bool d, q]
            refine W_retC c50_ok (resV_C3 rfl gz rfl) (Conv.refl _ _) ⟨fun b c h => ?_, .inr ⟨by rw [← hs], by rw [← hs]; exact hc, q, rfl, by rw [← hs]; exact ha.upd q2, fun b hb => none_of (t := s5) kσ' b (hq b hb)⟩⟩
            have : b ≠ b2 := fun e => by subst e; rw [n2σ] at h; cases h
            rw [upd_ne _ _ this]; exact hle b c h
        · have d0 : decide (n = 0) = false := decide_eq_false hx0
          rw [if_neg hx0] at hs
          simp (disch := omega) only [hb, d0, go_sem]
          refine SRun.callR (isLiteral_okT n 40 (by omega)) ⟨[], rfl, rfl⟩ rfl ?_
          by_cases hl : litOK40 40 n = true
          · have dl : (!litOK40 40 n) = false := by rw [hl]; rfl
            obtain ⟨_, l1, l2⟩ := litOK40_iff.1 hl
            rw [if_neg (by omega)] at hs
            by_cases h12 : c.length = 12
            · have d12 : decide (((ints c).length : Int) = 12) = true := decide_eq_true (by rw [ints_len]; omega)
              rw [if_pos h12] at hs
              simp (disch := omega) only [dl, g5, stepW_len_at ha, d12, go_sem]
              refine W_drawW ?_
              refine DRun.mix1 g2 rfl ?_
              simp (disch := omega) only [g8d, go_sem]
              refine DS.wrQ (WrF.storeT rfl (upd_same _ _ _) rfl (by simp [ev, look, V.cells, V.one]) (by simp)) rfl ?_
              rintro _ s4 ⟨_, rfl⟩ hdj
              simp (disch := omega) only [go_sem]
              refine ⟨_, rfl, ?_⟩
              have gz := upd_same s b2 [V.bool false, V.isl true 0 []]
              refine W_retC c50_ok (resV_C3 rfl gz rfl) (Conv.refl _ _) ⟨fun b c h => ?_, .inl ⟨by rw [← hs]; simp, by rw [← hs]; rfl⟩⟩
              rw [upd_self _ g2]; exact hle b c h
            · have d12 : decide (((ints c).length : Int) = 12) = false := decide_eq_false (by rw [ints_len]; omega)
              rw [if_neg h12] at hs
              simp (disch := omega) only [dl, g5, stepW_len_at ha, d12, go_sem]
              refine SRun.appAt (ys := ints [n]) ha rfl rfl (ints_ok _) (by have := qi hc; simp only [ints_len, List.length_singleton] at this ⊢; omega) ?_
              intro q' s' hA
              have hA' : AppAt s 1 (ints (c ++ [n])) q q' s' := by have := hA; rwa [show ints c ++ ints [n] = ints (c ++ [n]) by simp [ints]] at this
              have g5' := hA'.get g5 q5
              have hqn := hA'.new hdom hq
              have e5 : blk q' ≠ some b5 := fun e => by rw [hqn _ e] at K5; cases K5
              simp (disch := omega) only [g5', hA'.at_.one, hA'.at_.cells, go_sem]
              refine ih (i + 1, c ++ [n], q', _) _ _ ⟨by simp only; omega, hs, by simp only [List.length_append, List.length_singleton]; omega, upd_same _ _ _, ?_, ?_, hA'.at_.upd e5, hqn, ?_, ?_⟩ (by simp only; omega) (by simp (disch := omega) only [subT, Int.natCast_add, Int.cast_ofNat_Int, go_sem] <;> (repeat' apply And.intro) <;> first | rfl | (congr 1; omega) | assumption) rfl
              · exact (upd_ne _ _ n52.symm).trans (hA'.get g2 q2)
              · exact (upd_ne _ _ n51.symm).trans (hA'.get g1 q1)
              · exact fun b hb => hA'.dom hdom hq b (upd_none.1 hb).2
              · exact fun b c h => (upd_ne _ _ (fun e => by subst e; rw [n5σ] at h; cases h)).trans (hA'.get (hle b c h) (hq0 _ _ (kσ' _ _ h)))
          · have dl : (!litOK40 40 n) = true := by simpa using hl
            have : ¬ (-40 ≤ n ∧ n ≤ 40) := fun h => hl (litOK40_iff.2 ⟨hx0, h.1, h.2⟩)
            rw [if_pos this] at hs
            simp (disch := omega) only [dl, go_sem]
            refine W_drawW ?_
            refine DRun.mix1 g2 rfl ?_
            simp (disch := omega) only [g8d, go_sem]
            refine DS.wrQ (WrF.storeT rfl (upd_same _ _ _) rfl (by simp [ev, look, V.cells, V.one]) (by simp)) rfl ?_
            rintro _ s4 ⟨_, rfl⟩ hdj
            simp (disch := omega) only [go_sem]
            refine ⟨_, rfl, ?_⟩
            have gz := upd_same s b2 [V.bool false, V.isl true 0 []]
            refine W_retC c50_ok (resV_C3 rfl gz rfl) (Conv.refl _ _) ⟨fun b c h => ?_, .inl ⟨by rw [← hs]; simp, by rw [← hs]; rfl⟩⟩
            rw [upd_self _ g2]; exact hle b c h
    · obtain rfl : i = R.length := by omega
      rw [List.drop_length] at hs
      simp only [stepGo] at hs
      have g1d : del s b2 b1 = some [.isl false 2 (wdsV ws), .int .i64 (e : Int)] := by rw [del_ne _ n21.symm]; exact g1
      simp (disch := omega) only [go_sem]
      refine W_drawW ?_
      refine DRun.mix1 g2 rfl ?_
      simp (disch := omega) only [g1d, go_sem]
      refine DS.wrQ (WrF.storeT rfl (upd_same _ _ _) rfl (by simp [ev, look, V.cells, V.one]) (by simp)) rfl ?_
      rintro _ s4 ⟨_, rfl⟩ hdj
      simp (disch := omega) only [go_sem]
      refine ⟨_, rfl, ?_⟩
      have gz := upd_same s b2 [V.bool false, V.isl true 0 []]
      refine W_retC c50_ok (resV_C3 rfl gz rfl) (Conv.refl _ _) ⟨fun b c h => ?_, .inl ⟨by rw [← hs]; simp, by rw [← hs]; rfl⟩⟩
      rw [upd_self _ g2]; exact hle b c h
end Go.Proofs.YtlojopaebdnacaaDoor.Lg
