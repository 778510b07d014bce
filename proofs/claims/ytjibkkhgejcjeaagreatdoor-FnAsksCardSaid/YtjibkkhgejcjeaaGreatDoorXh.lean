/- The law FnAsks over its code. -/
import Derived.Test.YtjibkkhgejcjeaaGreatDoorXg
set_option linter.unusedSimpArgs false
set_option linter.unusedVariables false
namespace Go.Proofs.YtjibkkhgejcjeaaGreatDoor.Lg
open Go Go.Lib
attribute [local irreducible] SRun DS DRun
variable {Γ : St} {σ σ0 : St}
theorem readAS_fine {n : Net} (hB : netB n = true) {t : List UInt8} (h : (readAS n t).code = 0) : propB n (readAS n t).kind (readAS n t).from_ (readAS n t).port (readAS n t).way = true ∧ 0 ≤ (readAS n t).k ∧ (readAS n t).k ≤ 2 := by
  unfold readAS at h ⊢
  split at h
  · exact absurd (show (2 : Int) = 0 from h) (by decide)
  · rename_i h1
    rw [if_neg h1]
    split at h
    · exact absurd (show (1 : Int) = 0 from h) (by decide)
    · rename_i h2
      rw [if_neg h2]
      exact askS_fine hB h
section
variable {P : Program} {f : FuncId} {n : Nat} {Q : V → St → Prop} {k : List It} {T : Ts} {g : GI} {l : List GI}
theorem stepW_eqa_prop {a b c d : Int} : stepW P Γ f n Q (.eqa true [0, 0, 0, 0] (.c (.agg (prop4 a b c d))) (.c (.agg (prop4 a b c d)))) g l k T σ = W P Γ f n Q (.ops l :: k) (putT T g.d (.bool false)) σ := by
  rw [stepW_eqa]
  have h : pureI σ (ev emp []) (.eqa true [0, 0, 0, 0] (.c (.agg (prop4 a b c d))) (.c (.agg (prop4 a b c d)))) = some (True, .bool false) := by
    simp [pureI, ev, prop4, eqK]
  rw [h]
  exact propext ⟨fun h => h.2, fun h => ⟨trivial, h⟩⟩
end
set_option maxHeartbeats 2000000 in
theorem fnAsks_ok (hg : NumG Γ) (hk : Γ 0 = some (strsV kindsP)) {ex ex2 : Bool} {code more : List UInt8} (hl1 : code.length ≤ 140737488355328) (hl2 : more.length ≤ 140737488355328) : Ret Tryz.prog Γ 4 [codeV ex code, codeV ex2 more] σ (.bool true) σ := by
  refine ret_of c4_ok rfl ?_
  simp (disch := omega) only [c4, codeV, go_sem]
  first | refine guardW_dec (fun h => ?_) (fun h => ?_) | refine guardW_by (fun h => ?_) (fun h => ?_)
  · simp (disch := omega) only [go_sem]
    refine W_retR c4_ok rfl ⟨?_, rfl⟩
    simp only [look, ev, V.bool.injEq, V.int.injEq, V.str.injEq, V.tup.injEq, V.agg.injEq, V.isl.injEq, List.cons.injEq, true_and, and_true, Nat.reduceEqDiff, Nat.reduceAdd, Nat.reduceSub, Nat.reduceMul, Nat.reducePow, Nat.reduceDiv, Nat.reduceMod, Int.reduceToNat, Nat.reduceLeDiff, Nat.reduceLT, Int.reduceEq, Int.reduceLT, Int.reduceLE, Int.reduceGT, Int.reduceGE, Int.reduceNeg, Int.reduceSub, Int.reduceAdd, Int.reduceMul, Int.reducePow, ne_eq, reduceCtorEq, ↓reduceIte]
  simp (disch := omega) only [go_sem]
  first | refine iteW_dec (fun h2 => ?_) (fun h2 => ?_) | refine iteW_of (fun h2 => ?_) (fun h2 => ?_)
  · simp (disch := omega) only [go_sem]
    refine W_retR c4_ok rfl ⟨?_, rfl⟩
    simp only [look, ev, V.bool.injEq, V.int.injEq, V.str.injEq, V.tup.injEq, V.agg.injEq, V.isl.injEq, List.cons.injEq, true_and, and_true, Nat.reduceEqDiff, Nat.reduceAdd, Nat.reduceSub, Nat.reduceMul, Nat.reducePow, Nat.reduceDiv, Nat.reduceMod, Int.reduceToNat, Nat.reduceLeDiff, Nat.reduceLT, Int.reduceEq, Int.reduceLT, Int.reduceLE, Int.reduceGT, Int.reduceGE, Int.reduceNeg, Int.reduceSub, Int.reduceAdd, Int.reduceMul, Int.reducePow, ne_eq, reduceCtorEq, ↓reduceIte]
  simp (disch := omega) only [go_sem]
  refine SRun.callQ (NetOf_ok (ex := ex) (code := code) hl1) ⟨[], rfl, rfl⟩ rfl ?_
  rintro r s ⟨n, hB, hN, hos, rfl, hs⟩
  obtain rfl := hs.symm
  have hn := netN_of hB
  have r4 := hn.r4
  have hlen : (netC n).take 6 = netC n := rfl
  have hlen2 : (netC n).length = 6 := rfl
  have hone : (∀ c, c ∈ netC n → c.one = true) = True := eq_true (net_one n)
  have hsets : sets [V.isl true 0 [], V.isl true 0 [], V.isl true 0 [], V.isl true 0 [], V.isl true 0 [], V.isl true 0 []] 0 (netC n) = netC n := rfl
  have hnc : netV n = .agg (netC n) := rfl
  rw [hnc]
  simp (disch := omega) only [go_sem]
  refine SRun.allocR ?_
  intro b5 hb5
  simp (disch := omega) only [hlen2, hone, hsets, go_sem]
  have g5 := upd_same σ b5 (netC n)
  have hσ : ∀ d x, σ d = some x → upd σ b5 (netC n) d = some x := le_upd hb5
  generalize upd σ b5 (netC n) = s1 at *
  simp (disch := omega) only [g5, hlen, hlen2, go_sem]
  refine SRun.callQ (AskOf_ok (ex := ex2) (code := more) hl2 hn) ⟨[], rfl, rfl⟩ rfl ?_
  rintro r s ⟨t, htl, rfl, hs⟩
  obtain rfl := hs.symm
  have hW : t.length ≤ 65536 → AskW (wordsT t [], 0) := fun h => wordsT_AskW h (wordsT_len t []) fun w hw => by have := wordsT_mem t [] w hw; simpa using this
  have hr : n.routers.length ≤ 1000000000 := by omega
  have hRA := fun Γ σ (hg : NumG Γ) (hk : Γ 0 = some (strsV kindsP)) => ReadAsk_ok (Γ := Γ) (σ := σ) hg hk hN hr hW
  have hRS := fun Γ σ => ReadAskS_of (Γ := Γ) (σ := σ) hN hr hW fun h σ => l10Ask_ok hr (hW h)
  have hfine := readAS_fine hB (t := t)
  rw [readAI_S] at hRA
  generalize readAS n t = a at *
  have hp4 : ∀ a b c d, (prop4 a b c d).length = 4 := fun _ _ _ _ => rfl
  have hp4t : ∀ a b c d, (prop4 a b c d).take 4 = prop4 a b c d := fun _ _ _ _ => rfl
  have hpc : ∀ a b c d, (V.agg (prop4 a b c d)).cells = prop4 a b c d := fun _ _ _ _ => rfl
  have hp1 : ∀ a b c d, (∀ x, x ∈ prop4 a b c d → x.one = true) = True := fun a b c d => eq_true (by intro x hx; simp [prop4] at hx; rcases hx with rfl | rfl | rfl | rfl <;> rfl)
  have hps : ∀ a b c d, sets [V.int .i64 0, V.int .i64 0, V.int .i64 0, V.int .i64 0] 0 (prop4 a b c d) = prop4 a b c d := fun _ _ _ _ => rfl
  simp (disch := omega) only [g5, hlen, hlen2, go_sem]
  refine SRun.callR (hRA _ _ hg hk) ⟨[], rfl, rfl⟩ rfl ?_
  simp (disch := omega) only [go_sem]
  refine SRun.allocR ?_
  intro b7 hb7
  simp (disch := omega) only [hpc, hp4, hp1, hps, go_sem]
  have f5 := le_upd (cs := prop4 a.kind a.from_ a.port a.way) hb7 _ _ g5
  have f7 := upd_same s1 b7 (prop4 a.kind a.from_ a.port a.way)
  have hσ2 : ∀ d y, σ d = some y → upd s1 b7 (prop4 a.kind a.from_ a.port a.way) d = some y := fun d y h => le_upd hb7 _ _ (hσ d y h)
  generalize upd s1 b7 (prop4 a.kind a.from_ a.port a.way) = s2 at *
  simp (disch := omega) only [f5, hlen, hlen2, go_sem]
  refine SRun.callR (hRS _ _) ⟨[], rfl, rfl⟩ rfl ?_
  simp (disch := omega) only [go_sem]
  refine SRun.allocR ?_
  intro b10 hb10
  simp (disch := omega) only [hpc, hp4, hp1, hps, go_sem]
  have j5 := le_upd (cs := prop4 a.kind a.from_ a.port a.way) hb10 _ _ f5
  have j7 := le_upd (cs := prop4 a.kind a.from_ a.port a.way) hb10 _ _ f7
  have j10 := upd_same s2 b10 (prop4 a.kind a.from_ a.port a.way)
  have hσ3 : ∀ d y, σ d = some y → upd s2 b10 (prop4 a.kind a.from_ a.port a.way) d = some y := fun d y h => le_upd hb10 _ _ (hσ2 d y h)
  generalize upd s2 b10 (prop4 a.kind a.from_ a.port a.way) = s3 at *
  have dk : ∀ x : Int, (decide ¬ (x = x)) = false := fun x => by simp
  simp (disch := omega) only [j7, j10, hp4, hp4t, dk, stepW_eqa_prop, go_sem]
  by_cases ha : a.code = 0
  case neg =>
    have d0 : (decide ¬ (a.code = 0)) = true := by simpa using ha
    simp (disch := omega) only [d0, go_sem]
    exact W_retC c4_ok rfl (Conv.drop _ hσ3) ⟨rfl, rfl⟩
  have d0 : (decide ¬ (a.code = 0)) = false := by simpa using ha
  obtain ⟨hP, k0, k1⟩ := hfine ha
  obtain ⟨kk, hkk, hk2⟩ : ∃ kk : Nat, (if 1 < a.k then (1 : Int) else a.k) = kk ∧ kk < 2 := by
    by_cases h : 1 < a.k
    · exact ⟨1, by rw [if_pos h]; rfl, by omega⟩
    · exact ⟨a.k.toNat, by rw [if_neg h]; omega, by omega⟩
  have V2 := fun Γ σ => Verifys_ok (Γ := Γ) (σ := σ) (n := n) (kd := a.kind) (f := a.from_) (p := a.port) (w := a.way) (k := kk) hN hP (by omega)
  have hV := verd_told hB (kd := a.kind) (f := a.from_) (p := a.port) (w := a.way) hk2
  generalize verP n (failP n a.kind a.from_ a.port a.way) kk = vb at *
  have hpp : propC a.kind a.from_ a.port a.way = prop4 a.kind a.from_ a.port a.way := rfl
  rw [hpp] at V2
  simp (disch := omega) only [d0, j5, j7, hp4, hp4t, hlen, hlen2, hkk, go_sem]
  refine SRun.callR (V2 _ _) ⟨[], rfl, rfl⟩ rfl ?_
  have hvl : ∀ v, (vdC v).length = 6 := fun _ => rfl
  have hvt : ∀ v, (vdC v).take 6 = vdC v := fun _ => rfl
  have hvo : ∀ v, (∀ c ∈ vdC v, c.one = true) = True := fun v => eq_true (vd_one v)
  have hvs : ∀ v, sets [V.bool false, .int .i64 0, .isl true 0 [], .isl true 0 [], .isl true 0 [], .int .i64 0] 0 (vdC v) = vdC v := fun _ => rfl
  have hvv : ∀ v, vdV v = .agg (vdC v) := fun _ => rfl
  rw [hvv]
  simp (disch := omega) only [go_sem]
  refine SRun.allocR ?_
  intro b13 hb13
  simp (disch := omega) only [hvl, hvo, hvs, go_sem]
  have m5 := le_upd (cs := vdC vb) hb13 _ _ j5
  have m7 := le_upd (cs := vdC vb) hb13 _ _ j7
  have m13 := upd_same s3 b13 (vdC vb)
  have hσ4 : ∀ d y, σ d = some y → upd s3 b13 (vdC vb) d = some y := fun d y h => le_upd hb13 _ _ (hσ3 d y h)
  generalize upd s3 b13 (vdC vb) = s4 at *
  simp (disch := omega) only [m5, m13, hvl, hvt, hlen, hlen2, go_sem]
  refine SRun.callR (VerdictText_ok hg hB hN hV) ⟨[], rfl, rfl⟩ rfl ?_
  simp (disch := omega) only [m5, m13, hvl, hvt, hlen, hlen2, go_sem]
  refine SRun.callR (VerdictTexts_ok hB hN hV) ⟨[], rfl, rfl⟩ rfl ?_
  have heq : ∀ s : List UInt8, (s == s) = true := fun s => by simp
  simp (disch := omega) only [m5, m7, hp4, hp4t, hlen, hlen2, heq, go_sem]
  refine SRun.callR (PropertyOKs_ok hN hP) ⟨[], rfl, rfl⟩ rfl ?_
  simp (disch := omega) only [go_sem]
  exact W_retC c4_ok rfl (Conv.drop _ hσ4) ⟨rfl, rfl⟩
end Go.Proofs.YtjibkkhgejcjeaaGreatDoor.Lg
