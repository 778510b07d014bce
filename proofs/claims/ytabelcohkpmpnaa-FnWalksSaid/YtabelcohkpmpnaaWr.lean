/- The law FnWalks over its code. -/
import Derived.Test.YtabelcohkpmpnaaWq
set_option linter.unusedSimpArgs false
set_option linter.unusedVariables false
namespace Go.Proofs.Ytabelcohkpmpnaa.Lg
open Go
attribute [local irreducible] SRun DS DRun
variable {Γ : St} {σ σ0 : St}
theorem at_any {ex : Bool} {code : List UInt8} {i n : Int} (hl : code.length ≤ 140737488355328) (hi : 0 ≤ i ∧ i ≤ 1000000) (hn : 1 ≤ n ∧ n ≤ 1000000) : ACalls Try.prog Γ 12 [codeV ex code, .int .i64 i, .int .i64 n] σ fun r σ' => ∃ v : Int, 0 ≤ v ∧ v < n ∧ r = .int .i64 v ∧ σ' = σ := by
  by_cases h : n = 1
  · subst h
    refine acalls_W c12_ok rfl ?_
    simp (disch := omega) only [c12, go_sem, ↓if_pos, ne_eq, ↓reduceIte]
    exact W_retR c12_ok rfl ⟨0, by omega, by omega, rfl, rfl⟩
  · exact at_ok hl hi (by omega)
def fwdV (n : Net) (down : List Bool) (rs : List Rt) (from_ port : Int) : V := .tup [walkV (fwdA n down rs from_ port), .int .i64 (fwdCode n down rs from_ port)]
theorem Forwards_ok {n : Net} {ex ex2 : Bool} {down : List Bool} {rs : List Rt} {from_ port : Int} (hn : NetLen n) (hd : down.length ≤ 1000000000000) (hr : rs.length ≤ 1000000000000) :
    Ret Try.prog Γ 14 [netV n, .isl ex 1 (bools down), .isl ex2 4 (rtsV rs), .int .i64 from_, .int .i64 port] σ (fwdV n down rs from_ port) σ :=
  ACalls.conv (Forwards_own hn hd hr) fun r s ⟨q, h1, h2⟩ => by
    subst h1
    exact ⟨_, σ, ⟨h2.le, frz_tup (by exact ⟨frz_agg (by exact ⟨.refl _, h2.frz, trivial⟩) (by simp [V.one]), .refl _, trivial⟩)⟩, rfl, rfl⟩
theorem Forward_ok {n : Net} {ex ex2 : Bool} {down : List Bool} {rs : List Rt} {from_ port : Int} (hn : NetLen n) (hd : down.length ≤ 1000000000000) (hr : rs.length ≤ 1000000000000) :
    Ret Try.prog Γ 13 [netV n, .isl ex 1 (bools down), .isl ex2 4 (rtsV rs), .int .i64 from_, .int .i64 port] σ (fwdV n down rs from_ port) σ :=
  ACalls.conv (Forward_own hn hd hr) fun r s ⟨q, h1, h2⟩ => by
    subst h1
    exact ⟨_, σ, ⟨h2.le, frz_tup (by exact ⟨frz_agg (by exact ⟨.refl _, h2.frz, trivial⟩) (by simp [V.one]), .refl _, trivial⟩)⟩, rfl, rfl⟩
theorem fwd_fine {n : Net} {down : List Bool} {rs : List Rt} {from_ port : Int} (hB : netB n = true) (hs : StateR n down rs) (hd : down.length = n.links.length) (hf : 0 ≤ from_ ∧ from_ < n.routers.length) (hp : 0 ≤ port ∧ port ≤ 15) : fwdCode n down rs from_ port = 0 ∧ fwdA n down rs from_ port = walkP n rs from_ port := by
  have hR := netR_of hB
  have r4 := hR.r4
  have l6 := hR.l6
  have hl := hs.len
  have h : fwdCode n down rs from_ port = 0 := by
    unfold fwdCode
    rw [if_neg (by omega), if_neg (by rw [hB, hs.rts]; simp), if_neg (by simp [routerB, inB]; omega), if_neg]
    rw [any_range_f fun i hi => ?_]
    · simp
    · unfold downOn
      by_cases hv : (rs.getD i default).via ≥ 0
      · rw [((hs.ok i hi).link hv).2]; simp
      · rw [decide_eq_false hv]; rfl
  exact ⟨h, by unfold fwdA; rw [if_pos h]⟩
theorem states_len {n : Net} {env : List Int} {down : List Bool} (hn : NetR n) : (statesP n env down).length ≤ 1296 := by
  have h1 := List.length_filterMap_le (stateO n env down) (choiceP n env down)
  have h2 := choS_bound (env := env) (down := down) hn (m := n.routers.length) hn.r4
  have h3 : choS n env down n.routers.length = choiceP n env down := rfl
  rw [h3] at h2
  unfold statesP; omega
set_option maxHeartbeats 2000000 in
theorem fnWalks_ok {ex ex2 : Bool} {code more : List UInt8} (hl1 : code.length ≤ 140737488355328) (hl2 : more.length ≤ 140737488355328) : Ret Try.prog Γ 3 [codeV ex code, codeV ex2 more] σ (.bool true) σ := by
  refine ret_of c3_ok rfl ?_
  simp (disch := omega) only [c3, codeV, go_sem, ↓if_pos, ne_eq, ↓reduceIte]
  first | refine guardW_dec (fun h => ?_) (fun h => ?_) | refine guardW_by (fun h => ?_) (fun h => ?_)
  · simp (disch := omega) only [go_sem, ↓if_pos, ne_eq, ↓reduceIte]
    refine W_retR c3_ok rfl ⟨?_, rfl⟩
    simp only [look, ev, V.bool.injEq, V.int.injEq, V.str.injEq, V.tup.injEq, V.agg.injEq, V.isl.injEq, List.cons.injEq, true_and, and_true, Nat.reduceEqDiff, Nat.reduceAdd, Nat.reduceSub, Nat.reduceMul, Nat.reducePow, Nat.reduceDiv, Nat.reduceMod, Int.reduceToNat, Nat.reduceLeDiff, Nat.reduceLT, Int.reduceEq, Int.reduceLT, Int.reduceLE, Int.reduceGT, Int.reduceGE, Int.reduceNeg, Int.reduceSub, Int.reduceAdd, Int.reduceMul, Int.reducePow, ne_eq, reduceCtorEq, ↓reduceIte]
  simp (disch := omega) only [go_sem, ↓if_pos, ne_eq, ↓reduceIte]
  first | refine iteW_dec (fun h2 => ?_) (fun h2 => ?_) | refine iteW_of (fun h2 => ?_) (fun h2 => ?_)
  · simp (disch := omega) only [go_sem, ↓if_pos, ne_eq, ↓reduceIte]
    refine W_retR c3_ok rfl ⟨?_, rfl⟩
    simp only [look, ev, V.bool.injEq, V.int.injEq, V.str.injEq, V.tup.injEq, V.agg.injEq, V.isl.injEq, List.cons.injEq, true_and, and_true, Nat.reduceEqDiff, Nat.reduceAdd, Nat.reduceSub, Nat.reduceMul, Nat.reducePow, Nat.reduceDiv, Nat.reduceMod, Int.reduceToNat, Nat.reduceLeDiff, Nat.reduceLT, Int.reduceEq, Int.reduceLT, Int.reduceLE, Int.reduceGT, Int.reduceGE, Int.reduceNeg, Int.reduceSub, Int.reduceAdd, Int.reduceMul, Int.reducePow, ne_eq, reduceCtorEq, ↓reduceIte]
  simp (disch := omega) only [go_sem, ↓if_pos, ne_eq, ↓reduceIte]
  refine SRun.callQ (NetOf_ok (ex := ex) (code := code) hl1) ⟨[], rfl, rfl⟩ rfl ?_
  rintro r s ⟨n, hB, hN, hos, rfl, hs⟩
  obtain rfl := hs.symm
  have hR := netR_of hB
  have r1 := hR.r1
  have r4 := hR.r4
  have l6 := hR.l6
  have hlen : (netC n).take 6 = netC n := rfl
  have hlen2 : (netC n).length = 6 := rfl
  have hone : (∀ c, c ∈ netC n → c.one = true) = True := eq_true (net_one n)
  have hsets : sets [V.isl true 0 [], V.isl true 0 [], V.isl true 0 [], V.isl true 0 [], V.isl true 0 [], V.isl true 0 []] 0 (netC n) = netC n := rfl
  have hnc : netV n = .agg (netC n) := rfl
  have e0 : (netC n)[0]? = some (.isl false 1 (strsV n.routers)) := rfl
  rw [hnc]
  simp (disch := omega) only [go_sem, ↓if_pos, ne_eq, ↓reduceIte]
  refine SRun.allocR ?_
  intro b5 hb5
  simp (disch := omega) only [hlen2, hone, hsets, go_sem, ↓if_pos, ne_eq, ↓reduceIte]
  have g5 := upd_same σ b5 (netC n)
  have hσ : ∀ d x, σ d = some x → upd σ b5 (netC n) d = some x := le_upd hb5
  generalize upd σ b5 (netC n) = s1 at *
  simp (disch := omega) only [g5, hlen, hlen2, go_sem, ↓if_pos, ne_eq, ↓reduceIte]
  refine SRun.callQ (EnvOf_ok (ex := ex2) (code := more) hl2 hR) ⟨[], rfl, rfl⟩ rfl ?_
  rintro r s ⟨env, he1, he2, rfl, hs⟩
  obtain rfl := hs.symm
  simp (disch := omega) only [g5, hlen, hlen2, go_sem, ↓if_pos, ne_eq, ↓reduceIte]
  refine SRun.callQ (DownOf_ok (ex := ex2) (code := more) hl2 hR) ⟨[], rfl, rfl⟩ rfl ?_
  rintro r s ⟨down, hd1, rfl, hs⟩
  obtain rfl := hs.symm
  have hE : envB n env down = true := by unfold envB; rw [decide_eq_true he1, decide_eq_true hd1, he2]; rfl
  simp (disch := omega) only [g5, hlen, hlen2, go_sem, ↓if_pos, ne_eq, ↓reduceIte]
  refine SRun.callR (StableStatess_ok (ex := false) (ex2 := false) hN hB hE) ⟨[], rfl, rfl⟩ rfl ?_
  have hsl := states_len (env := env) (down := down) hR
  have hsf := fun rs (h : rs ∈ statesP n env down) => statesP_fine hR h
  generalize statesP n env down = ss at *
  simp (disch := omega) only [go_sem, ↓if_pos, ne_eq, ↓reduceIte]
  refine W_loopC (α := Nat × St) (fun p => p.1 ≤ ss.length ∧ ∀ d x, s1 d = some x → p.2 d = some x) (fun p => [(1, codeV ex2 more), (5, .ptr b5 0), (7, .isl false 1 (bools down)), (8, .isl false 1 (staV ss)), (10, .int .i64 (p.1 : Nat))]) (fun p => p.2) (fun p => ss.length - p.1) (0, s1) ⟨by simp, fun _ _ h => h⟩ (by simp (disch := omega) only [subT, Int.natCast_add, Int.cast_ofNat_Int, codeV, go_sem, ↓if_pos, ne_eq, ↓reduceIte] <;> (repeat' apply And.intro) <;> first | rfl | (congr 1; omega) | assumption) rfl ?_
  rintro ⟨i, s⟩ ⟨hi, hle⟩ ih
  dsimp only at hi hle
  have g5' := hle _ _ g5
  simp (disch := omega) only [go_sem, ↓if_pos, ne_eq, ↓reduceIte]
  first | refine iteW_dec (fun h3 => ?_) (fun h3 => ?_) | refine iteW_of (fun h3 => ?_) (fun h3 => ?_)
  · have hst := hsf _ (getD_mem [] (by omega : i < ss.length))
    simp (disch := omega) only [g5', e0, go_sem, ↓if_pos, ne_eq, ↓reduceIte]
    refine SRun.callQ (at_any (ex := ex2) (code := more) (i := (i : Nat)) (n := n.routers.length) hl2 (by omega) (by omega)) ⟨[], rfl, rfl⟩ rfl ?_
    rintro r sx ⟨fr, f0, f1, rfl, hs⟩
    obtain rfl := hs.symm
    simp (disch := omega) only [go_sem, ↓if_pos, ne_eq, ↓reduceIte]
    refine SRun.callQ (at_any (ex := ex2) (code := more) (i := (i : Nat) + 1) (n := 16) hl2 (by omega) (by omega)) ⟨[], rfl, rfl⟩ rfl ?_
    rintro r sx ⟨port, p0, p1, rfl, hs⟩
    obtain rfl := hs.symm
    obtain ⟨hc0, hA⟩ := fwd_fine (port := port) hB hst hd1 ⟨f0, f1⟩ (by omega)
    have hlen3 := hst.len
    have F1 := fun Γ σ => Forward_ok (Γ := Γ) (σ := σ) (ex := false) (ex2 := false) (down := down) (rs := ss.getD i []) (from_ := fr) (port := port) hN (by omega) (by omega)
    have F2 := fun Γ σ => Forwards_ok (Γ := Γ) (σ := σ) (ex := false) (ex2 := false) (down := down) (rs := ss.getD i []) (from_ := fr) (port := port) hN (by omega) (by omega)
    have hFV : fwdV n down (ss.getD i []) fr port = .tup [.agg [.int .i64 (walkP n (ss.getD i []) fr port).1, .isl false 1 (ints (walkP n (ss.getD i []) fr port).2)], .int .i64 0] := by
      unfold fwdV walkV; rw [hc0, hA]
    rw [hFV] at F1 F2
    obtain ⟨fr, rfl⟩ : ∃ k : Nat, fr = k := ⟨fr.toNat, by omega⟩
    obtain ⟨w1, w2, w3, w4, w5, lv, w6, w7, w8⟩ := walkGo_ok hst (port := port) (ss.getD i []).length fr [(fr : Int)] (by omega) (hst.ends fr (by omega)) (by simp) (by simp) (fun x hx => by rw [List.mem_singleton.1 hx]; omega) (by simp)
    have hwd : walkP n (ss.getD i []) fr port = walkGo n (ss.getD i []) port (ss.getD i []).length fr [(fr : Int)] := rfl
    rw [← hwd] at w1 w2 w3 w4 w5 w6 w7 w8
    clear hFV hwd hc0 hA
    generalize hrs : ss.getD i [] = rs at *
    generalize hw : walkP n rs fr port = w at *
    obtain ⟨o, path⟩ := w
    dsimp only at w1 w2 w3 w4 w5 w6 w7 w8
    have hpl : 1 ≤ path.length := by cases path with
      | nil => exact absurd rfl w1
      | cons _ _ => simp
    rw [List.length_singleton] at w4
    simp only [List.getD_cons_zero] at w2
    simp (disch := omega) only [go_sem, ↓if_pos, ne_eq, ↓reduceIte]
    rw [W_draw]
    refine DRun.start (DRun.mixNR (fun T s' => ∃ b13, s b13 = none ∧ s' = upd emp b13 [.int .i64 o, .isl false 1 (ints path)] ∧ look T 1 = codeV ex2 more ∧ look T 5 = .ptr b5 0 ∧ look T 7 = .isl false 1 (bools down) ∧ look T 8 = .isl false 1 (staV ss) ∧ look T 10 = .int .i64 (i : Nat) ∧ look T 11 = .int .i64 fr ∧ look T 12 = .int .i64 port ∧ look T 13 = .ptr b13 0 ∧ look T 73 = .int .i64 0) rfl ?_ ?_)
    · simp (disch := omega) only [g5', hlen, hlen2, hrs, go_sem, ↓if_pos, ne_eq, ↓reduceIte]
      refine DS.wr2 (WrF.call (F1 _ _) ⟨[], rfl, rfl⟩) rfl ?_ ?_
      · rintro r sx ⟨rfl, hs'⟩ hd
        obtain rfl := hs'.symm
        simp (disch := omega) only [go_sem, ↓if_pos, ne_eq, ↓reduceIte]
        refine DS.wrQ WrF.alloc rfl ?_
        rintro _ s3 ⟨b13, hb13, rfl, rfl⟩ hd2
        simp (disch := omega) only [go_sem, ↓if_pos, ne_eq, ↓reduceIte]
        refine DS.wrQ (WrF.store rfl (upd_same _ b13 _) rfl (by simp [ev, look, V.cells, V.one]) (by simp)) rfl ?_
        rintro _ s4 ⟨_, rfl⟩ hd3
        rw [upd_upd]
        refine ⟨b13, disj_new hd2, rfl, ?_⟩
        (repeat' apply And.intro) <;> rfl
      · refine DS.wrQ WrF.alloc rfl ?_
        rintro _ s3 ⟨b13, hb13, rfl, rfl⟩ hd2
        simp (disch := omega) only [go_sem, ↓if_pos, ne_eq, ↓reduceIte]
        refine DS.wrQ (WrF.call (F1 _ _) ⟨[], rfl, rfl⟩) rfl ?_
        rintro r sx ⟨rfl, hs'⟩ hd
        obtain rfl := hs'.symm
        simp (disch := omega) only [go_sem, ↓if_pos, ne_eq, ↓reduceIte]
        refine DS.wrQ (WrF.store rfl (upd_same _ b13 _) rfl (by simp [ev, look, V.cells, V.one]) (by simp)) rfl ?_
        rintro _ s4 ⟨_, rfl⟩ hd3
        rw [upd_upd]
        refine ⟨b13, disj_new hd2, rfl, ?_⟩
        (repeat' apply And.intro) <;> rfl
    rintro T sx ⟨b13, hb13, rfl, k1, k5, k7, k8, k10, k11, k12, k13, k73⟩
    rw [cup_new]
    have g13 := upd_same s b13 [.int .i64 o, .isl false 1 (ints path)]
    have g5a := le_upd (cs := [.int .i64 o, .isl false 1 (ints path)]) hb13 _ _ g5'
    have hle2 : ∀ d x, s1 d = some x → upd s b13 [.int .i64 o, .isl false 1 (ints path)] d = some x := fun d x h => le_upd hb13 _ _ (hle _ _ h)
    simp (disch := omega) only [k73, go_sem, ↓if_pos, ne_eq, ↓reduceIte]
    generalize upd s b13 [.int .i64 o, .isl false 1 (ints path)] = s2 at *
    rw [W_draw]
    refine DRun.start (DRun.mixNR (fun T s' => ∃ b15, s2 b15 = none ∧ s' = upd emp b15 [.int .i64 o, .isl false 1 (ints path)] ∧ look T 1 = codeV ex2 more ∧ look T 5 = .ptr b5 0 ∧ look T 7 = .isl false 1 (bools down) ∧ look T 8 = .isl false 1 (staV ss) ∧ look T 10 = .int .i64 (i : Nat) ∧ look T 11 = .int .i64 fr ∧ look T 12 = .int .i64 port ∧ look T 13 = .ptr b13 0 ∧ look T 14 = .int .i64 0 ∧ look T 15 = .ptr b15 0) rfl ?_ ?_)
    · simp (disch := omega) only [g5a, hlen, hlen2, hrs, k5, k7, k8, k10, k11, k12, go_sem, ↓if_pos, ne_eq, ↓reduceIte]
      refine DS.wr2 (WrF.call (F2 _ _) ⟨[], rfl, rfl⟩) rfl ?_ ?_
      · rintro r sx ⟨rfl, hs'⟩ hd
        obtain rfl := hs'.symm
        simp (disch := omega) only [go_sem, ↓if_pos, ne_eq, ↓reduceIte]
        refine DS.wrQ WrF.alloc rfl ?_
        rintro _ s3 ⟨b15, hb15, rfl, rfl⟩ hd2
        simp (disch := omega) only [go_sem, ↓if_pos, ne_eq, ↓reduceIte]
        refine DS.wrQ (WrF.store rfl (upd_same _ b15 _) rfl (by simp [ev, look, V.cells, V.one]) (by simp)) rfl ?_
        rintro _ s4 ⟨_, rfl⟩ hd3
        rw [upd_upd]
        refine ⟨b15, disj_new hd2, rfl, ?_⟩
        (repeat' apply And.intro) <;> first | rfl | assumption
      · refine DS.wrQ WrF.alloc rfl ?_
        rintro _ s3 ⟨b15, hb15, rfl, rfl⟩ hd2
        simp (disch := omega) only [go_sem, ↓if_pos, ne_eq, ↓reduceIte]
        refine DS.wrQ (WrF.call (F2 _ _) ⟨[], rfl, rfl⟩) rfl ?_
        rintro r sx ⟨rfl, hs'⟩ hd
        obtain rfl := hs'.symm
        simp (disch := omega) only [go_sem, ↓if_pos, ne_eq, ↓reduceIte]
        refine DS.wrQ (WrF.store rfl (upd_same _ b15 _) rfl (by simp [ev, look, V.cells, V.one]) (by simp)) rfl ?_
        rintro _ s4 ⟨_, rfl⟩ hd3
        rw [upd_upd]
        refine ⟨b15, disj_new hd2, rfl, ?_⟩
        (repeat' apply And.intro) <;> first | rfl | assumption
    clear k1 k5 k7 k8 k10 k11 k12 k13 k73 T
    rintro T sx ⟨b15, hb15, rfl, k1, k5, k7, k8, k10, k11, k12, k13, k14, k15⟩
    rw [cup_new]
    have g15 := upd_same s2 b15 [.int .i64 o, .isl false 1 (ints path)]
    have g13b := le_upd (cs := [.int .i64 o, .isl false 1 (ints path)]) hb15 _ _ g13
    have g5b := le_upd (cs := [.int .i64 o, .isl false 1 (ints path)]) hb15 _ _ g5a
    have hle3 : ∀ d x, s1 d = some x → upd s2 b15 [.int .i64 o, .isl false 1 (ints path)] d = some x := fun d x h => le_upd hb15 _ _ (hle2 _ _ h)
    simp (disch := omega) only [go_sem, ↓if_pos, ne_eq, ↓reduceIte]
    generalize upd s2 b15 [.int .i64 o, .isl false 1 (ints path)] = s3 at *
    have hoo : (decide ¬ o = o) = false := by simp
    have hp0 : path.getD 0 0 = fr := w2
    have hff : (decide ¬ path.getD 0 0 = (fr : Int)) = false := decide_eq_false (fun h => h hp0)
    have hl0 : decide ((path.length : Int) = 0) = false := decide_eq_false (by omega)
    have hpp : (path == path) = true := by simp
    simp (disch := omega) only [k14, k13, k15, g13b, g15, hoo, go_sem, ↓if_pos, ne_eq, ↓reduceIte]
    refine SRun.callR (sameInts_ok (ex := false) (ex2 := false) (xs := path) (ys := path) (by omega)) ⟨[], rfl, rfl⟩ rfl ?_
    simp (disch := omega) only [hpp, k13, g13b, hl0, k11, hff, go_sem, ↓if_pos, ne_eq, ↓reduceIte]
    have hrt0 : ∀ r : Rt, (rtC r)[0]? = some (.int .i64 r.via) := fun _ => rfl
    refine W_loopC (α := Nat) (fun k => 1 ≤ k ∧ k ≤ path.length) (fun k => [(1, codeV ex2 more), (5, .ptr b5 0), (7, .isl false 1 (bools down)), (8, .isl false 1 (staV ss)), (10, .int .i64 (i : Nat)), (11, .int .i64 fr), (13, .ptr b13 0), (17, .int .i64 (k : Nat))]) (fun _ => s3) (fun k => path.length - k) 1 ⟨by omega, by omega⟩ (by simp (disch := omega) only [subT, Int.natCast_add, Int.cast_ofNat_Int, k1, k5, k7, k8, k10, k11, k13, codeV, go_sem, ↓if_pos, ne_eq, ↓reduceIte] <;> (repeat' apply And.intro) <;> first | rfl | (congr 1; omega) | assumption) rfl ?_
    clear k1 k5 k7 k8 k10 k11 k12 k13 k14 k15 T
    rintro k ⟨hk1, hk2⟩ ihk
    simp (disch := omega) only [g13b, go_sem, ↓if_pos, ne_eq, ↓reduceIte]
    first | refine iteW_dec (fun h4 => ?_) (fun h4 => ?_) | refine iteW_of (fun h4 => ?_) (fun h4 => ?_)
    · have hm1 := w3 _ (getD_mem (xs := path) 0 (by omega : k - 1 < path.length))
      have hke : ((k : Int) - 1).toNat = k - 1 := by omega
      have hstep := w5 (k - 1) (by omega)
      rw [show k - 1 + 1 = k by omega] at hstep
      have hra : rs.getD (path.getD (k - 1) 0).toNat default = rtAt rs (path.getD (k - 1) 0) := rfl
      have hne : (decide ¬ (rtAt rs (path.getD (k - 1) 0)).via = path.getD k 0) = false := decide_eq_false (fun h => h hstep)
      simp (disch := omega) only [go_sem, ↓if_pos, ne_eq, ↓reduceIte]
      refine W_drawW ?_
      simp (disch := omega) only [hrs, g13b, hke, hrt0, hra, hne, go_sem, ↓if_pos, ne_eq, ↓reduceIte]
      exact ihk (k + 1) _ _ ⟨by omega, by omega⟩ (by omega) (by simp (disch := omega) only [subT, Int.natCast_add, Int.cast_ofNat_Int, codeV, go_sem, ↓if_pos, ne_eq, ↓reduceIte] <;> (repeat' apply And.intro) <;> first | rfl | (congr 1; omega) | assumption) rfl
    clear ihk
    obtain ⟨lst, hlst⟩ : ∃ x, path.getLast? = some x := by
      cases h : path.getLast? with
      | none => rw [List.getLast?_eq_none_iff] at h; exact absurd h w1
      | some x => exact ⟨x, rfl⟩
    rw [hlst] at w6
    simp only [Option.map_some, Option.some.injEq] at w6
    have hlg : path.getD (path.length - 1) 0 = lst := by
      rw [List.getLast?_eq_getElem?] at hlst
      simp [List.getD, hlst]
    have hlm := w3 _ (List.mem_of_getLast? hlst)
    have hle1 : ((path.length : Int) - 1).toNat = path.length - 1 := by omega
    have hra : rs.getD lst.toNat default = rtAt rs lst := rfl
    simp (disch := omega) only [go_sem, ↓if_pos, ne_eq, ↓reduceIte]
    refine W_drawW ?_
    simp (disch := omega) only [hrs, g13b, hle1, hlg, hrt0, hra, w6, go_sem, ↓if_pos, ne_eq, ↓reduceIte]
    have hP : ∀ kd, 1 ≤ kd ∧ kd ≤ 2 → propB n kd fr (-1) 0 = true := fun kd hk => by
      unfold propB
      rw [hB, if_neg (by omega)]
      simp [inB, routerB]; omega
    have S1 := fun Γ σ => Satisfied_ok (Γ := Γ) (σ := σ) (n := n) (kd := 1) (f := fr) (p := -1) (way := 0) (o := o) (ex := false) (path := path) hN (hP 1 (by omega)) w7 (by omega)
    have S2 := fun Γ σ => Satisfied_ok (Γ := Γ) (σ := σ) (n := n) (kd := 2) (f := fr) (p := -1) (way := 0) (o := o) (ex := false) (path := path) hN (hP 2 (by omega)) w7 (by omega)
    have btt : (true == true) = true := rfl
    have btf : (true == false) = false := rfl
    have bft : (false == true) = false := rfl
    have bff : (false == false) = true := rfl
    have hcase : (o = 1 ∧ lv = -2) ∨ (o = 2 ∧ lv = -1) ∨ (o = 3 ∧ lv = -3) ∨ (o = 4 ∧ 0 ≤ lv) := by omega
    rcases hcase with ⟨rfl, rfl⟩ | ⟨rfl, rfl⟩ | ⟨rfl, rfl⟩ | ⟨rfl, hlv⟩
    case' inr.inr.inr =>
      have dlv : decide (lv < 0) = false := decide_eq_false (by omega)
      simp (disch := omega) only [dlv, g13b, g5b, hlen, hlen2, go_sem, ↓if_pos, ne_eq, ↓reduceIte]
    case' inl => simp (disch := omega) only [g13b, g5b, hlen, hlen2, go_sem, ↓if_pos, ne_eq, ↓reduceIte]
    case' inr.inl => simp (disch := omega) only [g13b, g5b, hlen, hlen2, go_sem, ↓if_pos, ne_eq, ↓reduceIte]
    case' inr.inr.inl => simp (disch := omega) only [g13b, g5b, hlen, hlen2, go_sem, ↓if_pos, ne_eq, ↓reduceIte]
    all_goals
      refine SRun.callR (S1 _ _) ⟨[], rfl, rfl⟩ rfl ?_
      simp (disch := omega) only [g13b, g5b, hlen, hlen2, go_sem, ↓if_pos, ne_eq, ↓reduceIte]
      refine SRun.callR (S2 _ _) ⟨[], rfl, rfl⟩ rfl ?_
      simp only [satP, if_pos, if_neg, Int.reduceEq, decide_true, decide_false, Bool.or_false, Bool.false_or, Bool.or_true, Bool.true_or, Bool.not_true, Bool.not_false, reduceIte]
      simp (disch := omega) only [g13b, btt, btf, bft, bff, go_sem, ↓if_pos, ne_eq, ↓reduceIte]
      exact ih (i + 1, s3) _ _ ⟨by simp only; omega, hle3⟩ (by simp only; omega) (by simp (disch := omega) only [subT, Int.natCast_add, Int.cast_ofNat_Int, codeV, go_sem, ↓if_pos, ne_eq, ↓reduceIte] <;> (repeat' apply And.intro) <;> first | rfl | (congr 1; omega) | assumption) rfl
  · simp (disch := omega) only [go_sem, ↓if_pos, ne_eq, ↓reduceIte]
    exact W_retC c3_ok rfl (Conv.drop _ fun d x h => hle _ _ (hσ _ _ h)) ⟨rfl, rfl⟩
end Go.Proofs.Ytabelcohkpmpnaa.Lg
