/- What is told of the functions that are reached, as far as it is asked here. -/
import Derived.Test.YtabelcohkpmpnaaGreatKu6
import Derived.KernelRfl
set_option linter.unusedSimpArgs false
set_option linter.unusedVariables false
namespace Go.Proofs.YtabelcohkpmpnaaGreat.Lg
open Go
section
attribute [local irreducible] SRun DS DRun
variable {Γ : St} {σ σ0 : St}
theorem verGo_true {fail : List Rt → Option Int} : ∀ (l : List (List Bool × List Int × List Rt)) (c : Int), (verGo fail l c).holds = true → ∀ x ∈ l, fail x.2.2 = none := by
 intro l
 induction l with
 | nil => intro c _ x hx; cases hx
 | cons y l ih =>
  obtain ⟨d, e, rs⟩ := y
  intro c h x hx
  cases hf : fail rs with
  | some port => rw [verGo_some hf] at h; cases h
  | none =>
   rw [verGo_none hf] at h
   rcases List.mem_cons.1 hx with rfl | hx
   ·exact hf
   ·exact ih _ h x hx
theorem verGo_false {fail : List Rt → Option Int} : ∀ (l : List (List Bool × List Int × List Rt)) (c : Int), (verGo fail l c).holds = false → ∃ x ∈ l, ∃ port c', fail x.2.2 = some port ∧ verGo fail l c = ⟨false, c', x.1, x.2.1, x.2.2.map (·.via), port⟩ := by
 intro l
 induction l with
 | nil => intro c h; cases h
 | cons y l ih =>
  obtain ⟨d, e, rs⟩ := y
  intro c h
  cases hf : fail rs with
  | some port => exact ⟨(d, e, rs), List.mem_cons_self .., port, c + 1, hf, verGo_some hf⟩
  | none =>
   rw [verGo_none hf] at h ⊢
   obtain ⟨x, hx, port, c', h1, h2⟩ := ih _ h
   exact ⟨x, List.mem_cons_of_mem _ hx, port, c', h1, h2⟩
theorem failP_some {n : Net} {kd f p w : Int} {rs : List Rt} {port : Int} (h : failP n kd f p w rs = some port) : (0 ≤ port ∧ port ≤ 15) ∧ (p < 0 ∨ p = port) ∧ satP kd w (walkP n rs f port) = false := by
 unfold failP at h
 rw [Option.map_eq_some_iff] at h
 obtain ⟨i, hi, rfl⟩ := h
 have h1 := List.find?_some hi
 have h2 := List.mem_range.1 (List.mem_of_find?_eq_some hi)
 simp only [badB, Bool.and_eq_true, Bool.or_eq_true, decide_eq_true_eq, Bool.not_eq_true'] at h1
 exact ⟨by omega, h1.1, h1.2⟩
theorem failP_none {n : Net} {kd f p w : Int} {rs : List Rt} (h : failP n kd f p w rs = none) {port : Int} (h0 : 0 ≤ port ∧ port ≤ 15) (hp : p < 0 ∨ p = port) : satP kd w (walkP n rs f port) = true := by
 unfold failP at h
 rw [Option.map_eq_none_iff] at h
 obtain ⟨i, rfl⟩ : ∃ i : Nat, port = i := ⟨port.toNat, by omega⟩
 have h1 := List.find?_eq_none.1 h i (List.mem_range.2 (by omega))
 have hor : (decide (p < 0) || decide (p = (i : Int))) = true := by simpa using hp
 rw [badB, hor, Bool.true_and] at h1
 simpa using h1
theorem envs_all : ∀ {x : Nat} {e : List Int}, e.length = x → (e.all fun v => inB v 0 2) = true → e ∈ envsP x := by
 intro x
 induction x with
 | zero => intro e h _; rw [List.eq_nil_of_length_eq_zero h]; simp [envsP]
 | succ x ih =>
  intro e h ha
  rcases List.eq_nil_or_concat e with rfl | ⟨e0, v, rfl⟩
  ·cases h
  ·rw [List.concat_eq_append] at h ha ⊢
   rw [List.length_append, List.length_singleton] at h
   rw [List.all_append, Bool.and_eq_true] at ha
   have h2 := ih (by omega) ha.1
   have hv : 0 ≤ v ∧ v ≤ 2 := by simpa [inB] using ha.2
   simp only [envsP, List.mem_flatMap, List.mem_cons, List.not_mem_nil, or_false]
   refine ⟨e0, h2, ?_⟩
   rcases (by omega : v = 0 ∨ v = 1 ∨ v = 2) with rfl | rfl | rfl
   ·exact .inl rfl
   ·exact .inr (.inl rfl)
   ·exact .inr (.inr rfl)
theorem none_down : ∀ L, L < 7 → ∀ k, k < 2 → List.replicate L false ∈ downsP L k := by decide +kernel
theorem one_down : ∀ L, L < 7 → ∀ j, j < L → (List.replicate L false).set j true ∈ downsP L 1 := by decide +kernel
theorem downs_count {L k : Nat} {d : List Bool} (h : d ∈ downsP L k) : d.count true ≤ k := by
 unfold downsP at h
 obtain ⟨m, hm, h⟩ := List.mem_flatMap.1 h
 have := List.mem_range.1 hm
 unfold downsAt at h
 have h2 := of_decide_eq_true (List.mem_filter.1 h).2
 omega
set_option maxHeartbeats 1000000 in
theorem Replay_true {n : Net} {kd f p w c port : Int} {k : Nat} {d : List Bool} {e : List Int} {rs : List Rt} (hN : NetLen n) (hP : propB n kd f p w = true) (hk : k ≤ 2) (hE : envB n e d = true) (hs : rs ∈ statesP n e d) (hd : d.count true ≤ k) (hp : 0 ≤ port ∧ port ≤ 15) (hpp : p < 0 ∨ p = port) (hsat : satP kd w (walkP n rs f port) = false) :
  Ret Tryz.prog Γ 13 [netV n, .agg (propC kd f p w), .int .i64 k, vdV ⟨false, c, d, e, rs.map (·.via), port⟩] σ (.tup [.bool true, .int .i64 0]) σ := by
 have hP2 := hP
 unfold propB at hP2
 simp only [Bool.and_eq_true] at hP2
 have hB := hP2.1.1.1.1
 have hn := netR_of hB
 have hdo := net_do hB
 have r4 := hn.r4
 have l6 := hn.l6
 have x2 := hn.x2
 have f6 := hn.f6
 have hfr : 0 ≤ f ∧ f < n.routers.length := by
  have h := hP2.1.1.2
  simp only [routerB, Bool.and_eq_true, decide_eq_true_eq] at h; omega
 have hp15 : -1 ≤ p ∧ p ≤ 15 := by
  have h := hP2.1.2
  simp only [inB, Bool.and_eq_true, decide_eq_true_eq] at h; omega
 have hE2 := hE
 simp only [envB, Bool.and_eq_true, decide_eq_true_eq] at hE2
 obtain ⟨⟨he1, hd1⟩, he2⟩ := hE2
 have hst := statesP_fine hn hs
 obtain ⟨st1, st2, st3⟩ := states_still hs
 obtain ⟨v1, v2⟩ := state_w hn hst
 have hrl := hst.len
 have ha : Around n e d := ⟨hn, hdo, hN.origins, he1, he2, hd1⟩
 have hdf : ∀ v : Int, ¬ v.toNat < rs.length → rtAt rs v = default := fun v hv => by simp [rtAt, List.getD, List.getElem?_eq_none (by omega : rs.length ≤ v.toNat)]
 have hvr : ViasR n (rs.map (·.via)) := ⟨by rw [List.length_map]; exact hrl, fun i hi => by
  rw [List.length_map] at hi
  have h1 := (hst.ok i hi).via
  have h2 : (rs.map (·.via)).getD i 0 = (rs.getD i default).via := by simp [List.getD, hi]
  rw [h2]
  have := (hst.ok i hi).via
  omega⟩
 have hlen : (netC n).take 6 = netC n := rfl
 have hlen2 : (netC n).length = 6 := rfl
 have hpt : (propC kd f p w).take 4 = propC kd f p w := rfl
 have hpl4 : (propC kd f p w).length = 4 := rfl
 have p1 : (propC kd f p w)[1]? = some (.int .i64 f) := rfl
 have p2 : (propC kd f p w)[2]? = some (.int .i64 p) := rfl
 have hvd : vdC ⟨false, c, d, e, rs.map (·.via), port⟩ = [.bool false, .int .i64 c, .isl false 1 (bools d), .isl false 1 (ints e), .isl false 1 (ints (rs.map (·.via))), .int .i64 port] := rfl
 have hrs := fun Γ σ => routesOf_ok (Γ := Γ) (σ := σ) (ex := false) (ex2 := false) (ex3 := false) ha hvr
 rw [st3] at hrs
 have hrv : routesV (some rs) = .tup [.isl false 4 (rtsV rs), .bool true] := rfl
 have hvo := vd_one ⟨false, c, d, e, rs.map (·.via), port⟩
 rw [hrv] at hrs
 refine ret_of c13_ok rfl ?_
 simp (disch := omega) only [c13, netV, vdV, go_sem]
 refine SRun.boxR (net_one n) ?_
 intro b4 hb4
 simp (disch := omega) only [go_sem]
 refine SRun.boxR (prop_one kd f p w) ?_
 intro b5 hb5
 have n5 := upd_none.1 hb5
 simp (disch := omega) only [go_sem]
 refine SRun.boxR hvo ?_
 intro b7 hb7
 have n7 := upd_none.1 hb7
 have n7' := upd_none.1 n7.2
 have g7 := upd_same (upd (upd σ b4 (netC n)) b5 (propC kd f p w)) b7 (vdC ⟨false, c, d, e, rs.map (·.via), port⟩)
 have g5 : upd (upd (upd σ b4 (netC n)) b5 (propC kd f p w)) b7 (vdC ⟨false, c, d, e, rs.map (·.via), port⟩) b5 = some (propC kd f p w) := by rw [upd_ne _ _ n7.1.symm, upd_same]
 have g4 : upd (upd (upd σ b4 (netC n)) b5 (propC kd f p w)) b7 (vdC ⟨false, c, d, e, rs.map (·.via), port⟩) b4 = some (netC n) := by rw [upd_ne _ _ n7'.1.symm, upd_ne _ _ n5.1.symm, upd_same]
 have hσ : ∀ z x, σ z = some x → upd (upd (upd σ b4 (netC n)) b5 (propC kd f p w)) b7 (vdC ⟨false, c, d, e, rs.map (·.via), port⟩) z = some x := fun z x h => by
  have k3 : z ≠ b4 := fun e => by subst e; rw [hb4] at h; cases h
  have k4 : z ≠ b5 := fun e => by subst e; rw [n5.2] at h; cases h
  have k6 : z ≠ b7 := fun e => by subst e; rw [n7'.2] at h; cases h
  rw [upd_ne _ _ k6, upd_ne _ _ k4, upd_ne _ _ k3]; exact h
 simp (disch := omega) only [go_sem]
 generalize upd (upd (upd σ b4 (netC n)) b5 (propC kd f p w)) b7 (vdC ⟨false, c, d, e, rs.map (·.via), port⟩) = S at *
 rw [hvd] at g7
 simp (disch := omega) only [g4, hlen, hlen2, go_sem]
 refine SRun.callR (isNet_ok hN) ⟨[], rfl, rfl⟩ rfl ?_
 rw [hB]
 simp (disch := omega) only [g4, g7, hlen, hlen2, go_sem]
 refine SRun.callR (isAround_ok hN (by omega) (by omega)) ⟨[], rfl, rfl⟩ rfl ?_
 rw [hE]
 simp (disch := omega) only [g4, g5, hlen, hlen2, hpt, hpl4, go_sem]
 refine SRun.callR (isProperty_ok hN) ⟨[], rfl, rfl⟩ rfl ?_
 rw [hP]
 simp (disch := omega) only [g7, go_sem]
 refine SRun.callR (within_ok k 0 2) ⟨[], rfl, rfl⟩ rfl ?_
 rw [decide_eq_true (by omega : (0 : Int) ≤ k), decide_eq_true (by omega : (k : Int) ≤ 2)]
 simp (disch := omega) only [Bool.and_self, g4, g7, hlen, hlen2, go_sem]
 refine SRun.callR (areVias_ok hn hvr) ⟨[], rfl, rfl⟩ rfl ?_
 simp (disch := omega) only [g7, go_sem]
 refine SRun.callR (within_ok port 0 15) ⟨[], rfl, rfl⟩ rfl ?_
 rw [decide_eq_true hp.1, decide_eq_true hp.2]
 simp (disch := omega) only [Bool.and_self, g5, p2, go_sem]
 have hdk : decide (((d.count true : Nat) : Int) ≤ k) = true := decide_eq_true (by omega)
 have hC := fun Γ σ => countDown_ok (Γ := Γ) (σ := σ) (ex := false) (xs := d) (by omega)
 have hIS := fun Γ σ => isStable_ok (Γ := Γ) (σ := σ) (ex := false) (ex2 := false) (ex3 := false) (rs := rs) hn hdo hN.origins he1 he2 hd1 hrl (routesO_w hn hvr st3).2
 rw [st2] at hIS
 have hW := fun Γ σ => forwardR (Γ := Γ) (σ := σ) (n := n) (ex := false) (rs := rs) (from_ := f) (port := port) (by omega) (by omega) v1 v2 (by omega) hrl
 have hwl := walk_len hst hfr r4 port
 generalize hwp : walkP n rs f port = wk at *
 obtain ⟨o, path⟩ := wk
 have hwv : walkV (o, path) = .agg [.int .i64 o, .isl false 1 (ints path)] := rfl
 have hS := fun Γ σ => isSatisfied_ok (Γ := Γ) (σ := σ) (kd := kd) (f := f) (p := p) (way := w) (o := o) (ex := false) (path := path) hwl
 rw [hsat] at hS
 by_cases c1 : p = -1
 case' pos =>
  have d1 : (decide ¬ p = -1) = false := decide_eq_false (by omega)
  simp (disch := omega) only [d1, go_sem]
 case' neg =>
  have hpe : p = port := by omega
  have d1 : (decide ¬ p = -1) = true := decide_eq_true c1
  have d2 : (decide ¬ p = port) = false := decide_eq_false (by omega)
  simp (disch := omega) only [d1, g5, g7, p2, d2, go_sem]
 all_goals
  simp (disch := omega) only [g4, g7, hlen, hlen2, go_sem]
  refine SRun.callR (hrs _ _) ⟨[], rfl, rfl⟩ rfl ?_
  simp (disch := omega) only [go_sem]
  refine W_drawW ?_
  simp (disch := omega) only [g7, go_sem]
  refine DRun.mixE rfl ?_
  simp (disch := omega) only [g7, go_sem]
  refine DS.callB (hC _ _) ⟨[], rfl, rfl⟩ rfl rfl ?_
  simp (disch := omega) only [hdk, g4, g7, hlen, hlen2, go_sem]
  refine DRun.callG (hIS _ _) ⟨[], rfl, rfl⟩ rfl ?_
  rintro _ _ ⟨rfl, hs'⟩
  obtain rfl := hs'.symm
  simp (disch := omega) only [go_sem]
  refine DRun.mixE rfl ?_
  simp (disch := omega) only [g4, g5, g7, hlen, hlen2, hpt, hpl4, p1, go_sem]
  refine DS.callB (hW _ _) ⟨[], rfl, rfl⟩ rfl rfl ?_
  rw [hwv]
  simp (disch := omega) only [go_sem]
  refine DRun.callG (hS _ _) ⟨[], rfl, rfl⟩ rfl ?_
  rintro _ _ ⟨rfl, hs'⟩
  obtain rfl := hs'.symm
  simp (disch := omega) only [go_sem]
  exact W_retC c13_ok rfl (Conv.drop _ hσ) ⟨rfl, rfl⟩
end
section
attribute [local irreducible] SRun DS DRun
variable {Γ : St} {σ σ0 : St}
theorem PropertyOK_ok {n : Net} (hn : NetLen n) {kd f p w : Int} : Ret Tryz.prog Γ 12 [netV n, .agg (propC kd f p w)] σ (.bool (propB n kd f p w)) σ := by
 have hlen : (netC n).take 6 = netC n := rfl
 have hlen2 : (netC n).length = 6 := rfl
 have plen : (propC kd f p w).take 4 = propC kd f p w := rfl
 have plen2 : (propC kd f p w).length = 4 := rfl
 refine ret_of c12_ok rfl ?_
 simp (disch := omega) only [c12, netV, go_sem]
 refine SRun.boxR (net_one n) ?_
 intro b1 hb1
 have g1 := upd_same σ b1 (netC n)
 have hσ : ∀ d y, σ d = some y → upd σ b1 (netC n) d = some y := le_upd hb1
 simp (disch := omega) only [go_sem]
 generalize upd σ b1 (netC n) = s1 at *
 refine SRun.boxR (prop_one kd f p w) ?_
 intro b2 hb2
 have f1 := le_upd (cs := propC kd f p w) hb2 _ _ g1
 have f2 := upd_same s1 b2 (propC kd f p w)
 have hσ2 : ∀ d y, σ d = some y → upd s1 b2 (propC kd f p w) d = some y := fun d y h => le_upd hb2 _ _ (hσ d y h)
 simp (disch := omega) only [go_sem]
 generalize upd s1 b2 (propC kd f p w) = s2 at *
 simp (disch := omega) only [f1, f2, hlen, hlen2, plen, plen2, go_sem]
 refine SRun.callR (isProperty_ok hn) ⟨[], rfl, rfl⟩ rfl ?_
 simp (disch := omega) only [go_sem]
 exact W_retC c12_ok rfl (Conv.drop _ hσ2) ⟨rfl, rfl⟩
theorem around_of {n : Net} {k : Nat} {d : List Bool} {e : List Int} (hd : d ∈ downsP n.links.length k) (he : e ∈ envsP n.externals.length) : envB n e d = true := by
 obtain ⟨h1, h2⟩ := envs_fine he
 unfold envB
 rw [decide_eq_true h1, decide_eq_true (downs_len hd), h2]; rfl
set_option maxHeartbeats 2000000 in
theorem fnVerdicts_ok {ex ex2 : Bool} {code more : List UInt8} (hl1 : code.length ≤ 140737488355328) (hl2 : more.length ≤ 140737488355328) : Ret Tryz.prog Γ 3 [codeV ex code, codeV ex2 more] σ (.bool true) σ := by
 refine ret_of c3_ok rfl ?_
 simp (disch := omega) only [c3, codeV, go_sem]
 first | refine guardW_dec (fun h => ?_) (fun h => ?_) | refine guardW_by (fun h => ?_) (fun h => ?_)
 ·simp (disch := omega) only [go_sem]
  refine W_retR c3_ok rfl ⟨?_, rfl⟩
  simp only [look, ev, V.bool.injEq, V.int.injEq, V.str.injEq, V.tup.injEq, V.agg.injEq, V.isl.injEq, List.cons.injEq, true_and, and_true, Nat.reduceEqDiff, Nat.reduceAdd, Nat.reduceSub, Nat.reduceMul, Nat.reducePow, Nat.reduceDiv, Nat.reduceMod, Int.reduceToNat, Nat.reduceLeDiff, Nat.reduceLT, Int.reduceEq, Int.reduceLT, Int.reduceLE, Int.reduceGT, Int.reduceGE, Int.reduceNeg, Int.reduceSub, Int.reduceAdd, Int.reduceMul, Int.reducePow, ne_eq, reduceCtorEq, ↓reduceIte]
 simp (disch := omega) only [go_sem]
 first | refine iteW_dec (fun h2 => ?_) (fun h2 => ?_) | refine iteW_of (fun h2 => ?_) (fun h2 => ?_)
 ·simp (disch := omega) only [go_sem]
  refine W_retR c3_ok rfl ⟨?_, rfl⟩
  simp only [look, ev, V.bool.injEq, V.int.injEq, V.str.injEq, V.tup.injEq, V.agg.injEq, V.isl.injEq, List.cons.injEq, true_and, and_true, Nat.reduceEqDiff, Nat.reduceAdd, Nat.reduceSub, Nat.reduceMul, Nat.reducePow, Nat.reduceDiv, Nat.reduceMod, Int.reduceToNat, Nat.reduceLeDiff, Nat.reduceLT, Int.reduceEq, Int.reduceLT, Int.reduceLE, Int.reduceGT, Int.reduceGE, Int.reduceNeg, Int.reduceSub, Int.reduceAdd, Int.reduceMul, Int.reducePow, ne_eq, reduceCtorEq, ↓reduceIte]
 simp (disch := omega) only [go_sem]
 refine SRun.callQ (NetOf_ok (ex := ex) (code := code) hl1) ⟨[], rfl, rfl⟩ rfl ?_
 rintro r s ⟨n, hB, hN, hos, rfl, hs⟩
 obtain rfl := hs.symm
 have hR := netR_of hB
 have r1 := hR.r1
 have r4 := hR.r4
 have l6 := hR.l6
 have x2 := hR.x2
 have hlen : (netC n).take 6 = netC n := rfl
 have hlen2 : (netC n).length = 6 := rfl
 have hone : (∀ c, c ∈ netC n → c.one = true) = True := eq_true (net_one n)
 have hsets : sets [V.isl true 0 [], V.isl true 0 [], V.isl true 0 [], V.isl true 0 [], V.isl true 0 [], V.isl true 0 []] 0 (netC n) = netC n := rfl
 have hnc : netV n = .agg (netC n) := rfl
 have e1 : (netC n)[1]? = some (.isl false 3 (linksV n.links)) := rfl
 rw [hnc]
 simp (disch := omega) only [go_sem]
 refine SRun.allocR ?_
 intro b5 hb5
 simp (disch := omega) only [hlen2, hone, hsets, go_sem]
 have g5 := upd_same σ b5 (netC n)
 have hσ : ∀ d x, σ d = some x → upd σ b5 (netC n) d = some x := le_upd hb5
 generalize upd σ b5 (netC n) = s1 at *
 simp (disch := omega) only [g5, hlen, hlen2, go_sem]
 refine SRun.callQ (PropertyOf_ok (ex := ex2) (code := more) hl2 hB) ⟨[], rfl, rfl⟩ rfl ?_
 rintro r s ⟨kd, f, p, w, hP, rfl, hs⟩
 obtain rfl := hs.symm
 have hpl : (propC kd f p w).length = 4 := rfl
 have hpt : (propC kd f p w).take 4 = propC kd f p w := rfl
 have p1 : (propC kd f p w)[1]? = some (.int .i64 f) := rfl
 have p2 : (propC kd f p w)[2]? = some (.int .i64 p) := rfl
 have hp1 : (∀ c, c ∈ propC kd f p w → c.one = true) = True := eq_true (by
  intro c hc
  simp only [propC, List.mem_cons, List.not_mem_nil, or_false] at hc
  rcases hc with rfl | rfl | rfl | rfl <;> rfl)
 have hps : sets [V.int .i64 0, .int .i64 0, .int .i64 0, .int .i64 0] 0 (propC kd f p w) = propC kd f p w := rfl
 have hP2 := hP
 unfold propB at hP2
 simp only [Bool.and_eq_true] at hP2
 have hfr : 0 ≤ f ∧ f < n.routers.length := by
  have h := hP2.1.1.2
  simp only [routerB, Bool.and_eq_true, decide_eq_true_eq] at h; omega
 have hp15 : -1 ≤ p ∧ p ≤ 15 := by
  have h := hP2.1.2
  simp only [inB, Bool.and_eq_true, decide_eq_true_eq] at h; omega
 simp (disch := omega) only [go_sem]
 refine SRun.allocR ?_
 intro b6 hb6
 simp (disch := omega) only [hpl, hp1, hps, go_sem]
 have k5 := le_upd (cs := propC kd f p w) hb6 _ _ g5
 have k6 := upd_same s1 b6 (propC kd f p w)
 have hσ2 : ∀ d x, σ d = some x → upd s1 b6 (propC kd f p w) d = some x := fun d x h => le_upd hb6 _ _ (hσ _ _ h)
 generalize upd s1 b6 (propC kd f p w) = s2 at *
 refine SRun.callQ (at_any (ex := ex2) (code := more) (i := 0) (n := 2) hl2 (by omega) (by omega)) ⟨[], rfl, rfl⟩ rfl ?_
 rintro r sx ⟨ki, ki0, ki1, rfl, hs⟩
 obtain rfl := hs.symm
 obtain ⟨k, rfl⟩ : ∃ m : Nat, ki = m := ⟨ki.toNat, by omega⟩
 obtain ⟨c1, a1⟩ := ver_fine (k := k) hP (by omega)
 have V1 := fun Γ σ => Verify_ok (Γ := Γ) (σ := σ) (n := n) (kd := kd) (f := f) (p := p) (w := w) (k := (k : Int)) hN
 have V2 := fun Γ σ => Verifys_ok (Γ := Γ) (σ := σ) (n := n) (kd := kd) (f := f) (p := p) (w := w) (k := k) hN hP (by omega)
 rw [c1, a1] at V1
 obtain ⟨z0, z1, z2⟩ := ver_small hR (fail := failP n kd f p w) (k := k)
 have hvl : ∀ v, (vdC v).length = 6 := fun _ => rfl
 have hvt : ∀ v, (vdC v).take 6 = vdC v := fun _ => rfl
 have hvo : ∀ v, (∀ c, c ∈ vdC v → c.one = true) = True := fun v => eq_true (vd_one v)
 have hvs : ∀ v, sets [V.bool false, .int .i64 0, .isl true 0 [], .isl true 0 [], .isl true 0 [], .int .i64 0] 0 (vdC v) = vdC v := fun _ => rfl
 have hvv : ∀ v, vdV v = .agg (vdC v) := fun _ => rfl
 have hv0 : ∀ v, (vdC v)[0]? = some (.bool v.holds) := fun _ => rfl
 have hS := fun Γ σ => sameVerdict_self (Γ := Γ) (σ := σ) (v := verP n (failP n kd f p w) k) z0 z1 z2
 have hvt1 := verGo_true (fail := failP n kd f p w) (itemsP n (downsP n.links.length k)) 0
 have hvf1 := verGo_false (fail := failP n kd f p w) (itemsP n (downsP n.links.length k)) 0
 have hVd : verGo (failP n kd f p w) (itemsP n (downsP n.links.length k)) 0 = verP n (failP n kd f p w) k := rfl
 rw [hVd] at hvt1 hvf1
 generalize verP n (failP n kd f p w) k = vb at *
 simp (disch := omega) only [k5, k6, hlen, hlen2, hpl, hpt, go_sem]
 refine SRun.callR (V1 _ _) ⟨[], rfl, rfl⟩ rfl ?_
 rw [hvv] at *
 simp (disch := omega) only [go_sem]
 refine SRun.allocR ?_
 intro b8 hb8
 simp (disch := omega) only [hvl, hvo, hvs, go_sem]
 have j5 := le_upd (cs := vdC vb) hb8 _ _ k5
 have j6 := le_upd (cs := vdC vb) hb8 _ _ k6
 have j8 := upd_same s2 b8 (vdC vb)
 have hσ3 : ∀ d x, σ d = some x → upd s2 b8 (vdC vb) d = some x := fun d x h => le_upd hb8 _ _ (hσ2 _ _ h)
 generalize upd s2 b8 (vdC vb) = s3 at *
 simp (disch := omega) only [j5, j6, hlen, hlen2, hpl, hpt, go_sem]
 refine SRun.callR (V2 _ _) ⟨[], rfl, rfl⟩ rfl ?_
 simp (disch := omega) only [go_sem]
 refine SRun.allocR ?_
 intro b10 hb10
 simp (disch := omega) only [hvl, hvo, hvs, go_sem]
 have m5 := le_upd (cs := vdC vb) hb10 _ _ j5
 have m6 := le_upd (cs := vdC vb) hb10 _ _ j6
 have m8 := le_upd (cs := vdC vb) hb10 _ _ j8
 have m10 := upd_same s3 b10 (vdC vb)
 have hσ5 : ∀ d x, σ d = some x → upd s3 b10 (vdC vb) d = some x := fun d x h => le_upd hb10 _ _ (hσ3 _ _ h)
 generalize upd s3 b10 (vdC vb) = s5 at *
 simp (disch := omega) only [m8, m10, hvl, hvt, go_sem]
 refine SRun.callR (hS _ _) ⟨[], rfl, rfl⟩ rfl ?_
 simp (disch := omega) only [m5, m6, hlen, hlen2, hpl, hpt, go_sem]
 refine SRun.callR (PropertyOK_ok hN) ⟨[], rfl, rfl⟩ rfl ?_
 rw [hP]
 simp (disch := omega) only [m8, hv0, go_sem]
 cases ha : vb.holds with
 | false =>
  obtain ⟨⟨d, e, rs⟩, hx, port, c', hf, he⟩ := hvf1 ha
  dsimp only at hf he
  simp only [itemsP, List.mem_flatMap, List.mem_map, Prod.mk.injEq] at hx
  obtain ⟨d', hd, e', hee, rs', hrs, rfl, rfl, rfl⟩ := hx
  obtain ⟨q1, q2, q3⟩ := failP_some hf
  have hRT := fun Γ σ => Replay_true (Γ := Γ) (σ := σ) (c := c') hN hP (by omega : k ≤ 2) (around_of hd hee) hrs (downs_count hd) q1 q2 q3
  rw [← he, hvv] at hRT
  simp (disch := omega) only [m5, m6, m8, hlen, hlen2, hpl, hpt, hvl, hvt, go_sem]
  refine SRun.callR (hRT _ _) ⟨[], rfl, rfl⟩ rfl ?_
  simp (disch := omega) only [go_sem]
  exact W_retC c3_ok rfl (Conv.drop _ hσ5) ⟨rfl, rfl⟩
 | true =>
  have hall := hvt1 ha
  simp (disch := omega) only [m5, hlen, hlen2, go_sem]
  refine SRun.callQ (EnvOf_ok (ex := ex2) (code := more) hl2 hR) ⟨[], rfl, rfl⟩ rfl ?_
  rintro r s ⟨env, he1, he2, rfl, hs⟩
  obtain rfl := hs.symm
  simp (disch := omega) only [m5, e1, go_sem]
  refine SRun.mkslR (n' := n.links.length) (m := n.links.length) rfl rfl rfl (Nat.le_refl _) (by omega) (by omega) ?_
  intro b15 hb15
  rw [bools_rep]
  have hnd := none_down n.links.length (by omega) k (by omega)
  have hod := one_down n.links.length (by omega)
  have hll : (List.replicate n.links.length false).length = n.links.length := List.length_replicate
  have hlv := fun X => le_upd (cs := X) hb15 _ _ m5
  generalize hdd : List.replicate n.links.length false = dd at *
  have gdd := upd_same s5 b15 (bools dd)
  by_cases c2 : k = 1
  case' neg =>
   have d2 : decide ((k : Int) = 1) = false := decide_eq_false (by omega)
   simp (disch := omega) only [d2, hlv, go_sem]
  case' pos =>
   have d2 : decide ((k : Int) = 1) = true := decide_eq_true (by omega)
   by_cases c3 : n.links.length = 0
   case' pos =>
    have d3 : decide ((n.links.length : Int) > 0) = false := decide_eq_false (by omega)
    simp (disch := omega) only [d2, d3, hlv, go_sem]
   case' neg =>
    have d3 : decide ((n.links.length : Int) > 0) = true := decide_eq_true (by omega)
    simp (disch := omega) only [d2, d3, hlv, go_sem]
    refine SRun.callQ (at_any (ex := ex2) (code := more) (i := 1) (n := n.links.length) hl2 (by omega) (by omega)) ⟨[], rfl, rfl⟩ rfl ?_
    rintro r sx ⟨ji, ji0, ji1, rfl, hs⟩
    obtain rfl := hs.symm
    obtain ⟨j, rfl⟩ : ∃ m : Nat, ji = m := ⟨ji.toNat, by omega⟩
    simp (disch := omega) only [gdd, bools_len, hll, go_sem]
    rw [bools_set]
    have hnd2 := hod j (by omega)
    rw [← c2] at hnd2
    have hll2 : (dd.set j true).length = n.links.length := by rw [List.length_set]; exact hll
    clear gdd hnd hod hll hdd
    have hnd := hnd2
    have hll := hll2
    clear hnd2 hll2
    generalize dd.set j true = dd at *
    have gdd := upd_same s5 b15 (bools dd)
    simp (disch := omega) only [hlv, go_sem]
  all_goals
   have hE : envB n env dd = true := by unfold envB; rw [decide_eq_true he1, decide_eq_true hll, he2]; rfl
   have hsf : ∀ rs ∈ statesP n env dd, StateR n dd rs ∧ failP n kd f p w rs = none := fun rs h => ⟨statesP_fine hR h, hall (dd, env, rs) (by
    simp only [itemsP, List.mem_flatMap, List.mem_map, Prod.mk.injEq]
    exact ⟨dd, hnd, env, envs_all he1 he2, rs, h, rfl, rfl, rfl⟩)⟩
   have hfz : Frz (upd s5 b15 (bools dd)) s5 (.msl b15 1 0 n.links.length n.links.length) (.isl false 1 (bools dd)) := frz_row gdd hb15 (by rw [bools_len]; exact hll) (fun x hx => by obtain ⟨y, _, rfl⟩ := List.mem_map.1 hx; rfl)
   simp (disch := omega) only [hlv, hlen, hlen2, go_sem]
   refine SRun.freeze (σ' := s5) (T' := [(1, codeV ex2 more), (5, .ptr b5 0), (6, .ptr b6 0), (15, .isl false 1 (bools dd)), (104, .agg (netC n)), (105, .isl false 1 (ints env)), (106, .isl false 1 (bools dd))]) (le_upd hb15) (by exact ⟨.refl _, .refl _, .refl _, hfz, .refl _, .refl _, hfz, trivial⟩) ?_
   refine SRun.callR (StableStatess_ok (ex := false) (ex2 := false) hN hB hE) ⟨[], rfl, rfl⟩ rfl ?_
   have hsl := statesP_len2 (env := env) (down := dd) hR
   generalize statesP n env dd = ss at *
   simp (disch := omega) only [go_sem]
   refine W_loopC (α := Nat × St) (fun q => q.1 ≤ ss.length ∧ ∀ d x, s5 d = some x → q.2 d = some x) (fun q => [(1, codeV ex2 more), (5, .ptr b5 0), (6, .ptr b6 0), (15, .isl false 1 (bools dd)), (16, .isl false 1 (staV ss)), (18, .int .i64 (q.1 : Nat))]) (fun q => q.2) (fun q => ss.length - q.1) (0, s5) ⟨by simp, fun _ _ h => h⟩ (by simp (disch := omega) only [subT, Int.natCast_add, Int.cast_ofNat_Int, codeV, go_sem] <;> (repeat' apply And.intro) <;> first | rfl | (congr 1; omega) | assumption) rfl ?_
   rintro ⟨i, s⟩ ⟨hi, hle⟩ ih
   dsimp only at hi hle
   have q5 := hle _ _ m5
   have q6 := hle _ _ m6
   simp (disch := omega) only [go_sem]
   first | refine iteW_dec (fun h3 => ?_) (fun h3 => ?_) | refine iteW_of (fun h3 => ?_) (fun h3 => ?_)
   ·obtain ⟨hst, hfn⟩ := hsf _ (getD_mem [] (by omega : i < ss.length))
    simp (disch := omega) only [go_sem]
    refine SRun.callQ (at_any (ex := ex2) (code := more) (i := (i : Nat)) (n := 16) hl2 (by omega) (by omega)) ⟨[], rfl, rfl⟩ rfl ?_
    rintro r sx ⟨port0, p0, p1', rfl, hs⟩
    obtain rfl := hs.symm
    simp (disch := omega) only [q6, p2, go_sem]
    refine iteW_join (fun T s' => ∃ port, ((0 ≤ port ∧ port ≤ 15) ∧ (p < 0 ∨ p = port)) ∧ s' = s ∧ look T 1 = codeV ex2 more ∧ look T 5 = .ptr b5 0 ∧ look T 6 = .ptr b6 0 ∧ look T 15 = .isl false 1 (bools dd) ∧ look T 16 = .isl false 1 (staV ss) ∧ look T 18 = .int .i64 (i : Nat) ∧ look T 19 = .int .i64 port) (fun k' key => ?_) ?_
    ·by_cases c4 : p ≥ 0
     ·have d4 : decide (p ≥ 0) = true := decide_eq_true c4
      simp (disch := omega) only [d4, q6, p2, go_sem]
      exact key _ _ ⟨p, ⟨by omega, .inr rfl⟩, rfl, rfl, rfl, rfl, rfl, rfl, rfl, rfl⟩
     ·have d4 : decide (p ≥ 0) = false := decide_eq_false c4
      simp (disch := omega) only [d4, q6, p2, go_sem]
      exact key _ _ ⟨port0, ⟨by omega, .inl (by omega)⟩, rfl, rfl, rfl, rfl, rfl, rfl, rfl, rfl⟩
    clear p0 p1' port0
    rintro T s' ⟨port, ⟨hp0, hpp⟩, hs', k1, k5, k6, k15, k16, k18, k19⟩
    obtain rfl := hs'.symm
    simp (disch := omega) only [go_sem]
    obtain ⟨hc0, hA⟩ := fwd_fine (port := port) hB hst hll hfr hp0
    have hlen3 := hst.len
    have F2 := fun Γ σ => Forwards_ok (Γ := Γ) (σ := σ) (ex := false) (ex2 := false) (down := dd) (rs := ss.getD i []) (from_ := f) (port := port) hN (by omega) (by omega)
    have hFV : fwdV n dd (ss.getD i []) f port = .tup [.agg [.int .i64 (walkP n (ss.getD i []) f port).1, .isl false 1 (ints (walkP n (ss.getD i []) f port).2)], .int .i64 0] := by
     unfold fwdV walkV; rw [hc0, hA]
    rw [hFV] at F2
    have hsat := failP_none hfn hp0 hpp
    have hwl := walk_len hst hfr r4 port
    have w7 : 1 ≤ (walkP n (ss.getD i []) f port).1 ∧ (walkP n (ss.getD i []) f port).1 ≤ 4 := by
     obtain ⟨fr, hfe⟩ : ∃ k : Nat, f = k := ⟨f.toNat, by omega⟩
     obtain ⟨w1, w2, w3, w4, w5, lv, w6, w7, w8⟩ := walkGo_ok hst (port := port) (ss.getD i []).length fr [(fr : Int)] (by omega) (hst.ends fr (by omega)) (by simp) (by simp) (fun x hx => by rw [List.mem_singleton.1 hx]; omega) (by simp)
     have hwd : walkP n (ss.getD i []) fr port = walkGo n (ss.getD i []) port (ss.getD i []).length fr [(fr : Int)] := rfl
     rw [hfe, hwd]; exact w7
    clear hFV hc0 hA
    generalize hrs : ss.getD i [] = rs at *
    generalize hw : walkP n rs f port = wk at *
    obtain ⟨o, path⟩ := wk
    dsimp only at F2 w7 hwl
    rw [W_draw]
    refine DRun.start (DRun.mixNR (fun T s' => ∃ b20, s b20 = none ∧ s' = upd emp b20 [.int .i64 o, .isl false 1 (ints path)] ∧ look T 1 = codeV ex2 more ∧ look T 5 = .ptr b5 0 ∧ look T 6 = .ptr b6 0 ∧ look T 15 = .isl false 1 (bools dd) ∧ look T 16 = .isl false 1 (staV ss) ∧ look T 18 = .int .i64 (i : Nat) ∧ look T 20 = .ptr b20 0 ∧ look T 136 = .int .i64 0) rfl ?_ ?_)
    ·simp (disch := omega) only [q5, q6, hlen, hlen2, hrs, k1, k5, k6, k15, k16, k18, k19, p1, go_sem]
     refine DS.wr2 (WrF.call (F2 _ _) ⟨[], rfl, rfl⟩) rfl ?_ ?_
     ·rintro r sx ⟨rfl, hs'⟩ hd
      obtain rfl := hs'.symm
      simp (disch := omega) only [go_sem]
      refine DS.wrQ WrF.alloc rfl ?_
      rintro _ s3 ⟨b20, hb20, rfl, rfl⟩ hd2
      simp (disch := omega) only [go_sem]
      refine DS.wrQ (WrF.store rfl (upd_same _ b20 _) rfl (by simp [ev, look, V.cells, V.one]) (by simp)) rfl ?_
      rintro _ s4 ⟨_, rfl⟩ hd3
      rw [upd_upd]
      refine ⟨b20, disj_new hd2, rfl, ?_⟩
      (repeat' apply And.intro) <;> first | rfl | assumption
     ·refine DS.wrQ WrF.alloc rfl ?_
      rintro _ s3 ⟨b20, hb20, rfl, rfl⟩ hd2
      simp (disch := omega) only [go_sem]
      refine DS.wrQ (WrF.call (F2 _ _) ⟨[], rfl, rfl⟩) rfl ?_
      rintro r sx ⟨rfl, hs'⟩ hd
      obtain rfl := hs'.symm
      simp (disch := omega) only [go_sem]
      refine DS.wrQ (WrF.store rfl (upd_same _ b20 _) rfl (by simp [ev, look, V.cells, V.one]) (by simp)) rfl ?_
      rintro _ s4 ⟨_, rfl⟩ hd3
      rw [upd_upd]
      refine ⟨b20, disj_new hd2, rfl, ?_⟩
      (repeat' apply And.intro) <;> first | rfl | assumption
    clear k1 k5 k6 k15 k16 k18 k19 T
    rintro T sx ⟨b20, hb20, rfl, k1, k5, k6, k15, k16, k18, k20, k136⟩
    rw [cup_new]
    have g20 := upd_same s b20 [.int .i64 o, .isl false 1 (ints path)]
    have u5 := le_upd (cs := [.int .i64 o, .isl false 1 (ints path)]) hb20 _ _ q5
    have u6 := le_upd (cs := [.int .i64 o, .isl false 1 (ints path)]) hb20 _ _ q6
    have hle2 : ∀ d x, s5 d = some x → upd s b20 [.int .i64 o, .isl false 1 (ints path)] d = some x := fun d x h => le_upd hb20 _ _ (hle _ _ h)
    generalize upd s b20 [.int .i64 o, .isl false 1 (ints path)] = s3 at *
    have S1 := fun Γ σ => Satisfied_ok (Γ := Γ) (σ := σ) (n := n) (kd := kd) (f := f) (p := p) (way := w) (o := o) (ex := false) (path := path) hN hP w7 hwl
    rw [hsat] at S1
    simp (disch := omega) only [k136, k5, k6, k20, u5, u6, g20, hlen, hlen2, hpl, hpt, go_sem]
    refine SRun.callR (S1 _ _) ⟨[], rfl, rfl⟩ rfl ?_
    simp (disch := omega) only [k18, go_sem]
    exact ih (i + 1, s3) _ _ ⟨by simp only; omega, hle2⟩ (by simp only; omega) (by simp (disch := omega) only [subT, Int.natCast_add, Int.cast_ofNat_Int, k1, k5, k6, k15, k16, k18, codeV, go_sem] <;> (repeat' apply And.intro) <;> first | rfl | (congr 1; omega) | assumption) rfl
   ·simp (disch := omega) only [go_sem]
    exact W_retC c3_ok rfl (Conv.drop _ fun d x h => hle _ _ (hσ5 _ _ h)) ⟨rfl, rfl⟩
end
end Go.Proofs.YtabelcohkpmpnaaGreat.Lg
