/- Routes, the program's: what a router could have, the best, whether a state is stable. -/
import Derived.Test.YtabelcohkpmpnaaWu
set_option linter.unusedSimpArgs false
set_option linter.unusedVariables false
namespace Go.Proofs.Ytabelcohkpmpnaa.Lg
open Go
attribute [local irreducible] SRun DS DRun
variable {Γ : St} {σ σ0 : St}
theorem own_len (n : Net) (r : Int) : (ownL n r).length ≤ 1 := by unfold ownL; split <;> simp
theorem out_len (n : Net) (r : Int) (env : List Int) : (outL n r env).length ≤ 1 := by unfold outL; split <;> simp
theorem near_len {n : Net} (hn : n.routers.length ≤ 4) (r : Int) (down : List Bool) : (nearP n r down).length ≤ 4 := by
  simp only [nearP, List.length_map]
  have := List.length_filter_le (nearB n r down) (List.range n.routers.length)
  rw [List.length_range] at this; omega
theorem cand_len {n : Net} (hn : n.routers.length ≤ 4) (r : Int) (env : List Int) (down : List Bool) (rs : List Rt) : (candP n r env down rs).length ≤ 6 := by
  have h1 := own_len n r
  have h2 := out_len n r env
  have h3 := near_len hn r down
  have h4 := List.length_filterMap_le (viaO n r rs) (nearP n r down)
  simp only [candP, List.length_append]; omega
set_option maxHeartbeats 1000000 in
theorem candidates_own {n : Net} {ex ex2 ex3 : Bool} {env : List Int} {down : List Bool} {rs : List Rt} {router : Int} (hn : NetR n) (hdo : ∀ x ∈ n.imports, 1 ≤ x.do_ ∧ x.do_ ≤ 4) (ho : n.origins.length ≤ 1000000000000) (he : env.length = n.externals.length) (hE : (env.all fun x => inB x 0 2) = true) (hd : down.length = n.links.length) (hl : rs.length = n.routers.length) (hr : RtsW rs) (h0 : 0 ≤ router) :
    ACalls Try.prog Γ 99 [netV n, .int .i64 router, .isl ex 1 (ints env), .isl ex2 1 (bools down), .isl ex3 4 (rtsV rs)] σ fun q s => OwnL σ 4 (rtsV (candP n router env down rs)) q s := by
  have r4 := hn.r4
  have l6 := hn.l6
  have i12 := hn.i12
  have x2 := hn.x2
  have hlen : (netC n).take 6 = netC n := rfl
  have hlen2 : (netC n).length = 6 := rfl
  have hrt4 : ∀ r : Rt, (rtC r).take 4 = rtC r := fun _ => rfl
  have hrt5 : ∀ r : Rt, (rtC r).length = 4 := fun _ => rfl
  have hone : ∀ r : Rt, (∀ c, c ∈ rtC r → c.one = true) = True := fun r => eq_true (rt_one r)
  have hsets : ∀ r : Rt, sets [V.int .i64 0, .int .i64 0, .int .i64 0, .bool false] 0 (rtC r) = rtC r := fun _ => rfl
  refine acalls_W c99_ok rfl ?_
  simp (disch := omega) only [c99, netV, go_sem, ↓if_pos, ne_eq, ↓reduceIte]
  refine SRun.boxR (net_one n) ?_
  intro b5 hb5
  have g5 := upd_same σ b5 (netC n)
  have hσ : ∀ d x, σ d = some x → upd σ b5 (netC n) d = some x := le_upd hb5
  simp (disch := omega) only [go_sem, ↓if_pos, ne_eq, ↓reduceIte]
  generalize upd σ b5 (netC n) = s1 at *
  simp (disch := omega) only [g5, hlen, hlen2, go_sem, ↓if_pos, ne_eq, ↓reduceIte]
  refine SRun.callR (ownRoute_ok ho) ⟨[], rfl, rfl⟩ rfl ?_
  simp (disch := omega) only [go_sem, ↓if_pos, ne_eq, ↓reduceIte]
  refine SRun.allocR ?_
  intro b12 hb12
  have g52 := fun z => le_upd (cs := z) hb12 _ _ g5
  simp (disch := omega) only [hone, hsets, hrt5, go_sem, ↓if_pos, ne_eq, ↓reduceIte]
  have g12 := upd_same s1 b12 (rtC ownR)
  have hσ2 : ∀ d x, σ d = some x → upd s1 b12 (rtC ownR) d = some x := fun d x h => le_upd hb12 _ _ (hσ _ _ h)
  have g53 := g52 (rtC ownR)
  generalize upd s1 b12 (rtC ownR) = s2 at *
  refine iteW_join (fun T s => ∃ q, OwnL s2 4 (rtsV (ownL n router)) q s ∧ look T 1 = .int .i64 router ∧ look T 2 = .isl ex 1 (ints env) ∧ look T 3 = .isl ex2 1 (bools down) ∧ look T 4 = .isl ex3 4 (rtsV rs) ∧ look T 5 = .ptr b5 0 ∧ look T 11 = q) (fun k' key => ?_) ?_
  · by_cases h1 : 0 ≤ hasI n.origins router
    · have hd1 : decide (0 ≤ hasI n.origins router) = true := decide_eq_true h1
      simp (disch := omega) only [hd1, g12, hrt4, hrt5, hone, true_and, go_sem, ↓if_pos, ne_eq, ↓reduceIte]
      refine SRun.appL (OwnL.nil _ 0) rfl (rt1_ok ownR) (by simp) ?_
      intro q s ho1
      simp (disch := omega) only [go_sem, ↓if_pos, ne_eq, ↓reduceIte]
      refine key _ _ ⟨q, ?_, rfl, rfl, rfl, rfl, rfl, rfl⟩
      unfold ownL; rw [if_pos h1]; exact ho1
    · have hd1 : decide (0 ≤ hasI n.origins router) = false := decide_eq_false h1
      simp (disch := omega) only [hd1, go_sem, ↓if_pos, ne_eq, ↓reduceIte]
      refine key _ _ ⟨_, ?_, rfl, rfl, rfl, rfl, rfl, rfl⟩
      unfold ownL; rw [if_neg h1]; exact OwnL.nil _ 0
  rintro T s ⟨q, ho1, k1, k2, k3, k4, k5, k11⟩
  simp (disch := omega) only [ho1.get g53, hlen, hlen2, k1, k2, k3, k4, k5, go_sem, ↓if_pos, ne_eq, ↓reduceIte]
  refine SRun.callR (outRoute_ok (ex := ex) (env := env) (r := router) (by omega) he hE) ⟨[], rfl, rfl⟩ rfl ?_
  simp (disch := omega) only [go_sem, ↓if_pos, ne_eq, ↓reduceIte]
  refine SRun.allocR ?_
  intro b14 hb14
  have hb14' : s2 b14 = none := by
    cases e : s2 b14 with
    | none => rfl
    | some c => rw [ho1.get e] at hb14; cases hb14
  have ho2 := ho1.ext (z := rtC (outR n router env)) hb14
  have g54 := le_upd (cs := rtC (outR n router env)) hb14' _ _ g53
  have hσ3 : ∀ d x, σ d = some x → upd s2 b14 (rtC (outR n router env)) d = some x := fun d x h => le_upd hb14' _ _ (hσ2 _ _ h)
  have g14 := upd_same s2 b14 (rtC (outR n router env))
  simp (disch := omega) only [hone, hsets, hrt5, go_sem, ↓if_pos, ne_eq, ↓reduceIte]
  generalize upd s2 b14 (rtC (outR n router env)) = s3 at *
  generalize upd s b14 (rtC (outR n router env)) = s4 at *
  have hol : outL n router env = if outB n router env then [⟨-1, 100, 2, decide (env.getD (hasI n.externals router).toNat 0 = 2)⟩] else [] := rfl
  have hor : outR n router env = if outB n router env then ⟨-1, 100, 2, decide (env.getD (hasI n.externals router).toNat 0 = 2)⟩ else ⟨0, 0, 0, false⟩ := rfl
  refine iteW_join (fun T s => ∃ q, OwnL s3 4 (rtsV (ownL n router ++ outL n router env)) q s ∧ look T 1 = .int .i64 router ∧ look T 3 = .isl ex2 1 (bools down) ∧ look T 4 = .isl ex3 4 (rtsV rs) ∧ look T 5 = .ptr b5 0 ∧ look T 11 = q) (fun k' key => ?_) ?_
  · have hw := own_len n router
    cases hob : outB n router env with
    | true =>
      rw [hob, if_pos rfl] at hol hor
      rw [hol] at key
      rw [hor] at g14
      simp (disch := omega) only [k11, ho2.get g14, hrt4, hrt5, go_sem, ↓if_pos, ne_eq, ↓reduceIte]
      refine ⟨rt_one ⟨-1, 100, 2, _⟩, ?_⟩
      refine SRun.appL ho2 rfl (rt1_ok ⟨-1, 100, 2, decide (env.getD (hasI n.externals router).toNat 0 = 2)⟩) (by rw [rtsV_len]; simp only [List.length_singleton]; omega) ?_
      intro q2 s5 ho3
      rw [rts_app] at ho3
      simp (disch := omega) only [go_sem, ↓if_pos, ne_eq, ↓reduceIte]
      exact key _ _ ⟨q2, ho3, k1, k3, k4, k5, rfl⟩
    | false =>
      rw [hob] at hol
      have hol2 : outL n router env = [] := hol
      rw [hol2, List.append_nil] at key
      simp (disch := omega) only [go_sem, ↓if_pos, ne_eq, ↓reduceIte]
      exact key _ _ ⟨q, ho2, k1, k3, k4, k5, k11⟩
  clear k1 k2 k3 k4 k5 k11 ho1 ho2 hol hor T
  rintro T s ⟨q, ho1, k1, k3, k4, k5, k11⟩
  have hcand : candP n router env down rs = ownL n router ++ outL n router env ++ (nearP n router down).filterMap (viaO n router rs) := rfl
  have g5' := ho1.get g54
  simp (disch := omega) only [g5', hlen, hlen2, k1, k3, k4, k5, go_sem, ↓if_pos, ne_eq, ↓reduceIte]
  refine SRun.callR (neighbours_ok (ex := ex2) (n := n) (down := down) (r := router) (by omega) (by omega) hd) ⟨[], rfl, rfl⟩ rfl ?_
  have hnm : ∀ v ∈ nearP n router down, _ := fun v hv => near_mem hv
  have hnl := near_len r4 router down
  have hbl : (ownL n router ++ outL n router env).length ≤ 2 := by
    have h1 := own_len n router
    have h2 := out_len n router env
    rw [List.length_append]; omega
  generalize ownL n router ++ outL n router env = base at *
  generalize nearP n router down = nr at *
  simp (disch := omega) only [go_sem, ↓if_pos, ne_eq, ↓reduceIte]
  refine W_loopC (α := Nat × V × St × St) (fun p => p.1 ≤ nr.length ∧ (∀ d x, s3 d = some x → p.2.2.1 d = some x) ∧ OwnL p.2.2.1 4 (rtsV (base ++ (nr.take p.1).filterMap (viaO n router rs))) p.2.1 p.2.2.2) (fun p => [(1, .int .i64 router), (3, .isl ex2 1 (bools down)), (4, .isl ex3 4 (rtsV rs)), (5, .ptr b5 0), (11, p.2.1), (46, .isl false 1 (ints nr)), (47, .int .i64 nr.length), (48, .int .i64 (p.1 : Nat))]) (fun p => p.2.2.2) (fun p => nr.length - p.1) (0, q, s3, s) ⟨by simp, fun _ _ h => h, by simpa using ho1⟩ (by simp (disch := omega) only [subT, Int.natCast_add, Int.cast_ofNat_Int, k1, k3, k4, k5, k11, go_sem, ↓if_pos, ne_eq, ↓reduceIte] <;> (repeat' apply And.intro) <;> first | rfl | (congr 1; omega) | assumption) rfl ?_
  clear ho1 k1 k3 k4 k5 k11 g5'
  rintro ⟨i, q, sb, s⟩ ⟨hi, hle, ho1⟩ ih
  dsimp only at hi hle ho1
  have g5' := ho1.get (hle _ _ g54)
  simp (disch := omega) only [go_sem, ↓if_pos, ne_eq, ↓reduceIte]
  first | refine iteW_dec (fun h4 => ?_) (fun h4 => ?_) | refine iteW_of (fun h4 => ?_) (fun h4 => ?_)
  · have hv := hnm _ (getD_mem 0 (by omega : i < nr.length))
    have hts := take_succ (xs := nr) (i := i) 0 (by omega)
    simp (disch := omega) only [go_sem, ↓if_pos, ne_eq, ↓reduceIte]
    generalize hgv : nr.getD i 0 = v at *
    obtain ⟨v0, v1, v2, v3⟩ := hv
    have hra : rs.getD v.toNat default = rtAt rs v := rfl
    have hrl := hr.lens v
    have hrt0 : ∀ r : Rt, (rtC r)[0]? = some (.int .i64 r.via) := fun _ => rfl
    have hvO : viaO n router rs v = if (rtAt rs v).via = -3 ∨ throughP rs v router then none else importO n router v (rtAt rs v) := rfl
    have hno : viaO n router rs v = none → OwnL sb 4 (rtsV (base ++ (nr.take (i + 1)).filterMap (viaO n router rs))) q s := fun hv => by rw [hts, List.filterMap_append, List.filterMap_cons, hv, List.filterMap_nil, List.append_nil]; exact ho1
    have hyes : ∀ r, viaO n router rs v = some r → rtsV (base ++ (nr.take (i + 1)).filterMap (viaO n router rs)) = rtsV (base ++ (nr.take i).filterMap (viaO n router rs)) ++ [.agg (rtC r)] := fun r hv => by rw [hts, List.filterMap_append, List.filterMap_cons, hv, List.filterMap_nil, ← List.append_assoc, rts_app]
    have hsz : (base ++ (nr.take i).filterMap (viaO n router rs)).length ≤ 6 := by
      have := List.length_filterMap_le (viaO n router rs) (nr.take i)
      rw [List.length_append]; rw [List.length_take] at this; omega
    by_cases c1 : (rtAt rs v).via = -3
    · have d1 : decide ((rtAt rs v).via = -3) = true := decide_eq_true c1
      simp (disch := omega) only [hra, hrt0, d1, hgv, go_sem, ↓if_pos, ne_eq, ↓reduceIte]
      exact ih (i + 1, q, sb, s) _ _ ⟨by simp only; omega, hle, hno (by rw [hvO, if_pos (.inl c1)])⟩ (by simp only; omega) (by simp (disch := omega) only [subT, Int.natCast_add, Int.cast_ofNat_Int, go_sem, ↓if_pos, ne_eq, ↓reduceIte] <;> (repeat' apply And.intro) <;> first | rfl | (congr 1; omega) | assumption) rfl
    · have d1 : decide ((rtAt rs v).via = -3) = false := decide_eq_false c1
      simp (disch := omega) only [hra, hrt0, d1, hgv, go_sem, ↓if_pos, ne_eq, ↓reduceIte]
      refine SRun.callR (comesTo_ok (ex := ex3) (rs := rs) (from_ := v) (router := router) (by omega) hr.vias (by omega) h0) ⟨[], rfl, rfl⟩ rfl ?_
      cases c2 : throughP rs v router with
      | true =>
        simp (disch := omega) only [go_sem, ↓if_pos, ne_eq, ↓reduceIte]
        exact ih (i + 1, q, sb, s) _ _ ⟨by simp only; omega, hle, hno (by rw [hvO, if_pos (.inr c2)])⟩ (by simp only; omega) (by simp (disch := omega) only [subT, Int.natCast_add, Int.cast_ofNat_Int, go_sem, ↓if_pos, ne_eq, ↓reduceIte] <;> (repeat' apply And.intro) <;> first | rfl | (congr 1; omega) | assumption) rfl
      | false =>
        rw [if_neg (by rw [c2]; simp [c1])] at hvO
        simp (disch := omega) only [go_sem, ↓if_pos, ne_eq, ↓reduceIte]
        rw [W_draw]
        have hI := fun Γ σ => imported_ok (Γ := Γ) (σ := σ) (n := n) (router := router) (from_ := v) (r := rtAt rs v) (by omega) (by omega) v2 hrl hn.cost hdo
        rw [← hvO] at hI
        have hnr : ∀ r : Rt, rtC r = [.int .i64 r.via, .int .i64 r.pref, .int .i64 r.len, .bool r.mark] := fun _ => rfl
        refine DRun.start (DRun.mixNR (fun T s' => ∃ b18, s b18 = none ∧ s' = upd emp b18 (rtC (rtD (viaO n router rs v))) ∧ look T 1 = .int .i64 router ∧ look T 3 = .isl ex2 1 (bools down) ∧ look T 4 = .isl ex3 4 (rtsV rs) ∧ look T 5 = .ptr b5 0 ∧ look T 11 = q ∧ look T 46 = .isl false 1 (ints nr) ∧ look T 47 = .int .i64 nr.length ∧ look T 48 = .int .i64 (i : Nat) ∧ look T 18 = .ptr b18 0 ∧ look T 74 = .bool (viaO n router rs v).isSome) rfl ?_ ?_)
        · simp (disch := omega) only [g5', hlen, hlen2, hra, hrt4, hrt5, hgv, go_sem, ↓if_pos, ne_eq, ↓reduceIte]
          refine DS.wr2 (WrF.call (hI _ _) ⟨[], rfl, rfl⟩) rfl ?_ ?_
          · rintro x s ⟨rfl, hs⟩ hd9
            obtain rfl := hs.symm
            simp (disch := omega) only [go_sem, ↓if_pos, ne_eq, ↓reduceIte]
            refine DS.wrQ WrF.alloc rfl ?_
            rintro _ s9 ⟨b18, hb18, rfl, rfl⟩ hd9
            simp (disch := omega) only [go_sem, ↓if_pos, ne_eq, ↓reduceIte]
            refine DS.wrQ (WrF.store rfl (upd_same _ b18 _) rfl (by simp [ev, look, V.cells]; exact rt_one _) (by simp)) rfl ?_
            rintro _ s4 ⟨_, rfl⟩ hd3
            rw [upd_upd]
            refine ⟨b18, disj_new hd9, rfl, ?_⟩
            (repeat' apply And.intro) <;> rfl
          · refine DS.wrQ WrF.alloc rfl ?_
            rintro _ s9 ⟨b18, hb18, rfl, rfl⟩ hd9
            simp (disch := omega) only [go_sem, ↓if_pos, ne_eq, ↓reduceIte]
            refine DS.wrQ (WrF.call (hI _ _) ⟨[], rfl, rfl⟩) rfl ?_
            rintro x s ⟨rfl, hs⟩ hd
            obtain rfl := hs.symm
            simp (disch := omega) only [go_sem, ↓if_pos, ne_eq, ↓reduceIte]
            refine DS.wrQ (WrF.store rfl (upd_same _ b18 _) rfl (by simp [ev, look, V.cells]; exact rt_one _) (by simp)) rfl ?_
            rintro _ s4 ⟨_, rfl⟩ hd3
            rw [upd_upd]
            refine ⟨b18, disj_new hd9, rfl, ?_⟩
            (repeat' apply And.intro) <;> rfl
        rintro T s' ⟨b18, hb18, rfl, k1, k3, k4, k5, k11, k46, k47, k48, k18, k74⟩
        rw [cup_new]
        have hsb : sb b18 = none := by
          cases e : sb b18 with
          | none => rfl
          | some c => rw [ho1.get e] at hb18; cases hb18
        have hoE := ho1.ext (z := rtC (rtD (viaO n router rs v))) hb18
        cases hio : viaO n router rs v with
        | none =>
          rw [hio] at k74 hoE
          have hno2 := hno hio
          simp (disch := omega) only [k74, Option.isSome_none, k48, go_sem, ↓if_pos, ne_eq, ↓reduceIte]
          refine ih (i + 1, q, upd sb b18 _, _) _ _ ⟨by simp only; omega, fun d x h => le_upd hsb _ _ (hle _ _ h), hno2.ext hb18⟩ (by simp only; omega) (by simp (disch := omega) only [subT, Int.natCast_add, Int.cast_ofNat_Int, k1, k3, k4, k5, k11, k46, k47, k48, go_sem, ↓if_pos, ne_eq, ↓reduceIte] <;> (repeat' apply And.intro) <;> first | rfl | (congr 1; omega) | assumption) rfl
        | some r =>
          rw [hio] at k74 hoE
          have hy := hyes r hio
          have hD : rtD (some r) = r := rfl
          rw [hD] at hoE
          simp (disch := omega) only [k74, Option.isSome_some, k18, hD, hrt4, hrt5, k11, k48, hone, true_and, go_sem, ↓if_pos, ne_eq, ↓reduceIte]
          refine SRun.appL hoE rfl (rt1_ok r) (by rw [rtsV_len]; simp only [List.length_singleton]; omega) ?_
          intro q2 s2 ho2
          rw [← hy] at ho2
          simp (disch := omega) only [k48, go_sem, ↓if_pos, ne_eq, ↓reduceIte]
          refine ih (i + 1, q2, upd sb b18 _, s2) _ _ ⟨by simp only; omega, fun d x h => le_upd hsb _ _ (hle _ _ h), ho2⟩ (by simp only; omega) (by simp (disch := omega) only [subT, Int.natCast_add, Int.cast_ofNat_Int, k1, k3, k4, k5, k11, k46, k47, k48, go_sem, ↓if_pos, ne_eq, ↓reduceIte] <;> (repeat' apply And.intro) <;> first | rfl | (congr 1; omega) | assumption) rfl
  · have hil : i = nr.length := by omega
    subst hil
    rw [List.take_length] at ho1
    obtain ⟨s2, hle2, ho2⟩ := ownL_less ho1 (fun d x h => hle _ _ (hσ3 _ _ h))
    simp (disch := omega) only [go_sem, ↓if_pos, ne_eq, ↓reduceIte]
    refine W_retC c99_ok rfl (Conv.drop _ hle2) ?_
    rw [hcand]; exact ho2
theorem candidates_ok {n : Net} {ex ex2 ex3 : Bool} {env : List Int} {down : List Bool} {rs : List Rt} {router : Int} (hn : NetR n) (hdo : ∀ x ∈ n.imports, 1 ≤ x.do_ ∧ x.do_ ≤ 4) (ho : n.origins.length ≤ 1000000000000) (he : env.length = n.externals.length) (hE : (env.all fun x => inB x 0 2) = true) (hd : down.length = n.links.length) (hl : rs.length = n.routers.length) (hr : RtsW rs) (h0 : 0 ≤ router) :
    Ret Try.prog Γ 99 [netV n, .int .i64 router, .isl ex 1 (ints env), .isl ex2 1 (bools down), .isl ex3 4 (rtsV rs)] σ (.isl false 4 (rtsV (candP n router env down rs))) σ :=
  ACalls.conv (candidates_own hn hdo ho he hE hd hl hr h0) fun q s ho => ⟨_, σ, ho.conv, rfl, rfl⟩
theorem bestRoute_ok {ex : Bool} {l : List Rt} (hl : l.length ≤ 1000000000000) (hne : l ≠ []) : Ret Try.prog Γ 100 [.isl ex 4 (rtsV l)] σ (.agg (rtC (firstBest l))) σ := by
  have hrt4 : ∀ r : Rt, (rtC r).take 4 = rtC r := fun _ => rfl
  have hrt5 : ∀ r : Rt, (rtC r).length = 4 := fun _ => rfl
  have hone : ∀ r : Rt, (∀ c, c ∈ rtC r → c.one = true) = True := fun r => eq_true (rt_one r)
  have hsets : ∀ r : Rt, sets [V.int .i64 0, .int .i64 0, .int .i64 0, .bool false] 0 (rtC r) = rtC r := fun _ => rfl
  have hsets2 : ∀ o r : Rt, sets (rtC o) 0 (rtC r) = rtC r := fun _ _ => rfl
  have hpos : 0 < l.length := List.length_pos_iff.2 hne
  have hfb : firstBest l = l.foldl (fun o y => if betterP y o then y else o) (l.getD 0 default) := by
    cases l with
    | nil => exact absurd rfl hne
    | cons x r => rfl
  refine ret_of c100_ok rfl ?_
  simp (disch := omega) only [c100, go_sem, ↓if_pos, ne_eq, ↓reduceIte]
  refine SRun.allocR ?_
  intro b2 hb2
  simp (disch := omega) only [hrt4, hrt5, go_sem, ↓if_pos, ne_eq, ↓reduceIte]
  refine SRun.allocR ?_
  intro b3 hb3
  have n3 := upd_none.1 hb3
  have n23 : b2 ≠ b3 := n3.1.symm
  simp (disch := omega) only [hone, hsets, hrt5, go_sem, ↓if_pos, ne_eq, ↓reduceIte]
  generalize l.getD 0 default = x0 at *
  refine W_loopC (α := Nat × Rt × St) (fun p => p.1 ≤ l.length ∧ p.2.2 b3 = some (rtC p.2.1) ∧ p.2.2 b2 = some [.int .i64 0, .int .i64 0, .int .i64 0, .bool false] ∧ (∀ d z, σ d = some z → p.2.2 d = some z) ∧ firstBest l = (l.drop p.1).foldl (fun o y => if betterP y o then y else o) p.2.1) (fun p => [(2, .ptr b2 0), (3, .ptr b3 0), (9, .isl ex 4 (rtsV l)), (10, .int .i64 l.length), (11, .int .i64 (p.1 : Nat))]) (fun p => p.2.2) (fun p => l.length - p.1) (0, x0, upd (upd σ b2 [.int .i64 0, .int .i64 0, .int .i64 0, .bool false]) b3 (rtC x0)) ⟨by simp, upd_same _ _ _, (upd_ne _ _ n23).trans (upd_same _ _ _), le_two hb2 n3.2 _ _, hfb⟩ (by simp (disch := omega) only [subT, Int.natCast_add, Int.cast_ofNat_Int, go_sem, ↓if_pos, ne_eq, ↓reduceIte] <;> (repeat' apply And.intro) <;> first | rfl | (congr 1; omega) | assumption) rfl ?_
  clear hfb
  rintro ⟨i, o, s⟩ ⟨hi, hc3, hc2, hle, hb⟩ ih
  dsimp only at hi hc3 hc2 hle hb
  simp (disch := omega) only [go_sem, ↓if_pos, ne_eq, ↓reduceIte]
  first | refine iteW_dec (fun h1 => ?_) (fun h1 => ?_) | refine iteW_of (fun h1 => ?_) (fun h1 => ?_)
  · rw [drop_cons (xs := l) default (by omega : i < l.length), List.foldl_cons] at hb
    simp (disch := omega) only [hrt4, hrt5, go_sem, ↓if_pos, ne_eq, ↓reduceIte]
    generalize l.getD i default = y at *
    refine SRun.allocR ?_
    intro b5 hb5
    have n35 : b3 ≠ b5 := fun e => by subst e; rw [hc3] at hb5; cases hb5
    have n25 : b2 ≠ b5 := fun e => by subst e; rw [hc2] at hb5; cases hb5
    simp (disch := omega) only [hone, hsets, hrt5, hrt4, hc3, n35, go_sem, ↓if_pos, ne_eq, ↓reduceIte]
    refine SRun.callR (isBetter_ok (a := y) (b := o)) ⟨[], rfl, rfl⟩ rfl ?_
    cases c2 : betterP y o with
    | true =>
      rw [c2, if_pos rfl] at hb
      simp (disch := omega) only [hrt4, hrt5, hc3, n35, hone, hsets2, go_sem, ↓if_pos, ne_eq, ↓reduceIte]
      exact ih (i + 1, y, upd (upd s b5 (rtC y)) b3 (rtC y)) _ _ ⟨by simp only; omega, upd_same _ _ _, (upd_ne _ _ n23).trans ((upd_ne _ _ n25).trans hc2), fun d z h => by
        have e3 : d ≠ b3 := fun e => by subst e; rw [n3.2] at h; cases h
        exact (upd_ne _ _ e3).trans (le_upd hb5 _ _ (hle _ _ h)), hb⟩ (by simp only; omega) (by simp (disch := omega) only [subT, Int.natCast_add, Int.cast_ofNat_Int, go_sem, ↓if_pos, ne_eq, ↓reduceIte] <;> (repeat' apply And.intro) <;> first | rfl | (congr 1; omega) | assumption) rfl
    | false =>
      rw [c2, if_neg (by simp)] at hb
      simp (disch := omega) only [go_sem, ↓if_pos, ne_eq, ↓reduceIte]
      exact ih (i + 1, o, upd s b5 (rtC y)) _ _ ⟨by simp only; omega, (upd_ne _ _ n35).trans hc3, (upd_ne _ _ n25).trans hc2, fun d z h => le_upd hb5 _ _ (hle _ _ h), hb⟩ (by simp only; omega) (by simp (disch := omega) only [subT, Int.natCast_add, Int.cast_ofNat_Int, go_sem, ↓if_pos, ne_eq, ↓reduceIte] <;> (repeat' apply And.intro) <;> first | rfl | (congr 1; omega) | assumption) rfl
  · have hil : i = l.length := by omega
    subst hil
    rw [List.drop_length, List.foldl_nil] at hb
    simp (disch := omega) only [hc3, hc2, hrt4, hrt5, hone, hsets, go_sem, ↓if_pos, ne_eq, ↓reduceIte]
    refine W_retC c100_ok (r := .agg (rtC o)) (resV_cellA rfl (upd_same _ _ _) rfl) (Conv.drop _ fun d z h => ?_) ⟨by rw [hb], rfl⟩
    have e2 : d ≠ b2 := fun e => by subst e; rw [hb2] at h; cases h
    rw [upd_ne _ _ e2]; exact hle _ _ h
def bestsP (n : Net) (env : List Int) (down : List Bool) (rs : List Rt) : List Rt := (List.range n.routers.length).map fun (i : Nat) => bestP (candP n i env down rs)
theorem bestRoutes_own {n : Net} {ex ex2 ex3 : Bool} {env : List Int} {down : List Bool} {rs : List Rt} (hn : NetR n) (hdo : ∀ x ∈ n.imports, 1 ≤ x.do_ ∧ x.do_ ≤ 4) (ho : n.origins.length ≤ 1000000000000) (he : env.length = n.externals.length) (hE : (env.all fun x => inB x 0 2) = true) (hd : down.length = n.links.length) (hl : rs.length = n.routers.length) (hr : RtsW rs) :
    ACalls Try.prog Γ 67 [netV n, .isl ex 1 (ints env), .isl ex2 1 (bools down), .isl ex3 4 (rtsV rs)] σ fun q s => OwnL σ 4 (rtsV (bestsP n env down rs)) q s := by
  have r4 := hn.r4
  have hlen : (netC n).take 6 = netC n := rfl
  have hlen2 : (netC n).length = 6 := rfl
  have e0 : (netC n)[0]? = some (.isl false 1 (strsV n.routers)) := rfl
  have hrt4 : ∀ r : Rt, (rtC r).take 4 = rtC r := fun _ => rfl
  have hrt5 : ∀ r : Rt, (rtC r).length = 4 := fun _ => rfl
  have hone : ∀ r : Rt, (∀ c, c ∈ rtC r → c.one = true) = True := fun r => eq_true (rt_one r)
  have hnr : [V.int .i64 (-3), .int .i64 0, .int .i64 0, .bool false] = rtC noRt := rfl
  have hsets2 : ∀ o r : Rt, sets (rtC o) 0 (rtC r) = rtC r := fun _ _ => rfl
  refine acalls_W c67_ok rfl ?_
  simp (disch := omega) only [c67, netV, go_sem, ↓if_pos, ne_eq, ↓reduceIte]
  refine SRun.boxR (net_one n) ?_
  intro b4 hb4
  have g4 := upd_same σ b4 (netC n)
  have hσ : ∀ d x, σ d = some x → upd σ b4 (netC n) d = some x := le_upd hb4
  simp (disch := omega) only [go_sem, ↓if_pos, ne_eq, ↓reduceIte]
  generalize upd σ b4 (netC n) = s1 at *
  simp (disch := omega) only [g4, e0, go_sem, ↓if_pos, ne_eq, ↓reduceIte]
  refine W_loopC (α := Nat × V × St × St) (fun p => p.1 ≤ n.routers.length ∧ (∀ d x, s1 d = some x → p.2.2.1 d = some x) ∧ OwnL p.2.2.1 4 (rtsV ((List.range p.1).map fun (i : Nat) => bestP (candP n i env down rs))) p.2.1 p.2.2.2) (fun p => [(1, .isl ex 1 (ints env)), (2, .isl ex2 1 (bools down)), (3, .isl ex3 4 (rtsV rs)), (4, .ptr b4 0), (9, p.2.1), (15, .int .i64 n.routers.length), (16, .int .i64 (p.1 : Nat))]) (fun p => p.2.2.2) (fun p => n.routers.length - p.1) (0, _, s1, s1) ⟨by simp, fun _ _ h => h, OwnL.nil _ 0⟩ (by simp (disch := omega) only [subT, Int.natCast_add, Int.cast_ofNat_Int, go_sem, ↓if_pos, ne_eq, ↓reduceIte] <;> (repeat' apply And.intro) <;> first | rfl | (congr 1; omega) | assumption) rfl ?_
  rintro ⟨i, q, sb, s⟩ ⟨hi, hle, ho1⟩ ih
  dsimp only at hi hle ho1
  have g4' := ho1.get (hle _ _ g4)
  simp (disch := omega) only [go_sem, ↓if_pos, ne_eq, ↓reduceIte]
  first | refine iteW_dec (fun h1 => ?_) (fun h1 => ?_) | refine iteW_of (fun h1 => ?_) (fun h1 => ?_)
  · have hcl := cand_len r4 i env down rs
    have hcv := first_best (l := candP n i env down rs) cand_via
    have hsn : (List.range (i + 1)).map (fun (i : Nat) => bestP (candP n i env down rs)) = (List.range i).map (fun (i : Nat) => bestP (candP n i env down rs)) ++ [bestP (candP n i env down rs)] := by rw [List.range_succ, List.map_append]; rfl
    simp (disch := omega) only [go_sem, ↓if_pos, ne_eq, ↓reduceIte]
    refine SRun.allocR ?_
    intro b11 hb11
    have n411 : b4 ≠ b11 := fun e => by subst e; rw [g4'] at hb11; cases hb11
    have hsb : sb b11 = none := by
      cases e : sb b11 with
      | none => rfl
      | some c => rw [ho1.get e] at hb11; cases hb11
    simp (disch := omega) only [g4', n411, hlen, hlen2, go_sem, ↓if_pos, ne_eq, ↓reduceIte]
    refine SRun.callR (candidates_ok (ex := ex) (ex2 := ex2) (ex3 := ex3) (router := (i : Nat)) hn hdo ho he hE hd hl hr (by omega)) ⟨[], rfl, rfl⟩ rfl ?_
    generalize candP n i env down rs = cd at *
    simp (disch := omega) only [go_sem, ↓if_pos, ne_eq, ↓reduceIte]
    by_cases c1 : cd = []
    · subst c1
      have hb0 : bestP [] = noRt := rfl
      rw [hb0] at hsn
      simp (disch := omega) only [List.length_nil, go_sem, ↓if_pos, ne_eq, ↓reduceIte]
      refine SRun.appL (ho1.ext hb11) rfl (rt1_ok noRt) (by rw [rtsV_len, List.length_map, List.length_range]; simp only [List.length_singleton]; omega) ?_
      intro q2 s2 ho2
      rw [hnr, rts_app, ← hsn] at ho2
      simp (disch := omega) only [go_sem, ↓if_pos, ne_eq, ↓reduceIte]
      exact ih (i + 1, q2, upd sb b11 _, s2) _ _ ⟨by simp only; omega, fun d x h => le_upd hsb _ _ (hle _ _ h), ho2⟩ (by simp only; omega) (by simp (disch := omega) only [subT, Int.natCast_add, Int.cast_ofNat_Int, go_sem, ↓if_pos, ne_eq, ↓reduceIte] <;> (repeat' apply And.intro) <;> first | rfl | (congr 1; omega) | assumption) rfl
    · have d1 : decide ((cd.length : Int) > 0) = true := decide_eq_true (by have := List.length_pos_iff.2 c1; omega)
      simp (disch := omega) only [d1, go_sem, ↓if_pos, ne_eq, ↓reduceIte]
      refine SRun.callR (bestRoute_ok (ex := false) (l := cd) (by omega) c1) ⟨[], rfl, rfl⟩ rfl ?_
      rw [hcv, hnr]
      simp (disch := omega) only [hone, hsets2, hrt4, hrt5, true_and, go_sem, ↓if_pos, ne_eq, ↓reduceIte]
      refine SRun.appL (ho1.ext hb11) rfl (rt1_ok (bestP cd)) (by rw [rtsV_len, List.length_map, List.length_range]; simp only [List.length_singleton]; omega) ?_
      intro q2 s2 ho2
      rw [rts_app, ← hsn] at ho2
      simp (disch := omega) only [go_sem, ↓if_pos, ne_eq, ↓reduceIte]
      exact ih (i + 1, q2, upd sb b11 _, s2) _ _ ⟨by simp only; omega, fun d x h => le_upd hsb _ _ (hle _ _ h), ho2⟩ (by simp only; omega) (by simp (disch := omega) only [subT, Int.natCast_add, Int.cast_ofNat_Int, go_sem, ↓if_pos, ne_eq, ↓reduceIte] <;> (repeat' apply And.intro) <;> first | rfl | (congr 1; omega) | assumption) rfl
  · have hil : i = n.routers.length := by omega
    subst hil
    obtain ⟨s2, hle2, ho2⟩ := ownL_less ho1 (fun d x h => hle _ _ (hσ _ _ h))
    simp (disch := omega) only [go_sem, ↓if_pos, ne_eq, ↓reduceIte]
    exact W_retC c67_ok rfl (Conv.drop _ hle2) ho2
theorem bestRoutes_ok {n : Net} {ex ex2 ex3 : Bool} {env : List Int} {down : List Bool} {rs : List Rt} (hn : NetR n) (hdo : ∀ x ∈ n.imports, 1 ≤ x.do_ ∧ x.do_ ≤ 4) (ho : n.origins.length ≤ 1000000000000) (he : env.length = n.externals.length) (hE : (env.all fun x => inB x 0 2) = true) (hd : down.length = n.links.length) (hl : rs.length = n.routers.length) (hr : RtsW rs) :
    Ret Try.prog Γ 67 [netV n, .isl ex 1 (ints env), .isl ex2 1 (bools down), .isl ex3 4 (rtsV rs)] σ (.isl false 4 (rtsV (bestsP n env down rs))) σ :=
  ACalls.conv (bestRoutes_own hn hdo ho he hE hd hl hr) fun q s ho => ⟨_, σ, ho.conv, rfl, rfl⟩
theorem bests_stable {n : Net} {env : List Int} {down : List Bool} {rs : List Rt} (hl : rs.length = n.routers.length) : decide (bestsP n env down rs = rs) = stableB n env down rs := by
  rw [Bool.eq_iff_iff, decide_eq_true_eq]
  unfold stableB bestsP
  rw [List.all_eq_true, ← hl]
  constructor
  · intro h i hi
    have hi := List.mem_range.1 hi
    refine decide_eq_true ?_
    have : ((List.range rs.length).map fun (i : Nat) => bestP (candP n i env down rs)).getD i default = rs.getD i default := by rw [h]
    simpa [List.getD, hi] using this
  · intro h
    refine List.ext_getElem (by simp) fun i h1 h2 => ?_
    have := of_decide_eq_true (h i (List.mem_range.2 h2))
    simpa [List.getD, h2] using this
theorem isStable_ok {n : Net} {ex ex2 ex3 : Bool} {env : List Int} {down : List Bool} {rs : List Rt} (hn : NetR n) (hdo : ∀ x ∈ n.imports, 1 ≤ x.do_ ∧ x.do_ ≤ 4) (ho : n.origins.length ≤ 1000000000000) (he : env.length = n.externals.length) (hE : (env.all fun x => inB x 0 2) = true) (hd : down.length = n.links.length) (hl : rs.length = n.routers.length) (hr : RtsW rs) :
    Ret Try.prog Γ 69 [netV n, .isl ex 1 (ints env), .isl ex2 1 (bools down), .isl ex3 4 (rtsV rs)] σ (.bool (stableB n env down rs)) σ := by
  have r4 := hn.r4
  have hlen : (netC n).take 6 = netC n := rfl
  have hlen2 : (netC n).length = 6 := rfl
  have hbl : (bestsP n env down rs).length = n.routers.length := by unfold bestsP; simp
  refine ret_of c69_ok rfl ?_
  simp (disch := omega) only [c69, netV, go_sem, ↓if_pos, ne_eq, ↓reduceIte]
  refine SRun.boxR (net_one n) ?_
  intro b4 hb4
  have g4 := upd_same σ b4 (netC n)
  have hσ : ∀ d x, σ d = some x → upd σ b4 (netC n) d = some x := le_upd hb4
  simp (disch := omega) only [go_sem, ↓if_pos, ne_eq, ↓reduceIte]
  generalize upd σ b4 (netC n) = s1 at *
  simp (disch := omega) only [g4, hlen, hlen2, go_sem, ↓if_pos, ne_eq, ↓reduceIte]
  refine SRun.callR (bestRoutes_ok hn hdo ho he hE hd hl hr) ⟨[], rfl, rfl⟩ rfl ?_
  simp (disch := omega) only [go_sem, ↓if_pos, ne_eq, ↓reduceIte]
  refine SRun.callR (equalRt_ok (ex := false) (ex2 := ex3) (xs := bestsP n env down rs) (ys := rs) (by omega)) ⟨[], rfl, rfl⟩ rfl ?_
  rw [bests_stable hl]
  simp (disch := omega) only [go_sem, ↓if_pos, ne_eq, ↓reduceIte]
  exact W_retC c69_ok rfl (Conv.drop _ hσ) ⟨rfl, rfl⟩
end Go.Proofs.Ytabelcohkpmpnaa.Lg
