/- Routes, the reference's: what a router could have, the best of it, whether a state is stable. -/
import Derived.Test.YtabelcohkpmpnaaWb
set_option linter.unusedSimpArgs false
set_option linter.unusedVariables false
namespace Go.Proofs.Ytabelcohkpmpnaa.Lg
open Go
attribute [local irreducible] SRun DS DRun
variable {Γ : St} {σ σ0 : St}
/-- Routes that are not too long, and name routers. -/
structure RtsW (rs : List Rt) : Prop where
  vias : ViasIn rs
  lens : ∀ v : Int, 0 ≤ (rtAt rs v).len ∧ (rtAt rs v).len ≤ 1000000000
theorem impGo_same {router from_ : Int} : ∀ {xs : List Imp} {r s : Rt}, impGo router from_ xs r = some s → s.via = r.via ∧ s.len = r.len := by
  intro xs
  induction xs with
  | nil => intro r s h; simp only [impGo, Option.some.injEq] at h; subst h; exact ⟨rfl, rfl⟩
  | cons x xs ih =>
    intro r s h
    simp only [impGo] at h
    split at h
    · exact ih h
    · split at h
      · cases h
      · split at h
        · have := ih h; exact ⟨this.1, this.2⟩
        · have := ih h; exact ⟨this.1, this.2⟩
theorem importO_via {n : Net} {a b : Int} {r s : Rt} (h : importO n a b r = some s) : s.via = b := (impGo_same h).1
set_option maxHeartbeats 1000000 in
theorem l07Candidates_own {n : Net} {ex ex2 ex3 : Bool} {env : List Int} {down : List Bool} {rs : List Rt} {router : Int} (hn : NetR n) (ho : n.origins.length ≤ 1000000000000) (he : env.length = n.externals.length) (hd : down.length = n.links.length) (hl : rs.length = n.routers.length) (hr : RtsW rs) :
    ACalls Try.prog Γ 72 [netV n, .int .i64 router, .isl ex 1 (ints env), .isl ex2 1 (bools down), .isl ex3 4 (rtsV rs)] σ fun q s => OwnL σ 4 (rtsV (candP n router env down rs)) q s := by
  have r4 := hn.r4
  have l6 := hn.l6
  have i12 := hn.i12
  have x2 := hn.x2
  have hlen : (netC n).take 6 = netC n := rfl
  have hlen2 : (netC n).length = 6 := rfl
  have e0 : (netC n)[0]? = some (.isl false 1 (strsV n.routers)) := rfl
  have e1 : (netC n)[1]? = some (.isl false 3 (linksV n.links)) := rfl
  have e2 : (netC n)[2]? = some (.isl false 1 (ints n.origins)) := rfl
  have e3 : (netC n)[3]? = some (.isl false 1 (ints n.externals)) := rfl
  refine acalls_W c72_ok rfl ?_
  simp (disch := omega) only [c72, netV, go_sem, ↓if_pos, ne_eq, ↓reduceIte]
  refine SRun.boxR (net_one n) ?_
  intro b5 hb5
  have g5 := upd_same σ b5 (netC n)
  have hσ : ∀ d x, σ d = some x → upd σ b5 (netC n) d = some x := le_upd hb5
  simp (disch := omega) only [go_sem, ↓if_pos, ne_eq, ↓reduceIte]
  generalize upd σ b5 (netC n) = s1 at *
  simp (disch := omega) only [g5, e2, go_sem, ↓if_pos, ne_eq, ↓reduceIte]
  refine SRun.callR (l07Has_ok (ex := false) (xs := n.origins) (x := router) ho) ⟨[], rfl, rfl⟩ rfl ?_
  have hcand : candP n router env down rs = ownL n router ++ outL n router env ++ (nearP n router down).filterMap (viaO n router rs) := rfl
  simp (disch := omega) only [go_sem, ↓if_pos, ne_eq, ↓reduceIte]
  refine iteW_join (fun T s => ∃ q, OwnL s1 4 (rtsV (ownL n router)) q s ∧ look T 1 = .int .i64 router ∧ look T 2 = .isl ex 1 (ints env) ∧ look T 3 = .isl ex2 1 (bools down) ∧ look T 4 = .isl ex3 4 (rtsV rs) ∧ look T 5 = .ptr b5 0 ∧ look T 11 = q) (fun k' key => ?_) ?_
  · by_cases h1 : hasI n.origins router ≥ 0
    · have hd1 : decide (hasI n.origins router ≥ 0) = true := decide_eq_true h1
      simp (disch := omega) only [hd1, go_sem, ↓if_pos, ne_eq, ↓reduceIte]
      refine SRun.appL (OwnL.nil _ 4) rfl (rt1_ok ⟨-2, 200, 0, false⟩) (by simp) ?_
      intro q s ho1
      simp (disch := omega) only [go_sem, ↓if_pos, ne_eq, ↓reduceIte]
      refine key _ _ ⟨q, ?_, rfl, rfl, rfl, rfl, rfl, rfl⟩
      unfold ownL; rw [if_pos (by omega)]; exact ho1
    · have hd1 : decide (hasI n.origins router ≥ 0) = false := decide_eq_false h1
      simp (disch := omega) only [hd1, go_sem, ↓if_pos, ne_eq, ↓reduceIte]
      refine key _ _ ⟨_, ?_, rfl, rfl, rfl, rfl, rfl, rfl⟩
      unfold ownL; rw [if_neg (by omega)]; exact OwnL.nil _ 4
  rintro T s ⟨q, ho1, k1, k2, k3, k4, k5, k11⟩
  have hx1 : n.externals.length ≤ 1000000000000 := by omega
  simp (disch := omega) only [ho1.get g5, e3, k1, k2, k3, k4, k5, go_sem, ↓if_pos, ne_eq, ↓reduceIte]
  refine SRun.callR (l07Has_ok (ex := false) (xs := n.externals) (x := router) hx1) ⟨[], rfl, rfl⟩ rfl ?_
  have hx := hasI_in n.externals router
  have hob : outB n router env = (decide (0 ≤ hasI n.externals router) && decide (0 < env.getD (hasI n.externals router).toNat 0)) := rfl
  have hxb : (hasI n.externals router ≥ 0 ∧ outB n router env = decide (env.getD (hasI n.externals router).toNat 0 > 0)) ∨ (hasI n.externals router < 0 ∧ outB n router env = false) := by
    by_cases h : 0 ≤ hasI n.externals router
    · exact .inl ⟨h, by rw [hob, decide_eq_true h]; rfl⟩
    · exact .inr ⟨by omega, by rw [hob, decide_eq_false h]; rfl⟩
  have hol : outL n router env = if outB n router env then [⟨-1, 100, 2, decide (env.getD (hasI n.externals router).toNat 0 = 2)⟩] else [] := rfl
  rcases hxb with ⟨hx0, hb⟩ | ⟨hx0, hb⟩
  case' inl =>
    have hd1 : decide (hasI n.externals router ≥ 0) = true := decide_eq_true hx0
    simp (disch := omega) only [hd1, k1, k2, k3, k4, k5, k11, go_sem, ↓if_pos, ne_eq, ↓reduceIte]
    refine iteW_join (fun T s => ∃ q, OwnL s1 4 (rtsV (ownL n router ++ outL n router env)) q s ∧ look T 1 = .int .i64 router ∧ look T 3 = .isl ex2 1 (bools down) ∧ look T 4 = .isl ex3 4 (rtsV rs) ∧ look T 5 = .ptr b5 0 ∧ look T 11 = q) (fun k' key => ?_) ?_
    · rw [hol, hb] at key
      first | refine iteW_dec (fun h3 => ?_) (fun h3 => ?_) | refine iteW_of (fun h3 => ?_) (fun h3 => ?_)
      · rw [if_pos (by simpa using h3)] at key
        simp (disch := omega) only [hd1, k1, k2, k3, k4, k5, k11, go_sem, ↓if_pos, ne_eq, ↓reduceIte]
        refine SRun.appL ho1 rfl (rt1_ok ⟨-1, 100, 2, decide (env.getD (hasI n.externals router).toNat 0 = 2)⟩) (by unfold ownL; split <;> simp [rtsV]) ?_
        intro q2 s2 ho2
        have ha := rts_app (ownL n router) ⟨-1, 100, 2, decide (env.getD (hasI n.externals router).toNat 0 = 2)⟩
        simp only [rtC] at ha
        rw [ha] at ho2
        simp (disch := omega) only [go_sem, ↓if_pos, ne_eq, ↓reduceIte]
        exact key _ _ ⟨q2, ho2, k1, k3, k4, k5, rfl⟩
      · rw [if_neg (by simpa using h3), List.append_nil] at key
        simp (disch := omega) only [go_sem, ↓if_pos, ne_eq, ↓reduceIte]
        exact key _ _ ⟨q, ho1, k1, k3, k4, k5, k11⟩
  case' inr =>
    have hd1 : decide (hasI n.externals router ≥ 0) = false := decide_eq_false (by omega)
    have hol2 : outL n router env = [] := by rw [hol, hb]; rfl
    have hcl : OwnL s1 4 (rtsV (ownL n router ++ outL n router env)) q s := by rw [hol2, List.append_nil]; exact ho1
    simp (disch := omega) only [hd1, k1, k2, k3, k4, k5, k11, go_sem, ↓if_pos, ne_eq, ↓reduceIte]
    clear ho1 hol2
    have ho1 := hcl
  case' inl => 
    clear ho1 k1 k2 k3 k4 k5 k11
    rintro T s ⟨q, ho1, k1, k3, k4, k5, k11⟩
  all_goals
    have g5' := ho1.get g5
    simp (disch := omega) only [g5', hlen, hlen2, k1, k3, k4, k5, go_sem, ↓if_pos, ne_eq, ↓reduceIte]
    refine SRun.callR (l06Neighbours_ok (ex := ex2) (n := n) (down := down) (r := router) (by omega) (by omega) hd) ⟨[], rfl, rfl⟩ rfl ?_
    have hnm : ∀ v ∈ nearP n router down, _ := fun v hv => near_mem hv
    have hnl : (nearP n router down).length ≤ 4 := by
      simp only [nearP, List.length_map]
      have := List.length_filter_le (nearB n router down) (List.range n.routers.length)
      rw [List.length_range] at this; omega
    have hbl : (ownL n router ++ outL n router env).length ≤ 2 := by
      rw [List.length_append]; unfold ownL outL; split <;> split <;> simp
    generalize ownL n router ++ outL n router env = base at *
    generalize nearP n router down = nr at *
    simp (disch := omega) only [go_sem, ↓if_pos, ne_eq, ↓reduceIte]
    refine W_loopC (α := Nat × V × St × St) (fun p => p.1 ≤ nr.length ∧ (∀ d x, s1 d = some x → p.2.2.1 d = some x) ∧ OwnL p.2.2.1 4 (rtsV (base ++ (nr.take p.1).filterMap (viaO n router rs))) p.2.1 p.2.2.2) (fun p => [(1, .int .i64 router), (3, .isl ex2 1 (bools down)), (4, .isl ex3 4 (rtsV rs)), (5, .ptr b5 0), (11, p.2.1), (13, .isl false 1 (ints nr)), (14, .int .i64 (p.1 : Nat))]) (fun p => p.2.2.2) (fun p => nr.length - p.1) (0, q, s1, s) ⟨by simp, fun _ _ h => h, by simpa using ho1⟩ (by simp (disch := omega) only [subT, Int.natCast_add, Int.cast_ofNat_Int, k1, k3, k4, k5, k11, go_sem, ↓if_pos, ne_eq, ↓reduceIte] <;> (repeat' apply And.intro) <;> first | rfl | (congr 1; omega) | assumption) rfl ?_
    clear ho1 k1 k3 k4 k5 k11 g5'
    rintro ⟨i, q, sb, s⟩ ⟨hi, hle, ho1⟩ ih
    dsimp only at hi hle ho1
    have g5' := ho1.get (hle _ _ g5)
    simp (disch := omega) only [go_sem, ↓if_pos, ne_eq, ↓reduceIte]
    first | refine iteW_dec (fun h4 => ?_) (fun h4 => ?_) | refine iteW_of (fun h4 => ?_) (fun h4 => ?_)
    · have hv := hnm _ (getD_mem 0 (by omega : i < nr.length))
      have hts := take_succ (xs := nr) (i := i) 0 (by omega)
      simp (disch := omega) only [go_sem, ↓if_pos, ne_eq, ↓reduceIte]
      generalize hgv : nr.getD i 0 = v at *
      obtain ⟨v0, v1, v2, v3⟩ := hv
      have hra : rs.getD v.toNat default = rtAt rs v := rfl
      have hrl := hr.lens v
      have hrc : rtC (rtAt rs v) = [.int .i64 (rtAt rs v).via, .int .i64 (rtAt rs v).pref, .int .i64 (rtAt rs v).len, .bool (rtAt rs v).mark] := rfl
      have hvO : viaO n router rs v = if (rtAt rs v).via = -3 ∨ throughP rs v router then none else importO n router v (rtAt rs v) := rfl
      have hno : viaO n router rs v = none → OwnL sb 4 (rtsV (base ++ (nr.take (i + 1)).filterMap (viaO n router rs))) q s := fun hv => by rw [hts, List.filterMap_append, List.filterMap_cons, hv, List.filterMap_nil, List.append_nil]; exact ho1
      have hyes : ∀ r, viaO n router rs v = some r → rtsV (base ++ (nr.take (i + 1)).filterMap (viaO n router rs)) = rtsV (base ++ (nr.take i).filterMap (viaO n router rs)) ++ [.agg (rtC r)] := fun r hv => by rw [hts, List.filterMap_append, List.filterMap_cons, hv, List.filterMap_nil, ← List.append_assoc, rts_app]
      have hsz : (base ++ (nr.take i).filterMap (viaO n router rs)).length ≤ 6 := by
        have := List.length_filterMap_le (viaO n router rs) (nr.take i)
        rw [List.length_append]; rw [List.length_take] at this; omega
      by_cases c1 : (rtAt rs v).via = -3
      · have d1 : decide ((rtAt rs v).via = -3) = true := decide_eq_true c1
        simp (disch := omega) only [hra, hrc, d1, hgv, go_sem, ↓if_pos, ne_eq, ↓reduceIte]
        exact ih (i + 1, q, sb, s) _ _ ⟨by simp only; omega, hle, hno (by rw [hvO, if_pos (.inl c1)])⟩ (by simp only; omega) (by simp (disch := omega) only [subT, Int.natCast_add, Int.cast_ofNat_Int, go_sem, ↓if_pos, ne_eq, ↓reduceIte] <;> (repeat' apply And.intro) <;> first | rfl | (congr 1; omega) | assumption) rfl
      · have d1 : decide ((rtAt rs v).via = -3) = false := decide_eq_false c1
        simp (disch := omega) only [hra, hrc, d1, hgv, go_sem, ↓if_pos, ne_eq, ↓reduceIte]
        refine SRun.callR (l07Through_ok (ex := ex3) (rs := rs) (from_ := v) (router := router) (by omega) hr.vias (by omega)) ⟨[], rfl, rfl⟩ rfl ?_
        cases c2 : throughP rs v router with
        | true =>
          simp (disch := omega) only [go_sem, ↓if_pos, ne_eq, ↓reduceIte]
          exact ih (i + 1, q, sb, s) _ _ ⟨by simp only; omega, hle, hno (by rw [hvO, if_pos (.inr c2)])⟩ (by simp only; omega) (by simp (disch := omega) only [subT, Int.natCast_add, Int.cast_ofNat_Int, go_sem, ↓if_pos, ne_eq, ↓reduceIte] <;> (repeat' apply And.intro) <;> first | rfl | (congr 1; omega) | assumption) rfl
        | false =>
          rw [if_neg (by rw [c2]; simp [c1])] at hvO
          simp (disch := omega) only [go_sem, ↓if_pos, ne_eq, ↓reduceIte]
          rw [W_draw]
          refine DRun.start (DRun.mixNR (fun T s' => ∃ b15, s b15 = none ∧ s' = upd emp b15 [.int .i64 0, .int .i64 0, .int .i64 0, .bool false] ∧ look T 1 = .int .i64 router ∧ look T 3 = .isl ex2 1 (bools down) ∧ look T 4 = .isl ex3 4 (rtsV rs) ∧ look T 5 = .ptr b5 0 ∧ look T 11 = q ∧ look T 13 = .isl false 1 (ints nr) ∧ look T 14 = .int .i64 (i : Nat) ∧ look T 15 = .ptr b15 0 ∧ look T 89 = .agg (rtC (rtO (importO n router v (rtAt rs v))))) rfl ?_ ?_)
          · simp (disch := omega) only [g5', hlen, hlen2, hra, hrc, hgv, go_sem, ↓if_pos, ne_eq, ↓reduceIte]
            have hI := fun Γ σ => l07Import_ok (Γ := Γ) (σ := σ) (n := n) (router := router) (from_ := v) (r := rtAt rs v) (by omega) (by omega) v2 hrl hn.cost
            refine DS.wr2 (WrF.call (hI _ _) ⟨[], rfl, rfl⟩) rfl ?_ ?_
            · rintro x s ⟨rfl, hs⟩ hd9
              obtain rfl := hs.symm
              simp (disch := omega) only [go_sem, ↓if_pos, ne_eq, ↓reduceIte]
              refine DS.wrQ WrF.alloc rfl ?_
              rintro _ s9 ⟨b15, hb15, rfl, rfl⟩ hd9
              refine ⟨b15, disj_new hd9, ?_⟩
              (repeat' apply And.intro) <;> rfl
            · refine DS.wrQ WrF.alloc rfl ?_
              rintro _ s9 ⟨b15, hb15, rfl, rfl⟩ hd9
              simp (disch := omega) only [go_sem, ↓if_pos, ne_eq, ↓reduceIte]
              refine DS.wrQ (WrF.call (hI _ _) ⟨[], rfl, rfl⟩) rfl ?_
              rintro x s ⟨rfl, hs⟩ hd
              obtain rfl := hs.symm
              simp (disch := omega) only [go_sem, ↓if_pos, ne_eq, ↓reduceIte]
              refine ⟨b15, disj_new hd9, ?_⟩
              (repeat' apply And.intro) <;> rfl
          rintro T s' ⟨b15, hb15, rfl, k1, k3, k4, k5, k11, k13, k14, k15, k89⟩
          rw [cup_new]
          have hbn : b15 ≠ b5 := fun e => by subst e; rw [g5'] at hb15; cases hb15
          have hsb : sb b15 = none := by
            cases e : sb b15 with
            | none => rfl
            | some c => rw [ho1.get e] at hb15; cases hb15
          cases hio : importO n router v (rtAt rs v) with
          | none =>
            rw [hio] at k89 hvO
            have hno2 := hno hvO
            have hnr : rtC (rtO none) = [.int .i64 (-3), .int .i64 0, .int .i64 0, .bool false] := rfl
            simp (disch := omega) only [k15, k89, hnr, k14, go_sem, ↓if_pos, ne_eq, ↓reduceIte]
            refine ih (i + 1, q, upd sb b15 _, _) _ _ ⟨by simp only; omega, fun d x h => le_upd hsb _ _ (hle _ _ h), hno2.ext hb15⟩ (by simp only; omega) (by simp (disch := omega) only [subT, Int.natCast_add, Int.cast_ofNat_Int, k1, k3, k4, k5, k11, k13, k14, go_sem, ↓if_pos, ne_eq, ↓reduceIte] <;> (repeat' apply And.intro) <;> first | rfl | (congr 1; omega) | assumption) rfl
          | some r =>
            rw [hio] at k89 hvO
            have hy := hyes r hvO
            have hrv := importO_via hio
            have hnr : rtC (rtO (some r)) = [.int .i64 r.via, .int .i64 r.pref, .int .i64 r.len, .bool r.mark] := rfl
            have hd3 : (decide ¬ r.via = -3) = true := decide_eq_true (by omega)
            simp (disch := omega) only [k15, k89, hnr, hd3, k11, k14, go_sem, ↓if_pos, ne_eq, ↓reduceIte]
            refine SRun.appL (ho1.ext hb15) rfl (rt1_ok r) (by rw [rtsV_len]; simp only [List.length_singleton]; omega) ?_
            intro q2 s2 ho2
            have ho3 : OwnL (upd sb b15 [.int .i64 r.via, .int .i64 r.pref, .int .i64 r.len, .bool r.mark]) 4 (rtsV (base ++ (nr.take (i + 1)).filterMap (viaO n router rs))) q2 s2 := by rw [hy]; exact ho2
            simp (disch := omega) only [k14, go_sem, ↓if_pos, ne_eq, ↓reduceIte]
            refine ih (i + 1, q2, upd sb b15 _, s2) _ _ ⟨by simp only; omega, fun d x h => le_upd hsb _ _ (hle _ _ h), ho3⟩ (by simp only; omega) (by simp (disch := omega) only [subT, Int.natCast_add, Int.cast_ofNat_Int, k1, k3, k4, k5, k11, k13, k14, go_sem, ↓if_pos, ne_eq, ↓reduceIte] <;> (repeat' apply And.intro) <;> first | rfl | (congr 1; omega) | assumption) rfl
    · have hil : i = nr.length := by omega
      subst hil
      rw [List.take_length] at ho1
      obtain ⟨s2, hle2, ho2⟩ := ownL_less ho1 (fun d x h => hle _ _ (hσ _ _ h))
      simp (disch := omega) only [go_sem, ↓if_pos, ne_eq, ↓reduceIte]
      refine W_retC c72_ok rfl (Conv.drop _ hle2) ?_
      rw [hcand]; exact ho2
end Go.Proofs.Ytabelcohkpmpnaa.Lg
