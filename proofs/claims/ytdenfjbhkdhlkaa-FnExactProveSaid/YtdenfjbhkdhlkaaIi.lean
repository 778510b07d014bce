/- The law FnExactProve over its code. -/
import Derived.Test.YtdenfjbhkdhlkaaIh
set_option linter.unusedSimpArgs false
set_option linter.unusedVariables false
namespace Go.Proofs.Ytdenfjbhkdhlkaa.Lg
open Go
attribute [local irreducible] SRun DS DRun
variable {Γ : St} {σ σ0 : St}
theorem finP_small {chosen : List Int} {st : List (List Int)} (h : ∀ s ∈ st, s.length ≤ 12) : ∀ s ∈ (finP chosen st).1, s.length ≤ 12 := by
  unfold finP
  cases hq : decide (st.length = 200) || decide (12 < chosen.length) with
  | true => exact h
  | false =>
    intro s hs
    simp only [cond_false] at hs
    rcases List.mem_append.1 hs with hs | hs
    · exact h s hs
    · rw [List.mem_singleton.1 hs, negC_len]
      simp only [Bool.or_eq_false_iff, decide_eq_false_iff_not] at hq
      omega
theorem refP_small {vars : Int} {cls : List (List Int)} : ∀ (fu : Nat) (chosen : List Int) (st : List (List Int)), (∀ s ∈ st, s.length ≤ 12) → ∀ s ∈ (refP vars cls fu chosen st).1, s.length ≤ 12 := by
  intro fu
  induction fu with
  | zero => intro chosen st h; exact h
  | succ fu ih =>
    intro chosen st h
    simp only [refP]
    generalize propGo cls (zeros (setAll (zeroVals vars) chosen) + 1) (setAll (zeroVals vars) chosen) [] = R
    generalize findZ (R.2.2.drop 1) 0 + 1 = v
    have h1 := ih (chosen ++ [-v]) st h
    generalize refP vars cls fu (chosen ++ [-v]) st = A at *
    have h2 := ih (chosen ++ [v]) A.1 h1
    generalize refP vars cls fu (chosen ++ [v]) A.1 = B at *
    cases decide (R.2.1 ≥ 0) with
    | true => exact finP_small h
    | false =>
      simp only [cond_false]
      cases v == 0 with
      | true => exact h
      | false =>
        simp only [cond_false]
        cases A.2 == 0 with
        | false => exact h1
        | true =>
          simp only [cond_true]
          cases B.2 == 0 with
          | false => exact h2
          | true => exact finP_small h2
theorem refA_small {vars : Int} {cls : List (List Int)} (hv : 0 ≤ vars) (hc : ClsOK vars cls) : (refA vars cls).1.length ≤ 200 ∧ ∀ s ∈ (refA vars cls).1, s.2.length ≤ 12 := by
  have ht := (refP_top hv hc).2
  have hs := refP_small (vars := vars) (cls := cls) (vars.toNat + 2) [] [] (fun s h => by cases h)
  unfold refA
  generalize refP vars cls (vars.toNat + 2) [] [] = R at *
  cases R.2 == 0 with
  | true =>
    refine ⟨by simp only [cond_true]; rw [adds_len]; exact ht, fun s h => ?_⟩
    simp only [cond_true, adds, List.mem_map] at h
    obtain ⟨d, hd, rfl⟩ := h
    exact hs d hd
  | false => exact ⟨by simp, fun s h => by cases h⟩
theorem ansE_small (inp : Int) (e : Ex) : (ansE inp e).vals.length ≤ 12 ∧ (ansE inp e).steps.length ≤ 200 ∧ ∀ s ∈ (ansE inp e).steps, s.2.length ≤ 12 := by
  by_cases hc : codeE inp e = 0
  · have hB := built hc
    have hinp := hB.rng
    rw [ansE_fine hc]
    generalize inp + ((gsE inp e).length : Int) = vars
    generalize tsP inp (gsE inp e) (notP (liE inp e)) = cls
    unfold proveA
    cases hq : cnfB vars cls with
    | false => exact ⟨by simp, by simp, fun s h => by cases h⟩
    | true =>
      obtain ⟨hcl, hv0, _, _⟩ := clsOK_of hq
      obtain ⟨r1, r2⟩ := refA_small hv0 hcl
      simp only [cond_true]
      split
      · exact ⟨by simp only [List.length_take]; omega, by simp, fun s h => by cases h⟩
      · cases (refA vars cls).2 == 0 with
        | true => exact ⟨by simp, r1, r2⟩
        | false => exact ⟨by simp, by simp, fun s h => by cases h⟩
  · rw [ansE_bad hc]
    exact ⟨by simp, by simp, fun s h => by cases h⟩
theorem endS_le : ∀ (ls : List Nat) (k : Int), (∀ n ∈ ls, n ≤ 12) → endS k ls ≤ k + 13 * ls.length := by
  intro ls
  induction ls with
  | nil => intro k _; simp [endS]
  | cons n r ih =>
    intro k h
    have h1 := ih (k + 1 + n) fun m hm => h m (by simp [hm])
    have h2 := h n (by simp)
    simp only [endS, List.length_cons]; omega
/-! Nothing else is owned. -/
def AnsBlk (qv q : V) (qs : List V) (b : Nat) : Prop := blk qv = some b ∨ blk q = some b ∨ ∃ m ∈ qs, blk m = some b
theorem AnsO.to {A : Ans} {qv q : V} {qs : List V} {s t : St} (h : AnsO σ0 A qv q qs s) (ht : ∀ b, AnsBlk qv q qs b → t b = s b) : AnsO σ0 A qv q qs t := by
  refine ⟨?_, h.vnew, h.lla.to (fun b hb => ht b (.inr (.inl hb))) (fun m hm b hb => ht b (.inr (.inr ⟨m, hm, hb⟩))), h.ap, h.aps⟩
  rcases h.vals with h1 | ⟨b, cap, rest, e, hb⟩
  · exact .inl h1
  · exact .inr ⟨b, cap, rest, e, by rw [ht b (.inl (by rw [e]; rfl))]; exact hb⟩
theorem AnsO.mono {A : Ans} {qv q : V} {qs : List V} {s t : St} (h : AnsO σ0 A qv q qs s) (ht : ∀ b c, s b = some c → t b = some c) : AnsO σ0 A qv q qs t := by
  refine ⟨?_, h.vnew, h.lla.mono ht, h.ap, h.aps⟩
  rcases h.vals with h1 | ⟨b, cap, rest, e, hb⟩
  · exact .inl h1
  · exact .inr ⟨b, cap, rest, e, ht _ _ hb⟩
theorem AnsO.has {A : Ans} {qv q : V} {qs : List V} {s : St} (h : AnsO σ0 A qv q qs s) {b : Nat} (hb : AnsBlk qv q qs b) : s b ≠ none := by
  rcases hb with hb | hb
  · rcases h.vals with ⟨_, _, rfl⟩ | ⟨b', cap, rest, rfl, hb'⟩
    · cases hb
    · simp only [blk, Option.some.injEq] at hb
      subst hb; rw [hb']; simp
  · exact h.lla.blk_has hb
theorem AnsO.new {A : Ans} {qv q : V} {qs : List V} {s : St} (h : AnsO σ0 A qv q qs s) {b : Nat} (hb : AnsBlk qv q qs b) : σ0 b = none := by
  rcases hb with hb | hb | ⟨m, hm, hb⟩
  · exact h.vnew b hb
  · exact h.lla.new b hb
  · exact h.lla.rows.new m hm b hb
theorem AnsO.plain {A : Ans} {qv q : V} {qs : List V} {s : St} (h : AnsO σ0 A qv q qs s) : Plain qv ∧ Plain q ∧ ∀ b, AnsBlk qv q qs b → ∀ cs, s b = some cs → ∀ c ∈ cs, Plain c := by
  refine ⟨?_, h.lla.at_.plain0, fun b hb cs hs c hc => ?_⟩
  · rcases h.vals with ⟨_, _, rfl⟩ | ⟨b', cap, rest, rfl, hb'⟩
    · exact Plain.isl0 _ _
    · exact Plain.msl _ _ _ _ _
  · rcases hb with hb | hb | ⟨m, hm, hb⟩
    · rcases h.vals with ⟨_, _, rfl⟩ | ⟨b', cap, rest, rfl, hb'⟩
      · cases hb
      · simp only [blk, Option.some.injEq] at hb
        subst hb; rw [hb'] at hs; cases hs
        have : ∀ (xs : List Bool), c ∈ bools xs → Plain c := fun xs hx => by obtain ⟨y, _, rfl⟩ := List.mem_map.1 hx; exact Plain.bool _
        exact (List.mem_append.1 hc).elim (this _) (this _)
    · rw [h.lla.at_.has hb] at hs; cases hs
      obtain ⟨x, hx, hcx⟩ := List.mem_flatMap.1 hc
      obtain ⟨i, hi, rfl⟩ := List.getElem_of_mem hx
      obtain ⟨a, m, ha, hm, e⟩ := els_get (List.getElem?_eq_getElem hi)
      obtain ⟨a', hat⟩ := h.lla.rows.has (List.mem_of_getElem? hm)
      rw [e, elV_cells hat.cells] at hcx
      rcases List.mem_append.1 hcx with h1 | h1
      · exact (preS_ok.one a c h1).2
      · rw [List.mem_singleton.1 h1]; exact hat.plain0
    · obtain ⟨a, hat⟩ := h.lla.rows.has hm
      rw [hat.has hb] at hs; cases hs
      obtain ⟨x, hx, hcx⟩ := List.mem_flatMap.1 hc
      obtain ⟨y, _, rfl⟩ := List.mem_map.1 hx
      rw [List.mem_singleton.1 hcx]; exact Plain.int _ _
theorem Prove_ownL {inp : Int} {e : Ex} (hsz : sizeE e ≤ 2000000) :
    ACalls Try.prog Γ 7 [.int .i64 inp, exV e] emp fun r s => ∃ qv q qs, r = .tup [.agg [.bool (ansE inp e).valid, qv, q], .int .i64 (ansE inp e).code] ∧ AnsO emp (ansE inp e) qv q qs s ∧ ∀ b, s b ≠ none → AnsBlk qv q qs b := by
  classical
  refine ACalls.conv (Prove_own hsz) ?_
  rintro r s ⟨-, qv, q, qs, rfl, hA⟩
  refine ⟨_, fun d => if AnsBlk qv q qs d then s d else none, ⟨fun d x h => ?_, .refl _⟩, qv, q, qs, rfl, hA.to fun b hb => if_pos hb, fun b hb => ?_⟩
  · dsimp only at h
    split at h
    · exact h
    · cases h
  · dsimp only at hb
    by_cases e : AnsBlk qv q qs b
    · exact e
    · rw [if_neg e] at hb; exact absurd rfl hb
set_option maxHeartbeats 4000000 in
set_option maxRecDepth 100000 in
theorem fnExactProve_ok {inp : Int} {e : Ex} (hE : LenE e) : Ret Try.prog Γ 3 [.int .i64 inp, exV e] σ (.bool true) σ := by
  have he1 := exC_one e
  have hel : (exC e).length = 3 := exC_len e
  refine ret_of c3_ok rfl ?_
  simp (disch := omega) only [c3, go_sem]
  refine SRun.boxR (by show ∀ c ∈ (exV e).cells, _; rw [cells_exV]; exact exC_one e) ?_
  intro b3 hb3
  have g3 := upd_same σ b3 (exC e)
  have hσ : ∀ d y, σ d = some y → upd σ b3 (exC e) d = some y := le_upd hb3
  simp (disch := omega) only [cells_exV, go_sem]
  generalize upd σ b3 (exC e) = s1 at *
  refine SRun.callQ (szEx_ok e hE ⟨by omega, by omega⟩) ⟨[], rfl, rfl⟩ rfl ?_
  rintro r s ⟨m, rfl, hs, hm1, hm2, hm3⟩
  obtain rfl := hs.symm
  simp (disch := omega) only [go_sem]
  first | refine iteW_dec (fun q1 => ?_) (fun q1 => ?_) | refine iteW_of (fun q1 => ?_) (fun q1 => ?_)
  · simp (disch := omega) only [go_sem]
    exact W_retC c3_ok rfl (Conv.drop _ hσ) ⟨rfl, rfl⟩
  have hsz : sizeE e ≤ 2000000 := by have h1 := hm3 (by omega); have h2 := sizeE_below e; omega
  clear hm1 hm2 hm3 q1
  obtain ⟨a1, a2, a3⟩ := ansE_small inp e
  have F1 := fun Γ σ => specProve_ok (Γ := Γ) (σ := σ) (inp := inp) hsz
  have F2 := fun Γ σ => Prove_ok (Γ := Γ) (σ := σ) (inp := inp) hsz
  have F3 := fun Γ => Prove_ownL (Γ := Γ) (inp := inp) hsz
  rw [ansV_W] at F1 F2
  generalize ansE inp e = A at *
  have hll : (lensS A.steps).length = A.steps.length := by simp [lensS]
  have hls : ∀ x ∈ lensS A.steps, x ≤ 12 := fun n hn => by obtain ⟨s, hs, rfl⟩ := List.mem_map.1 hn; exact a3 s hs
  have hle13 := endS_le (lensS A.steps) (1 + A.vals.length) hls
  have hge := endS_ge (lensS A.steps) (1 + A.vals.length)
  have E1 := fun Γ σ => eqAnswer_ok (Γ := Γ) (σ := σ) (v := A.valid) (bs := A.vals) (st := A.steps) (by omega) (by omega) (fun s hs => by have := a3 s hs; omega)
  have H1 := fun Γ σ => heldAnswer_ok (Γ := Γ) (σ := σ) (v := A.valid) (n := A.vals.length) (ls := lensS A.steps) (k := 1) (by omega) (by omega) (fun x hx => by have := hls x hx; omega) (by omega) (by omega)
  have hcc : (decide ¬ A.code = A.code) = false := by simp
  have hnt : (!true) = false := rfl
  simp (disch := omega) only [g3, go_sem]
  refine SRun.callR (toEx_ok hsz) ⟨[], rfl, rfl⟩ rfl ?_
  simp (disch := omega) only [go_sem]
  refine SRun.callR (F1 _ _) ⟨[], rfl, rfl⟩ rfl ?_
  simp (disch := omega) only [ansW, boolsV, go_sem]
  refine SRun.allocR ?_
  intro b6 hb6
  simp (disch := omega) only [go_sem]
  have g36 := le_upd (cs := ansK A.valid A.vals A.steps) hb6 _ _ g3
  have g6 := upd_same s1 b6 (ansK A.valid A.vals A.steps)
  have hσ2 : ∀ d y, σ d = some y → upd s1 b6 (ansK A.valid A.vals A.steps) d = some y := fun d y h => le_upd hb6 _ _ (hσ d y h)
  have hst6 : upd s1 b6 [.bool A.valid, .isl false 1 (bools A.vals), .isl false 2 (stV A.steps)] = upd s1 b6 (ansK A.valid A.vals A.steps) := rfl
  rw [hst6]
  clear hst6
  generalize upd s1 b6 (ansK A.valid A.vals A.steps) = s2 at *
  simp (disch := omega) only [g36, go_sem]
  refine SRun.callQ (toEx_own e hsz) ⟨[], rfl, rfl⟩ rfl ?_
  rintro r s3 ⟨q, bs, rfl, hk, hnd, hfr, hle3⟩
  have hq1 := hk.one.1
  simp (disch := omega) only [go_sem]
  refine SRun.allocR ?_
  intro b8 hb8
  have hone : (∀ c, c ∈ [V.int .i64 (exK e), V.int .i64 (exN e), q] → c.one = true) = True := eq_true fun c hc => by
    simp only [List.mem_cons, List.not_mem_nil, or_false] at hc
    rcases hc with rfl | rfl | rfl
    · rfl
    · rfl
    · exact hq1
  have hl3 : [V.int .i64 (exK e), V.int .i64 (exN e), q].length = 3 := rfl
  have hset8 : sets [V.int .i64 0, V.int .i64 0, V.isl true 0 []] 0 [V.int .i64 (exK e), V.int .i64 (exN e), q] = [V.int .i64 (exK e), V.int .i64 (exN e), q] := rfl
  have ht3 : [V.int .i64 (exK e), V.int .i64 (exN e), q].take 3 = [V.int .i64 (exK e), V.int .i64 (exN e), q] := rfl
  simp (disch := omega) only [hone, hl3, hset8, go_sem]
  have g8 := upd_same s3 b8 [V.int .i64 (exK e), V.int .i64 (exN e), q]
  have hle4 := le_upd (cs := [V.int .i64 (exK e), V.int .i64 (exN e), q]) hb8
  have hb8n : b8 ∉ bs := fun h => kidsAt.has e q bs hk _ h hb8
  have hk4 : kidsAt (upd s3 b8 [V.int .i64 (exK e), V.int .i64 (exN e), q]) e q bs := kidsAt.more e q bs hk fun b _ c hc => hle4 _ _ hc
  have le24 : ∀ b c, s2 b = some c → upd s3 b8 [V.int .i64 (exK e), V.int .i64 (exN e), q] b = some c := fun b c h => hle4 _ _ (hle3 _ _ h)
  have n28 : s2 b8 = none := none_of hle3 b8 hb8
  clear hk
  generalize upd s3 b8 [V.int .i64 (exK e), V.int .i64 (exN e), q] = s4 at *
  refine SRun.callQ (ACalls.lend (F3 _) (args := [.int .i64 inp, .agg [.int .i64 (exK e), .int .i64 (exN e), q]]) rfl (frzL_get (by exact ⟨.refl _, hk4.lend, trivial⟩)) ?_) ⟨[], rfl, rfl⟩ rfl ?_
  · rintro r s ⟨qv, q2, qs, rfl, hA, hon⟩
    obtain ⟨p1, p2, p3⟩ := hA.plain
    refine ⟨Plain.tup fun x hx => ?_, fun b cs hb c hc => p3 b (hon b (by rw [hb]; simp)) cs hb c hc⟩
    simp only [List.mem_cons, List.not_mem_nil, or_false] at hx
    rcases hx with rfl | rfl
    · refine Plain.agg fun x hx => ?_
      simp only [List.mem_cons, List.not_mem_nil, or_false] at hx
      rcases hx with rfl | rfl | rfl
      · exact Plain.bool _
      · exact p1
      · exact p2
    · exact Plain.int _ _
  rintro r s7 ⟨s', rfl, hdj, qv, q2, qs, rfl, hA, hon⟩
  have hle7 : ∀ b c, s4 b = some c → cup s' s4 b = some c := fun b c h => by
    rcases hdj b with h1 | h1
    · unfold cup; rw [h1]; exact h
    · rw [h1] at h; cases h
  have hnew : ∀ b, AnsBlk qv q2 qs b → s4 b = none := fun b hb => (hdj b).resolve_left (hA.has hb)
  have hA1 := hA.mono (t := cup s' s4) fun b c hc => cup_of_some hc
  have hA7 : AnsO s4 A qv q2 qs (cup s' s4) := ⟨hA1.vals, fun b hb => hnew b (.inl hb), ⟨hA1.lla.at_, ⟨hA1.lla.rows.len, hA1.lla.rows.at_, fun m hm b hb => hnew b (.inr (.inr ⟨m, hm, hb⟩)), hA1.lla.rows.ap⟩, fun b hb => hnew b (.inr (.inl hb)), hA1.lla.ap⟩, hA1.ap, hA1.aps⟩
  clear hA hA1 hon hdj
  generalize cup s' s4 = s7 at *
  have hqv1 := hA7.vals.one.1
  have hq21 := hA7.lla.at_.one
  simp (disch := omega) only [go_sem]
  refine SRun.allocR ?_
  intro b9 hb9
  have hone9 : (∀ c, c ∈ [V.bool A.valid, qv, q2] → c.one = true) = True := eq_true fun c hc => by
    simp only [List.mem_cons, List.not_mem_nil, or_false] at hc
    rcases hc with rfl | rfl | rfl
    · rfl
    · exact hqv1
    · exact hq21
  have hl9 : [V.bool A.valid, qv, q2].length = 3 := rfl
  have hset9 : sets [V.bool false, V.isl true 0 [], V.isl true 0 []] 0 [V.bool A.valid, qv, q2] = [V.bool A.valid, qv, q2] := rfl
  have ht9 : [V.bool A.valid, qv, q2].take 3 = [V.bool A.valid, qv, q2] := rfl
  simp (disch := omega) only [hone9, hl9, hset9, go_sem]
  have g9 := upd_same s7 b9 [V.bool A.valid, qv, q2]
  have hle8 := le_upd (cs := [V.bool A.valid, qv, q2]) hb9
  have hA8 := hA7.mono hle8
  have g88 := hle8 _ _ (hle7 _ _ g8)
  have g38 := hle8 _ _ (hle7 _ _ (le24 _ _ g36))
  have g68 := hle8 _ _ (hle7 _ _ (le24 _ _ g6))
  have hk8 : kidsAt (upd s7 b9 [V.bool A.valid, qv, q2]) e q bs := kidsAt.more e q bs hk4 fun b _ c hc => hle8 _ _ (hle7 _ _ hc)
  have hσ8 : ∀ d y, σ d = some y → upd s7 b9 [V.bool A.valid, qv, q2] d = some y := fun d y h => hle8 _ _ (hle7 _ _ (le24 _ _ (hσ2 _ _ h)))
  have n9 : s4 b9 = none := none_of hle7 b9 hb9
  -- what the marks on the argument leave
  have hab : ∀ b, AnsBlk qv q2 qs b → b ∉ bs := fun b h1 h2 => kidsAt.has e q bs hk4 b h2 (hnew b h1)
  have hb9n : b9 ∉ bs := fun h => kidsAt.has e q bs hk4 _ h n9
  have hb3n : b3 ∉ bs := fun h => by have := hfr b3 h; rw [g36] at this; cases this
  have hb6n : b6 ∉ bs := fun h => by have := hfr b6 h; rw [g6] at this; cases this
  have hσn : ∀ d y, σ d = some y → d ∉ bs := fun d y hd h => by have := hfr d h; rw [hσ2 d y hd] at this; cases this
  have hσa : ∀ d y, σ d = some y → ¬ AnsBlk qv q2 qs d := fun d y hd h => by have := hnew d h; rw [le24 _ _ (hσ2 d y hd)] at this; cases this
  have ha3 : ¬ AnsBlk qv q2 qs b3 := fun h => by have := hnew _ h; rw [le24 _ _ g36] at this; cases this
  have ha6 : ¬ AnsBlk qv q2 qs b6 := fun h => by have := hnew _ h; rw [le24 _ _ g6] at this; cases this
  have ha9 : ¬ AnsBlk qv q2 qs b9 := fun h => hA7.has h hb9
  generalize upd s7 b9 [V.bool A.valid, qv, q2] = s8 at *
  have h6t : (ansK A.valid A.vals A.steps).take 3 = ansK A.valid A.vals A.steps := rfl
  have h6l : (ansK A.valid A.vals A.steps).length = 3 := rfl
  have hAgg : V.agg (ansK A.valid A.vals A.steps) = ansW A.valid A.vals A.steps := rfl
  simp (disch := omega) only [g9, ht9, hl9, g68, h6t, h6l, hAgg, go_sem]
  refine SRun.callR (Ret.lendL (E1 _ _) (by exact ⟨ansW_lend hA8, .refl _, trivial⟩) (Plain.bool _)) ⟨[], rfl, rfl⟩ rfl ?_
  simp (disch := omega) only [hcc, hnt, go_sem]
  refine W_drawW ?_
  refine DRun.mixE rfl ?_
  simp (disch := omega) only [g88, g38, ht3, hl3, hel, go_sem]
  refine DS.callB (toEx_ok hsz) ⟨[], rfl, rfl⟩ rfl rfl ?_
  simp (disch := omega) only [go_sem]
  refine DRun.callQ (Ret.lendL (eqEx_ok e hsz) (by exact ⟨hk8.lend, .refl _, trivial⟩) (Plain.bool _)) ⟨[], rfl, rfl⟩ ?_
  rintro r s ⟨rfl, hs⟩
  obtain rfl := hs.symm
  simp (disch := omega) only [g88, ht3, hl3, go_sem]
  refine SRun.callQ (markEx_at (k := 1) hk8 hnd hsz (by omega) (by omega)) ⟨[], rfl, rfl⟩ rfl ?_
  rintro r s9 ⟨rfl, hk9, ho9⟩
  have keep : ∀ d c, d ∉ bs → s8 d = some c → s9 d = some c := fun d c hd hc => (ho9 d hd (by rw [hc]; simp)).trans hc
  have hA9 : AnsO s4 A qv q2 qs s9 := hA8.to fun b hb => ho9 b (hab b hb) (hA8.has hb)
  have g39 := keep _ _ hb3n g38
  have g69 := keep _ _ hb6n g68
  have g99 := keep _ _ hb9n g9
  have hσ9 : ∀ d y, σ d = some y → s9 d = some y := fun d y h => keep _ _ (hσn d y h) (hσ8 d y h)
  have hbd := numE_bound e 1
  clear keep ho9 hk9 hk8 hk4
  generalize (numE e 1).2 = k9 at *
  have d9 : decide (k9 < 0) = false := decide_eq_false (by omega)
  simp (disch := omega) only [d9, g99, ht9, hl9, g69, h6t, h6l, hAgg, go_sem]
  refine SRun.callR (Ret.lendL (E1 _ _) (by exact ⟨ansW_lend hA9, .refl _, trivial⟩) (Plain.bool _)) ⟨[], rfl, rfl⟩ rfl ?_
  simp (disch := omega) only [hcc, hnt, g99, ht9, hl9, go_sem]
  refine SRun.callQ (markAnswer_at (k := 1) hA9 (by omega) (by omega) (fun x hx => by have := a3 x hx; omega) (by omega) (by omega)) ⟨[], rfl, rfl⟩ rfl ?_
  rintro r s10 ⟨rfl, hA10, ho10⟩
  have keep : ∀ d c, ¬ AnsBlk qv q2 qs d → s9 d = some c → s10 d = some c := fun d c hd hc => (ho10 d (fun h => hd (.inl h)) (fun h => hd (.inr (.inl h))) (fun m hm h => hd (.inr (.inr ⟨m, hm, h⟩))) (by rw [hc]; simp)).trans hc
  have g310 := keep _ _ ha3 g39
  have g610 := keep _ _ ha6 g69
  have g910 := keep _ _ ha9 g99
  have hσ10 : ∀ d y, σ d = some y → s10 d = some y := fun d y h => keep _ _ (hσa d y h) (hσ9 d y h)
  clear keep ho10
  generalize endS (1 + A.vals.length) (lensS A.steps) = E at *
  have d0 : decide (E < 0) = false := decide_eq_false (by omega)
  have dE : (decide ¬ E = E) = false := by simp
  simp (disch := omega) only [g910, ht9, hl9, go_sem]
  refine SRun.callR (Ret.lendL (H1 _ _) (by exact ⟨ansW_lend hA10, .refl _, trivial⟩) (Plain.int _ _)) ⟨[], rfl, rfl⟩ rfl ?_
  simp (disch := omega) only [d0, dE, g310, go_sem]
  refine SRun.callR (toEx_ok hsz) ⟨[], rfl, rfl⟩ rfl ?_
  simp (disch := omega) only [go_sem]
  refine SRun.callR (F2 _ _) ⟨[], rfl, rfl⟩ rfl ?_
  simp (disch := omega) only [ansW, boolsV, go_sem]
  refine SRun.allocR ?_
  intro b14 hb14
  simp (disch := omega) only [go_sem]
  have le13 := le_upd (cs := ansK A.valid A.vals A.steps) hb14
  have g611 := le13 _ _ g610
  have g911 := le13 _ _ g910
  have g14 := upd_same s10 b14 (ansK A.valid A.vals A.steps)
  have hA11 := hA10.mono le13
  have hst14 : upd s10 b14 [.bool A.valid, .isl false 1 (bools A.vals), .isl false 2 (stV A.steps)] = upd s10 b14 (ansK A.valid A.vals A.steps) := rfl
  rw [hst14]
  clear hst14
  have hσ11 : ∀ d y, σ d = some y → upd s10 b14 (ansK A.valid A.vals A.steps) d = some y := fun d y h => le13 _ _ (hσ10 d y h)
  generalize upd s10 b14 (ansK A.valid A.vals A.steps) = s11 at *
  simp (disch := omega) only [g14, g611, h6t, h6l, hAgg, go_sem]
  refine SRun.callR (E1 _ _) ⟨[], rfl, rfl⟩ rfl ?_
  simp (disch := omega) only [hcc, hnt, g911, ht9, hl9, go_sem]
  refine SRun.callR (Ret.lendL (H1 _ _) (by exact ⟨ansW_lend hA11, .refl _, trivial⟩) (Plain.int _ _)) ⟨[], rfl, rfl⟩ rfl ?_
  simp (disch := omega) only [d0, dE, go_sem]
  exact W_retC c3_ok rfl (Conv.drop _ hσ11) ⟨rfl, rfl⟩
end Go.Proofs.Ytdenfjbhkdhlkaa.Lg
