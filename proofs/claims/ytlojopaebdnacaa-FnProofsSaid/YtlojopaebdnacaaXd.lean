/- The plain law of FnPropagates. No program is in sight here. -/
import Derived.Test.YtlojopaebdnacaaSc
import Derived.Test.YtlojopaebdnacaaMg
set_option linter.unusedSimpArgs false
set_option linter.unusedVariables false
namespace Go.Proofs.Ytlojopaebdnacaa.Lg
open Go
theorem agrees_set {vars : Int} {vals : List Int} {bs : List Bool} {y : Int} (hl : (vals.length : Int) = vars + 1) (hy : litOK vars y) (ha : agrees vars vals bs) (hyt : litV bs y = true) : agrees vars (setT vals y) bs := by
  intro x hx hxt
  rw [isT_setT hl hx hy] at hxt
  split at hxt
  · rename_i e; rw [e]; exact hyt
  · split at hxt
    · cases hxt
    · exact ha x hx hxt
theorem negGo_agrees {vars : Int} {bs : List Bool} : ∀ {c vals v : List Int}, negGo vals c = some v → (vals.length : Int) = vars + 1 → (∀ x ∈ c, litOK vars x) → agrees vars vals bs → (∀ x ∈ c, litV bs x = false) → agrees vars v bs := by
  intro c
  induction c with
  | nil => intro vals v h _ _ ha _; simp only [negGo, Option.some.injEq] at h; subst h; exact ha
  | cons x r ih =>
    intro vals v h hl hc ha hf
    simp only [negGo] at h
    cases h1 : isT vals x with
    | true => rw [h1] at h; cases h
    | false =>
      rw [h1] at h
      have hx := hc x (by simp)
      exact ih h (by rw [setT_length]; exact hl) (fun y hy => hc y (by simp [hy])) (agrees_set hl (litOK_neg hx) ha (by rw [litV_neg hx.1, hf x (by simp)]; rfl)) (fun y hy => hf y (by simp [hy]))
end Go.Proofs.Ytlojopaebdnacaa.Lg
/- The plain law of FnRups: what is RUP is implied, what is RAT takes no last model. No program is in sight here. -/
set_option linter.unusedSimpArgs false
set_option linter.unusedVariables false
namespace Go.Proofs.Ytlojopaebdnacaa.Lg
open Go
theorem negGo_none {vars : Int} {bs : List Bool} : ∀ {c vals : List Int}, negGo vals c = none → (vals.length : Int) = vars + 1 → (∀ x ∈ c, litOK vars x) → agrees vars vals bs → (∀ x ∈ c, litV bs x = false) → False := by
  intro c
  induction c with
  | nil => intro vals h; simp [negGo] at h
  | cons x r ih =>
    intro vals h hl hc ha hf
    simp only [negGo] at h
    have hx := hc x (by simp)
    cases h1 : isT vals x with
    | true => have := ha x hx h1; rw [hf x (by simp)] at this; cases this
    | false =>
      rw [h1] at h
      exact ih h (by rw [setT_length]; exact hl) (fun y hy => hc y (by simp [hy])) (agrees_set hl (litOK_neg hx) ha (by rw [litV_neg hx.1, hf x (by simp)]; rfl)) (fun y hy => hf y (by simp [hy]))
theorem agrees_zero (vars : Int) (bs : List Bool) : agrees vars (zeroVals vars) bs := fun x hx hxt => by rw [isT_zero hx] at hxt; cases hxt
theorem rup_sound {vars : Int} {cls : List (List Int)} {c : List Int} (hv : 0 ≤ vars) (hcls : ClsOK vars cls) (hc : ∀ x ∈ c, litOK vars x) (h : rupP vars cls c = true) {bs : List Bool} (he : evalB cls bs = true) : c.any (litV bs) = true := by
  cases ha : c.any (litV bs) with
  | true => rfl
  | false =>
    exfalso
    have hf : ∀ x ∈ c, litV bs x = false := fun x hx => by
      rw [List.any_eq_false] at ha; simpa using ha x hx
    have hl0 := zeroVals_len hv
    unfold rupP at h
    cases hn : negGo (zeroVals vars) c with
    | none => exact negGo_none hn hl0 hc (agrees_zero _ _) hf
    | some v =>
      rw [hn] at h
      obtain ⟨hl, ht⟩ := negGo_keeps hn hl0 (zeroVals_tri _)
      have hag := negGo_agrees hn hl0 hc (agrees_zero _ _) hf
      have := ((propGo_spec hcls (zeros v + 1) v [] (Nat.lt_succ_self _) hl ht).2.1 bs hag he).1
      simp at h; omega
theorem litV_set {vars l : Int} {bs : List Bool} (hl : litOK vars l) (hbl : (bs.length : Int) = vars) {x : Int} (hx : litOK vars x) : litV (bs.set (l.natAbs - 1) (decide (l > 0))) x = if x = l then true else if x = -l then false else litV bs x := by
  have h1 := hl.1
  have h2 := hl.2
  have h3 := hx.1
  have h4 := hx.2
  unfold litV
  by_cases he : l.natAbs = x.natAbs
  · have hg : (bs.set (l.natAbs - 1) (decide (l > 0))).getD (x.natAbs - 1) false = decide (l > 0) := by
      rw [← he]; simp [List.getD, (by omega : l.natAbs - 1 < bs.length)]
    rw [hg]
    by_cases hxl : x = l
    · subst hxl; simp
    · have hxn : x = -l := by omega
      rw [if_neg hxl, if_pos hxn]
      by_cases hp : l > 0
      · rw [decide_eq_true hp, decide_eq_false (by omega)]; rfl
      · rw [decide_eq_false hp, decide_eq_true (by omega)]; rfl
  · have hg : (bs.set (l.natAbs - 1) (decide (l > 0))).getD (x.natAbs - 1) false = bs.getD (x.natAbs - 1) false := by
      simp [List.getD, List.getElem?_set_ne (by omega : l.natAbs - 1 ≠ x.natAbs - 1)]
    rw [hg, if_neg (by omega), if_neg (by omega)]
theorem rat_sound {vars : Int} {cls : List (List Int)} {c : List Int} (hv : 0 ≤ vars) (hcls : ClsOK vars cls) (hc : ∀ x ∈ c, litOK vars x) (h : ratP vars cls c = true) {bs : List Bool} (hbl : (bs.length : Int) = vars) (he : evalB cls bs = true) : ∃ bs', evalB (cls ++ [c]) bs' = true := by
  cases c with
  | nil => simp [ratP] at h
  | cons l r =>
    have hl := hc l (by simp)
    have happ : ∀ bs, evalB (cls ++ [l :: r]) bs = (evalB cls bs && (l :: r).any (litV bs)) := fun bs => by simp [evalB, List.all_append]
    cases ha : (l :: r).any (litV bs) with
    | true => exact ⟨bs, by rw [happ, he, ha]; rfl⟩
    | false =>
      have hf : ∀ x ∈ l :: r, litV bs x = false := fun x hx => by
        rw [List.any_eq_false] at ha; simpa using ha x hx
      refine ⟨bs.set (l.natAbs - 1) (decide (l > 0)), ?_⟩
      rw [happ, Bool.and_eq_true]
      have hset := fun {x} (hx : litOK vars x) => litV_set hl hbl hx
      refine ⟨?_, List.any_eq_true.2 ⟨l, by simp, by rw [hset hl, if_pos rfl]⟩⟩
      simp only [evalB, List.all_eq_true, List.any_eq_true]
      intro d hd
      have keep : ∀ y ∈ d, y ≠ -l → litV bs y = true → ∃ x ∈ d, litV (bs.set (l.natAbs - 1) (decide (l > 0))) x = true := by
        intro y hy hne hyt
        refine ⟨y, hy, ?_⟩
        rw [hset (hcls.2 d hd y hy), if_neg hne]
        split
        · rfl
        · exact hyt
      obtain ⟨y, hy, hyt⟩ := eval_mem he hd
      by_cases hne : y = -l
      · have hcon : d.contains (-l) = true := List.contains_iff_mem.2 (hne ▸ hy)
        have hr := List.all_eq_true.1 h d hd
        simp only [ratOf, hcon, Bool.not_true, Bool.false_or] at hr
        have hs := rup_sound hv hcls (fun x hx => by
          rcases List.mem_append.1 hx with h | h
          · exact hc x h
          · exact hcls.2 d hd x (List.mem_filter.1 h).1) hr he
        rw [List.any_append, ha, Bool.false_or, List.any_eq_true] at hs
        obtain ⟨z, hz, hzt⟩ := hs
        obtain ⟨hz1, hz2⟩ := List.mem_filter.1 hz
        exact keep z hz1 (by simpa using hz2) hzt
      · exact keep y hy hne hyt
theorem rat_law {vars : Int} {cls : List (List Int)} {c : List Int} (hv : 0 ≤ vars) (hcls : ClsOK vars cls) (hcls2 : ClsOK vars (cls ++ [c])) (hc : ∀ x ∈ c, litOK vars x) (h : ratP vars cls c = true) : (leastA (modelP vars cls)).2 = (leastA (modelP vars (cls ++ [c]))).2 := by
  obtain ⟨a1, a2⟩ := modelP_spec hv hcls
  obtain ⟨b1, b2⟩ := modelP_spec hv hcls2
  have happ : ∀ bs, evalB (cls ++ [c]) bs = (evalB cls bs && c.any (litV bs)) := fun bs => by simp [evalB, List.all_append]
  cases h1 : modelP vars cls with
  | none =>
    cases h2 : modelP vars (cls ++ [c]) with
    | none => rfl
    | some v =>
      have := (b2 v h2).1
      rw [happ, a1 h1] at this; cases this
  | some v =>
    cases h2 : modelP vars (cls ++ [c]) with
    | some v2 => rfl
    | none =>
      obtain ⟨bs', hb'⟩ := rat_sound hv hcls hc h (a2 v h1).2 (a2 v h1).1
      rw [b1 h2] at hb'; cases hb'
end Go.Proofs.Ytlojopaebdnacaa.Lg
/- The law FnRups over its code. -/
set_option linter.unusedSimpArgs false
set_option linter.unusedVariables false
namespace Go.Proofs.Ytlojopaebdnacaa.Lg
open Go
attribute [local irreducible] SRun DS DRun
variable {Γ : St} {σ σ0 : St}
theorem l01Has_ok {ex : Bool} {xs : List Int} {y : Int} (hl : xs.length ≤ 1000000000) : Ret Try.prog Γ 75 [.isl ex 1 (ints xs), .int .i64 y] σ (.bool (xs.contains y)) σ := by
  refine ret_of c75_ok rfl ?_
  simp (disch := omega) only [c75, go_sem]
  refine W_loopC (fun i : Nat => i ≤ xs.length ∧ ∀ j, j < i → xs.getD j 0 ≠ y) (fun i => [(0, .isl ex 1 (ints xs)), (1, .int .i64 y), (5, .int .i64 i)]) (fun _ => σ) (fun i => xs.length - i) 0 ⟨by omega, fun j hj => by omega⟩ (by simp (disch := omega) only [subT, Int.natCast_add, Int.cast_ofNat_Int, go_sem] <;> (repeat' apply And.intro) <;> first | rfl | (congr 1; omega) | assumption) rfl ?_
  rintro i ⟨hi, hno⟩ ih
  simp (disch := omega) only [go_sem]
  first | refine iteW_dec (fun hq => ?_) (fun hq => ?_) | refine iteW_of (fun hq => ?_) (fun hq => ?_)
  · simp (disch := omega) only [go_sem]
    first | refine iteW_dec (fun h1 => ?_) (fun h1 => ?_) | refine iteW_of (fun h1 => ?_) (fun h1 => ?_)
    · simp (disch := omega) only [go_sem]
      refine W_retR c75_ok rfl ⟨?_, rfl⟩
      simp only [look, ev, V.bool.injEq, V.int.injEq, V.str.injEq, V.tup.injEq, V.agg.injEq, V.isl.injEq, List.cons.injEq, true_and, and_true, Nat.reduceEqDiff, Nat.reduceAdd, Nat.reduceSub, Nat.reduceMul, Nat.reducePow, Nat.reduceDiv, Nat.reduceMod, Int.reduceToNat, Nat.reduceLeDiff, Nat.reduceLT, Int.reduceEq, Int.reduceLT, Int.reduceLE, Int.reduceGT, Int.reduceGE, Int.reduceNeg, Int.reduceSub, Int.reduceAdd, Int.reduceMul, Int.reducePow, ne_eq, reduceCtorEq, ↓reduceIte]
      exact (List.contains_iff_mem.2 (h1 ▸ getD_mem 0 (by omega))).symm
    · simp (disch := omega) only [go_sem]
      refine ih (i + 1) _ _ ⟨by omega, fun j hj => ?_⟩ (by omega) (by simp (disch := omega) only [subT, Int.natCast_add, Int.cast_ofNat_Int, go_sem] <;> (repeat' apply And.intro) <;> first | rfl | (congr 1; omega) | assumption) rfl
      by_cases hji : j = i
      · subst hji; exact h1
      · exact hno j (by omega)
  · simp (disch := omega) only [go_sem]
    refine W_retR c75_ok rfl ⟨?_, rfl⟩
    simp only [look, ev, V.bool.injEq, V.int.injEq, V.str.injEq, V.tup.injEq, V.agg.injEq, V.isl.injEq, List.cons.injEq, true_and, and_true, Nat.reduceEqDiff, Nat.reduceAdd, Nat.reduceSub, Nat.reduceMul, Nat.reducePow, Nat.reduceDiv, Nat.reduceMod, Int.reduceToNat, Nat.reduceLeDiff, Nat.reduceLT, Int.reduceEq, Int.reduceLT, Int.reduceLE, Int.reduceGT, Int.reduceGE, Int.reduceNeg, Int.reduceSub, Int.reduceAdd, Int.reduceMul, Int.reducePow, ne_eq, reduceCtorEq, ↓reduceIte]
    symm
    rw [Bool.eq_false_iff]; intro e
    obtain ⟨j, hj, hje⟩ := List.getElem_of_mem (List.contains_iff_mem.1 e)
    have := hno j (by omega)
    simp [List.getD, hj, hje] at this
theorem l03Rat_ok {ex : Bool} {vars : Int} {cls : List (List Int)} {c : List Int} (hv : 0 ≤ vars ∧ vars ≤ 1000) (hcls : ClsOK vars cls) (hc : ∀ x ∈ c, litOK vars x) (hcl : c.length ≤ 1000) (hdl : ∀ d ∈ cls, d.length ≤ 1000) :
    Ret Try.prog Γ 66 [.isl ex 1 (clsV cls), .int .i64 vars, intsV c] σ (.bool (ratP vars cls c)) σ := by
  have hcl2 := hcls.1.1
  refine ret_of c66_ok rfl ?_
  simp (disch := omega) only [c66, intsV, go_sem]
  cases c with
  | nil =>
    have h0 : ((List.length ([] : List Int) : Nat) : Int) = 0 := rfl
    simp (disch := omega) only [h0, go_sem]
    refine W_retR c66_ok rfl ⟨?_, rfl⟩
    rfl
  | cons l r =>
    have hlen : (l :: r).length = r.length + 1 := rfl
    have hneg : (0 : Int) - l = -l := by omega
    have hl2 := (hc l (by simp)).2
    simp (disch := omega) only [go_sem]
    refine W_loopC (fun i : Nat => i ≤ cls.length ∧ (cls.take i).all (ratOf vars cls (l :: r) l) = true) (fun i => [(0, .isl ex 1 (clsV cls)), (1, .int .i64 vars), (2, .isl false 1 (ints (l :: r))), (7, .int .i64 l), (8, .int .i64 i)]) (fun _ => σ) (fun i => cls.length - i) 0 ⟨by omega, rfl⟩ (by simp (disch := omega) only [subT, Int.natCast_add, Int.cast_ofNat_Int, go_sem] <;> (repeat' apply And.intro) <;> first | rfl | (congr 1; omega) | assumption) rfl ?_
    rintro i ⟨hi, hall⟩ ih
    simp (disch := omega) only [go_sem]
    first | refine iteW_dec (fun hq => ?_) (fun hq => ?_) | refine iteW_of (fun hq => ?_) (fun hq => ?_)
    · have hmem := getD_mem [] (by omega : i < cls.length)
      have hsome := getD_some [] (by omega : i < cls.length)
      have hdl1 := hdl _ hmem
      have hdlit := hcls.2 _ hmem
      simp (disch := omega) only [hneg, intsV, go_sem]
      generalize hde : cls.getD i [] = d at hmem hsome hdl1 hdlit ⊢
      refine SRun.callR (l01Has_ok (ex := false) (xs := d) (y := -l) (by omega)) ⟨[], rfl, rfl⟩ rfl ?_
      simp (disch := omega) only [List.getD_cons_zero, List.getD_cons_succ, go_sem]
      first | refine iteW_dec (fun h1 => ?_) (fun h1 => ?_) | refine iteW_of (fun h1 => ?_) (fun h1 => ?_)
      · have h1' : d.contains (-l) = false := by simpa using h1
        simp (disch := omega) only [go_sem]
        refine ih (i + 1) _ _ ⟨by omega, all_take hall hsome (by unfold ratOf; rw [h1']; rfl)⟩ (by omega) (by simp (disch := omega) only [subT, Int.natCast_add, Int.cast_ofNat_Int, go_sem] <;> (repeat' apply And.intro) <;> first | rfl | (congr 1; omega) | assumption) rfl
      · have h1' : d.contains (-l) = true := by simpa using h1
        simp (disch := omega) only [go_sem]
        refine SRun.appL (OwnL.nil 1 1) rfl (ints_ok _) (by simp only [List.length_nil, ints_len]; omega) ?_
        intro r9 σ1 ho
        rw [List.nil_append] at ho
        simp (disch := omega) only [go_sem]
        refine W_loopC (fun p : Nat × V × St => p.1 ≤ d.length ∧ OwnL σ 1 (ints ((l :: r) ++ (d.take p.1).filter fun y => decide (¬ y = -l))) p.2.1 p.2.2) (fun p => [(0, .isl ex 1 (clsV cls)), (1, .int .i64 vars), (2, .isl false 1 (ints (l :: r))), (7, .int .i64 l), (8, .int .i64 i), (9, p.2.1), (10, .int .i64 p.1)]) (fun p => p.2.2) (fun p => d.length - p.1) (0, r9, σ1) ⟨by simp, by simpa using ho⟩ (by simp (disch := omega) only [subT, Int.natCast_add, Int.cast_ofNat_Int, go_sem] <;> (repeat' apply And.intro) <;> first | rfl | (congr 1; omega) | assumption) rfl ?_
        rintro ⟨j, r9', σ2⟩ ⟨hj, ho2⟩ ih2
        dsimp only at hj ho2 ⊢
        have hfl : ((d.take j).filter fun y => decide (¬ y = -l)).length ≤ j := Nat.le_trans (List.length_filter_le _ _) (by simp; omega)
        simp (disch := omega) only [hde, intsV, go_sem]
        first | refine iteW_dec (fun hq2 => ?_) (fun hq2 => ?_) | refine iteW_of (fun hq2 => ?_) (fun hq2 => ?_)
        · have hfs : (d.take (j + 1)).filter (fun y => decide (¬ y = -l)) = (d.take j).filter (fun y => decide (¬ y = -l)) ++ if d.getD j 0 = -l then [] else [d.getD j 0] := by
            rw [take_succ 0 (by omega), List.filter_append, List.filter_cons]
            by_cases h : d.getD j 0 = -l
            · rw [if_pos h, decide_eq_false (fun e => e h)]; rfl
            · rw [if_neg h, decide_eq_true h]; rfl
          simp (disch := omega) only [hde, hneg, intsV, go_sem]
          first | refine iteW_dec (fun h2 => ?_) (fun h2 => ?_) | refine iteW_of (fun h2 => ?_) (fun h2 => ?_)
          · rw [if_neg h2] at hfs
            simp (disch := omega) only [hde, intsV, go_sem]
            refine SRun.appL ho2 rfl (by simp [V.cells, V.one]) (by simp only [List.length_singleton, ints_len, List.length_append]; omega) ?_
            intro r3 σ3 ho3
            rw [ints_app] at ho3
            simp (disch := omega) only [go_sem]
            refine ih2 (j + 1, r3, σ3) _ _ ⟨by simp only; omega, by simp only; rw [hfs, ← List.append_assoc]; exact ho3⟩ (by simp only; omega) (by simp (disch := omega) only [subT, Int.natCast_add, Int.cast_ofNat_Int, go_sem] <;> (repeat' apply And.intro) <;> first | rfl | (congr 1; omega) | assumption) rfl
          · rw [if_pos (by omega : d.getD j 0 = -l), List.append_nil] at hfs
            simp (disch := omega) only [go_sem]
            refine ih2 (j + 1, r9', σ2) _ _ ⟨by simp only; omega, by simp only; rw [hfs]; exact ho2⟩ (by simp only; omega) (by simp (disch := omega) only [subT, Int.natCast_add, Int.cast_ofNat_Int, go_sem] <;> (repeat' apply And.intro) <;> first | rfl | (congr 1; omega) | assumption) rfl
        · obtain rfl : j = d.length := by omega
          rw [List.take_length] at ho2
          simp (disch := omega) only [go_sem]
          refine SRun.callR (Ret.lendL (rupP_ok (ex := ex) (ex2 := false) (vars := vars) (cls := cls) (c := (l :: r) ++ d.filter fun y => decide (¬ y = -l)) hv hcls (fun x hx => by
            rcases List.mem_append.1 hx with h | h
            · exact hc x h
            · exact hdlit x (List.mem_filter.1 h).1) (by rw [List.length_append]; have := List.length_filter_le (fun y => decide (¬ y = -l)) d; omega)) (by exact ⟨.refl _, .refl _, ho2.frz (fun _ _ => rfl) (fun _ _ => rfl), trivial⟩) (Plain.bool _)) ⟨[], rfl, rfl⟩ rfl ?_
          simp (disch := omega) only [List.getD_cons_zero, List.getD_cons_succ, go_sem]
          have hans : ratOf vars cls (l :: r) l d = rupP vars cls (l :: (r ++ d.filter fun y => decide (¬ y = -l))) := by unfold ratOf; rw [h1']; rfl
          rw [← hans]
          first | refine iteW_dec (fun h3 => ?_) (fun h3 => ?_) | refine iteW_of (fun h3 => ?_) (fun h3 => ?_)
          · have h3' : ratOf vars cls (l :: r) l d = false := by simpa using h3
            simp (disch := omega) only [go_sem]
            refine W_retC c66_ok rfl (Conv.drop _ ho2.le) ⟨?_, rfl⟩
            simp only [look, ev, V.bool.injEq, V.int.injEq, V.str.injEq, V.tup.injEq, V.agg.injEq, V.isl.injEq, List.cons.injEq, true_and, and_true, Nat.reduceEqDiff, Nat.reduceAdd, Nat.reduceSub, Nat.reduceMul, Nat.reducePow, Nat.reduceDiv, Nat.reduceMod, Int.reduceToNat, Nat.reduceLeDiff, Nat.reduceLT, Int.reduceEq, Int.reduceLT, Int.reduceLE, Int.reduceGT, Int.reduceGE, Int.reduceNeg, Int.reduceSub, Int.reduceAdd, Int.reduceMul, Int.reducePow, ne_eq, reduceCtorEq, ↓reduceIte]
            exact (all_false hsome h3').symm
          · have h3' : ratOf vars cls (l :: r) l d = true := by simpa using h3
            simp (disch := omega) only [go_sem]
            refine W_freezeL (T' := [(0, .isl ex 1 (clsV cls)), (1, .int .i64 vars), (2, .isl false 1 (ints (l :: r))), (7, .int .i64 l), (8, .int .i64 ((i + 1 : Nat) : Int))]) (σ' := σ) ho2.le ⟨.refl _, .refl _, .refl _, .refl _, .refl _, trivial⟩ ?_
            exact ih (i + 1) _ _ ⟨by omega, all_take hall hsome h3'⟩ (by omega) ⟨rfl, rfl, rfl, rfl, rfl, trivial⟩ rfl
    · rw [List.take_of_length_le (by omega)] at hall
      simp (disch := omega) only [go_sem]
      refine W_retR c66_ok rfl ⟨?_, rfl⟩
      simp only [look, ev, V.bool.injEq, V.int.injEq, V.str.injEq, V.tup.injEq, V.agg.injEq, V.isl.injEq, List.cons.injEq, true_and, and_true, Nat.reduceEqDiff, Nat.reduceAdd, Nat.reduceSub, Nat.reduceMul, Nat.reducePow, Nat.reduceDiv, Nat.reduceMod, Int.reduceToNat, Nat.reduceLeDiff, Nat.reduceLT, Int.reduceEq, Int.reduceLT, Int.reduceLE, Int.reduceGT, Int.reduceGE, Int.reduceNeg, Int.reduceSub, Int.reduceAdd, Int.reduceMul, Int.reducePow, ne_eq, reduceCtorEq, ↓reduceIte]
      exact hall.symm
end Go.Proofs.Ytlojopaebdnacaa.Lg
