/- The law FnRups over its code. -/
import Derived.Test.YtlojopaebdnacaaPd
set_option linter.unusedSimpArgs false
set_option linter.unusedVariables false
namespace Go.Proofs.Ytlojopaebdnacaa.Lg
open Go
attribute [local irreducible] SRun DS DRun
variable {Γ : St} {σ σ0 : St}
theorem l01Has_ok {ex : Bool} {xs : List Int} {y : Int} (hl : xs.length ≤ 1000000000) : Ret Try.prog Γ 75 [.isl ex 1 (ints xs), .int .i64 y] σ (.bool (xs.contains y)) σ := by
  refine ret_of c75_ok rfl ?_
  simp (disch := omega) only [c75, go_sem, ↓if_pos, ne_eq, ↓reduceIte]
  refine W_loopC (fun i : Nat => i ≤ xs.length ∧ ∀ j, j < i → xs.getD j 0 ≠ y) (fun i => [(0, .isl ex 1 (ints xs)), (1, .int .i64 y), (5, .int .i64 i)]) (fun _ => σ) (fun i => xs.length - i) 0 ⟨by omega, fun j hj => by omega⟩ (by simp (disch := omega) only [subT, Int.natCast_add, Int.cast_ofNat_Int, go_sem, ↓if_pos, ne_eq, ↓reduceIte] <;> (repeat' apply And.intro) <;> first | rfl | (congr 1; omega) | assumption) rfl ?_
  rintro i ⟨hi, hno⟩ ih
  simp (disch := omega) only [go_sem, ↓if_pos, ne_eq, ↓reduceIte]
  first | refine iteW_dec (fun hq => ?_) (fun hq => ?_) | refine iteW_of (fun hq => ?_) (fun hq => ?_)
  · simp (disch := omega) only [go_sem, ↓if_pos, ne_eq, ↓reduceIte]
    first | refine iteW_dec (fun h1 => ?_) (fun h1 => ?_) | refine iteW_of (fun h1 => ?_) (fun h1 => ?_)
    · simp (disch := omega) only [go_sem, ↓if_pos, ne_eq, ↓reduceIte]
      refine W_retR c75_ok rfl ⟨?_, rfl⟩
      simp only [look, ev, V.bool.injEq, V.int.injEq, V.str.injEq, V.tup.injEq, V.agg.injEq, V.isl.injEq, List.cons.injEq, true_and, and_true, Nat.reduceEqDiff, Nat.reduceAdd, Nat.reduceSub, Nat.reduceMul, Nat.reducePow, Nat.reduceDiv, Nat.reduceMod, Int.reduceToNat, Nat.reduceLeDiff, Nat.reduceLT, Int.reduceEq, Int.reduceLT, Int.reduceLE, Int.reduceGT, Int.reduceGE, Int.reduceNeg, Int.reduceSub, Int.reduceAdd, Int.reduceMul, Int.reducePow, ne_eq, reduceCtorEq, ↓reduceIte]
      exact (List.contains_iff_mem.2 (h1 ▸ getD_mem 0 (by omega))).symm
    · simp (disch := omega) only [go_sem, ↓if_pos, ne_eq, ↓reduceIte]
      refine ih (i + 1) _ _ ⟨by omega, fun j hj => ?_⟩ (by omega) (by simp (disch := omega) only [subT, Int.natCast_add, Int.cast_ofNat_Int, go_sem, ↓if_pos, ne_eq, ↓reduceIte] <;> (repeat' apply And.intro) <;> first | rfl | (congr 1; omega) | assumption) rfl
      by_cases hji : j = i
      · subst hji; exact h1
      · exact hno j (by omega)
  · simp (disch := omega) only [go_sem, ↓if_pos, ne_eq, ↓reduceIte]
    refine W_retR c75_ok rfl ⟨?_, rfl⟩
    simp only [look, ev, V.bool.injEq, V.int.injEq, V.str.injEq, V.tup.injEq, V.agg.injEq, V.isl.injEq, List.cons.injEq, true_and, and_true, Nat.reduceEqDiff, Nat.reduceAdd, Nat.reduceSub, Nat.reduceMul, Nat.reducePow, Nat.reduceDiv, Nat.reduceMod, Int.reduceToNat, Nat.reduceLeDiff, Nat.reduceLT, Int.reduceEq, Int.reduceLT, Int.reduceLE, Int.reduceGT, Int.reduceGE, Int.reduceNeg, Int.reduceSub, Int.reduceAdd, Int.reduceMul, Int.reducePow, ne_eq, reduceCtorEq, ↓reduceIte]
    symm
    rw [Bool.eq_false_iff]; intro e
    obtain ⟨j, hj, hje⟩ := List.getElem_of_mem (List.contains_iff_mem.1 e)
    have := hno j (by omega)
    simp [List.getD, hj, hje] at this
theorem l03Rat_ok {ex : Bool} {vars : Int} {cls : List (List Int)} {c : List Int} (hv : 0 ≤ vars ∧ vars ≤ 1000) (hcls : ClsOK vars cls) (hc : ∀ x ∈ c, litOK vars x) (hcl : c.length ≤ 1000) (hdl : ∀ d ∈ cls, d.length ≤ 1000) :
    Ret Try.prog Γ 66 [.isl ex 1 (clsV cls), .int .i64 vars, intsV c] σ (.bool (ratP vars cls c)) σ := by
  have hcl2 := hcls.1.1
  refine ret_of c66_ok rfl ?_
  simp (disch := omega) only [c66, intsV, go_sem, ↓if_pos, ne_eq, ↓reduceIte]
  cases c with
  | nil =>
    have h0 : ((List.length ([] : List Int) : Nat) : Int) = 0 := rfl
    simp (disch := omega) only [h0, go_sem, ↓if_pos, ne_eq, ↓reduceIte]
    refine W_retR c66_ok rfl ⟨?_, rfl⟩
    rfl
  | cons l r =>
    have hlen : (l :: r).length = r.length + 1 := rfl
    have hneg : (0 : Int) - l = -l := by omega
    have hl2 := (hc l (by simp)).2
    simp (disch := omega) only [go_sem, ↓if_pos, ne_eq, ↓reduceIte]
    refine W_loopC (fun i : Nat => i ≤ cls.length ∧ (cls.take i).all (ratOf vars cls (l :: r) l) = true) (fun i => [(0, .isl ex 1 (clsV cls)), (1, .int .i64 vars), (2, .isl false 1 (ints (l :: r))), (7, .int .i64 l), (8, .int .i64 i)]) (fun _ => σ) (fun i => cls.length - i) 0 ⟨by omega, rfl⟩ (by simp (disch := omega) only [subT, Int.natCast_add, Int.cast_ofNat_Int, go_sem, ↓if_pos, ne_eq, ↓reduceIte] <;> (repeat' apply And.intro) <;> first | rfl | (congr 1; omega) | assumption) rfl ?_
    rintro i ⟨hi, hall⟩ ih
    simp (disch := omega) only [go_sem, ↓if_pos, ne_eq, ↓reduceIte]
    first | refine iteW_dec (fun hq => ?_) (fun hq => ?_) | refine iteW_of (fun hq => ?_) (fun hq => ?_)
    · have hmem := getD_mem [] (by omega : i < cls.length)
      have hsome := getD_some [] (by omega : i < cls.length)
      have hdl1 := hdl _ hmem
      have hdlit := hcls.2 _ hmem
      simp (disch := omega) only [hneg, intsV, go_sem, ↓if_pos, ne_eq, ↓reduceIte]
      generalize hde : cls.getD i [] = d at hmem hsome hdl1 hdlit ⊢
      refine SRun.callR (l01Has_ok (ex := false) (xs := d) (y := -l) (by omega)) ⟨[], rfl, rfl⟩ rfl ?_
      simp (disch := omega) only [List.getD_cons_zero, List.getD_cons_succ, go_sem, ↓if_pos, ne_eq, ↓reduceIte]
      first | refine iteW_dec (fun h1 => ?_) (fun h1 => ?_) | refine iteW_of (fun h1 => ?_) (fun h1 => ?_)
      · have h1' : d.contains (-l) = false := by simpa using h1
        simp (disch := omega) only [go_sem, ↓if_pos, ne_eq, ↓reduceIte]
        refine ih (i + 1) _ _ ⟨by omega, all_take hall hsome (by unfold ratOf; rw [h1']; rfl)⟩ (by omega) (by simp (disch := omega) only [subT, Int.natCast_add, Int.cast_ofNat_Int, go_sem, ↓if_pos, ne_eq, ↓reduceIte] <;> (repeat' apply And.intro) <;> first | rfl | (congr 1; omega) | assumption) rfl
      · have h1' : d.contains (-l) = true := by simpa using h1
        simp (disch := omega) only [go_sem, ↓if_pos, ne_eq, ↓reduceIte]
        refine SRun.appL (OwnL.nil 1 1) rfl (ints_ok _) (by simp only [List.length_nil, ints_len]; omega) ?_
        intro r9 σ1 ho
        rw [List.nil_append] at ho
        simp (disch := omega) only [go_sem, ↓if_pos, ne_eq, ↓reduceIte]
        refine W_loopC (fun p : Nat × V × St => p.1 ≤ d.length ∧ OwnL σ 1 (ints ((l :: r) ++ (d.take p.1).filter fun y => decide (¬ y = -l))) p.2.1 p.2.2) (fun p => [(0, .isl ex 1 (clsV cls)), (1, .int .i64 vars), (2, .isl false 1 (ints (l :: r))), (7, .int .i64 l), (8, .int .i64 i), (9, p.2.1), (10, .int .i64 p.1)]) (fun p => p.2.2) (fun p => d.length - p.1) (0, r9, σ1) ⟨by simp, by simpa using ho⟩ (by simp (disch := omega) only [subT, Int.natCast_add, Int.cast_ofNat_Int, go_sem, ↓if_pos, ne_eq, ↓reduceIte] <;> (repeat' apply And.intro) <;> first | rfl | (congr 1; omega) | assumption) rfl ?_
        rintro ⟨j, r9', σ2⟩ ⟨hj, ho2⟩ ih2
        dsimp only at hj ho2 ⊢
        have hfl : ((d.take j).filter fun y => decide (¬ y = -l)).length ≤ j := Nat.le_trans (List.length_filter_le _ _) (by simp; omega)
        simp (disch := omega) only [hde, intsV, go_sem, ↓if_pos, ne_eq, ↓reduceIte]
        first | refine iteW_dec (fun hq2 => ?_) (fun hq2 => ?_) | refine iteW_of (fun hq2 => ?_) (fun hq2 => ?_)
        · have hfs : (d.take (j + 1)).filter (fun y => decide (¬ y = -l)) = (d.take j).filter (fun y => decide (¬ y = -l)) ++ if d.getD j 0 = -l then [] else [d.getD j 0] := by
            rw [take_succ 0 (by omega), List.filter_append, List.filter_cons]
            by_cases h : d.getD j 0 = -l
            · rw [if_pos h, decide_eq_false (fun e => e h)]; rfl
            · rw [if_neg h, decide_eq_true h]; rfl
          simp (disch := omega) only [hde, hneg, intsV, go_sem, ↓if_pos, ne_eq, ↓reduceIte]
          first | refine iteW_dec (fun h2 => ?_) (fun h2 => ?_) | refine iteW_of (fun h2 => ?_) (fun h2 => ?_)
          · rw [if_neg h2] at hfs
            simp (disch := omega) only [hde, intsV, go_sem, ↓if_pos, ne_eq, ↓reduceIte]
            refine SRun.appL ho2 rfl (by simp [V.cells, V.one]) (by simp only [List.length_singleton, ints_len, List.length_append]; omega) ?_
            intro r3 σ3 ho3
            rw [ints_app] at ho3
            simp (disch := omega) only [go_sem, ↓if_pos, ne_eq, ↓reduceIte]
            refine ih2 (j + 1, r3, σ3) _ _ ⟨by simp only; omega, by simp only; rw [hfs, ← List.append_assoc]; exact ho3⟩ (by simp only; omega) (by simp (disch := omega) only [subT, Int.natCast_add, Int.cast_ofNat_Int, go_sem, ↓if_pos, ne_eq, ↓reduceIte] <;> (repeat' apply And.intro) <;> first | rfl | (congr 1; omega) | assumption) rfl
          · rw [if_pos (by omega : d.getD j 0 = -l), List.append_nil] at hfs
            simp (disch := omega) only [go_sem, ↓if_pos, ne_eq, ↓reduceIte]
            refine ih2 (j + 1, r9', σ2) _ _ ⟨by simp only; omega, by simp only; rw [hfs]; exact ho2⟩ (by simp only; omega) (by simp (disch := omega) only [subT, Int.natCast_add, Int.cast_ofNat_Int, go_sem, ↓if_pos, ne_eq, ↓reduceIte] <;> (repeat' apply And.intro) <;> first | rfl | (congr 1; omega) | assumption) rfl
        · obtain rfl : j = d.length := by omega
          rw [List.take_length] at ho2
          simp (disch := omega) only [go_sem, ↓if_pos, ne_eq, ↓reduceIte]
          refine SRun.callR (Ret.lendL (rupP_ok (ex := ex) (ex2 := false) (vars := vars) (cls := cls) (c := (l :: r) ++ d.filter fun y => decide (¬ y = -l)) hv hcls (fun x hx => by
            rcases List.mem_append.1 hx with h | h
            · exact hc x h
            · exact hdlit x (List.mem_filter.1 h).1) (by rw [List.length_append]; have := List.length_filter_le (fun y => decide (¬ y = -l)) d; omega)) (by exact ⟨.refl _, .refl _, ho2.frz (fun _ _ => rfl) (fun _ _ => rfl), trivial⟩) (Plain.bool _)) ⟨[], rfl, rfl⟩ rfl ?_
          simp (disch := omega) only [List.getD_cons_zero, List.getD_cons_succ, go_sem, ↓if_pos, ne_eq, ↓reduceIte]
          have hans : ratOf vars cls (l :: r) l d = rupP vars cls (l :: (r ++ d.filter fun y => decide (¬ y = -l))) := by unfold ratOf; rw [h1']; rfl
          rw [← hans]
          first | refine iteW_dec (fun h3 => ?_) (fun h3 => ?_) | refine iteW_of (fun h3 => ?_) (fun h3 => ?_)
          · have h3' : ratOf vars cls (l :: r) l d = false := by simpa using h3
            simp (disch := omega) only [go_sem, ↓if_pos, ne_eq, ↓reduceIte]
            refine W_retC c66_ok rfl (Conv.drop _ ho2.le) ⟨?_, rfl⟩
            simp only [look, ev, V.bool.injEq, V.int.injEq, V.str.injEq, V.tup.injEq, V.agg.injEq, V.isl.injEq, List.cons.injEq, true_and, and_true, Nat.reduceEqDiff, Nat.reduceAdd, Nat.reduceSub, Nat.reduceMul, Nat.reducePow, Nat.reduceDiv, Nat.reduceMod, Int.reduceToNat, Nat.reduceLeDiff, Nat.reduceLT, Int.reduceEq, Int.reduceLT, Int.reduceLE, Int.reduceGT, Int.reduceGE, Int.reduceNeg, Int.reduceSub, Int.reduceAdd, Int.reduceMul, Int.reducePow, ne_eq, reduceCtorEq, ↓reduceIte]
            exact (all_false hsome h3').symm
          · have h3' : ratOf vars cls (l :: r) l d = true := by simpa using h3
            simp (disch := omega) only [go_sem, ↓if_pos, ne_eq, ↓reduceIte]
            refine W_freezeL (T' := [(0, .isl ex 1 (clsV cls)), (1, .int .i64 vars), (2, .isl false 1 (ints (l :: r))), (7, .int .i64 l), (8, .int .i64 ((i + 1 : Nat) : Int))]) (σ' := σ) ho2.le ⟨.refl _, .refl _, .refl _, .refl _, .refl _, trivial⟩ ?_
            exact ih (i + 1) _ _ ⟨by omega, all_take hall hsome h3'⟩ (by omega) ⟨rfl, rfl, rfl, rfl, rfl, trivial⟩ rfl
    · rw [List.take_of_length_le (by omega)] at hall
      simp (disch := omega) only [go_sem, ↓if_pos, ne_eq, ↓reduceIte]
      refine W_retR c66_ok rfl ⟨?_, rfl⟩
      simp only [look, ev, V.bool.injEq, V.int.injEq, V.str.injEq, V.tup.injEq, V.agg.injEq, V.isl.injEq, List.cons.injEq, true_and, and_true, Nat.reduceEqDiff, Nat.reduceAdd, Nat.reduceSub, Nat.reduceMul, Nat.reducePow, Nat.reduceDiv, Nat.reduceMod, Int.reduceToNat, Nat.reduceLeDiff, Nat.reduceLT, Int.reduceEq, Int.reduceLT, Int.reduceLE, Int.reduceGT, Int.reduceGE, Int.reduceNeg, Int.reduceSub, Int.reduceAdd, Int.reduceMul, Int.reducePow, ne_eq, reduceCtorEq, ↓reduceIte]
      exact hall.symm
theorem face_specRat_ok {vars : Int} {cls : List (List Int)} {c : List Int} (hb : cnfB vars cls = true) (hcB : clauseB vars c = true) (hc : ∀ x ∈ c, litOK vars x) (hl12 : c.length ≤ 12) (hd : ∀ d ∈ cls, d.length ≤ 1000) :
    Ret Try.prog Γ 25 [cnfV vars cls, intsV c] σ (.tup [.bool (ratP vars cls c), .int .i64 0]) σ := by
  obtain ⟨hcls, hv0, hv40, hcl⟩ := clsOK_of hb
  refine ret_of c25_ok rfl ?_
  simp (disch := omega) only [c25, cnfV, intsV, go_sem, ↓if_pos, ne_eq, ↓reduceIte]
  refine SRun.boxR (by simp [ev, look, V.cells, V.one]) ?_
  intro b1 hb1
  simp (disch := omega) only [go_sem, ↓if_pos, ne_eq, ↓reduceIte]
  refine SRun.callR (cnfOK_ok hb) ⟨[], rfl, rfl⟩ rfl ?_
  simp (disch := omega) only [go_sem, ↓if_pos, ne_eq, ↓reduceIte]
  refine SRun.callR (l01Clause_ok (xs := c) (vars := vars) (by omega) (by omega)) ⟨[], rfl, rfl⟩ rfl ?_
  simp (disch := omega) only [hcB, go_sem, ↓if_pos, ne_eq, ↓reduceIte]
  refine SRun.callR (l03Rat_ok (ex := false) (vars := vars) (cls := cls) (c := c) (by omega) hcls hc (by omega) hd) ⟨[], rfl, rfl⟩ rfl ?_
  simp (disch := omega) only [go_sem, ↓if_pos, ne_eq, ↓reduceIte]
  exact W_retC c25_ok rfl (Conv.drop _ (le_upd hb1)) ⟨rfl, rfl⟩
theorem OwnL.cup {s : St} {es : Nat} {xs : List V} {r : V} {σ1 : St} (h : OwnL σ0 es xs r s) (hd : disj s σ1) : OwnL (Lg.cup σ0 σ1) es xs r (Lg.cup s σ1) := by
  obtain ⟨h, hx⟩ := h
  refine ⟨?_, hx⟩
  rcases h with ⟨h1, h2, rfl, h3⟩ | ⟨b2, cap, h2, h3, rfl, h4⟩
  · exact .inl ⟨h1, h2, rfl, h3⟩
  · refine .inr ⟨b2, cap, ?_, h3, by rw [cup_upd], h4⟩
    have := (hd b2).resolve_left (by rw [upd_same]; simp)
    simp [Lg.cup, h2, this]
theorem OwnL.ext {s : St} {es : Nat} {xs : List V} {r : V} {b : Nat} {z : List V} (h : OwnL σ0 es xs r s) (hb : s b = none) : OwnL (Lg.upd σ0 b z) es xs r (Lg.upd s b z) := ⟨own_ext h.1 hb, h.2⟩
theorem cls_ok (cls : List (List Int)) : ∀ y ∈ clsV cls, y.cells.length = 1 ∧ ∀ c ∈ y.cells, c.one = true := by
  intro y hy; simp only [clsV, List.mem_map] at hy; obtain ⟨x, _, rfl⟩ := hy; exact ⟨rfl, by simp [intsV, V.cells, V.one]⟩
theorem OwnL.of_app {es : Nat} {xs ys : List V} {r q : V} {s s2 : St} (h : OwnL σ0 es xs q s2) (hy : ∀ y ∈ ys, y.cells.length = es ∧ ∀ c ∈ y.cells, c.one = true) (ho : OwnS σ0 es (flat xs ++ flat ys) (xs.length + ys.length) r s) : OwnL σ0 es (xs ++ ys) r s :=
  ⟨by rw [flat_append, List.length_append]; exact ho, fun x hm => by
    rcases List.mem_append.1 hm with hm | hm
    · exact h.2 x hm
    · exact hy x hm⟩
theorem WrF.appL {P : Program} {T : Ts} {es : Nat} {xs ys : List V} {d : Option Nat} {by_ : Nat} {s x : Opd} {ex : Bool} (h : OwnL σ0 es xs (ev Γ T s) σ) (hx : ev Γ T x = .isl ex es ys) (hy : ∀ y ∈ ys, y.cells.length = es ∧ ∀ c ∈ y.cells, c.one = true) (hfit : (xs.length + ys.length) * by_ ≤ 140737488355328) :
    WrF P Γ σ T ⟨d, none, .app es by_ s x⟩ fun r σ' => OwnS σ0 es (flat xs ++ flat ys) (xs.length + ys.length) r σ' :=
  WrF.of fun T' hT => InsOK.appO (by rw [hT s (by simp [I.opds])]; exact h.1) (by rw [hT x (by simp [I.opds]), hx]; exact src_isl) (flat_length fun x hm => (hy x hm).1) hfit
set_option maxHeartbeats 1000000 in
theorem fnRups_ok {ex ex2 : Bool} {code more : List UInt8} (hl1 : code.length ≤ 140737488355328) (hl2 : more.length ≤ 140737488355328) : Ret Try.prog Γ 6 [codeV ex code, codeV ex2 more] σ (.bool true) σ := by
  refine ret_of c6_ok rfl ?_
  simp (disch := omega) only [c6, codeV, go_sem, ↓if_pos, ne_eq, ↓reduceIte]
  first | refine guardW_dec (fun h => ?_) (fun h => ?_) | refine guardW_by (fun h => ?_) (fun h => ?_)
  · simp (disch := omega) only [go_sem, ↓if_pos, ne_eq, ↓reduceIte]
    refine W_retR c6_ok rfl ⟨?_, rfl⟩
    simp only [look, ev, V.bool.injEq, V.int.injEq, V.str.injEq, V.tup.injEq, V.agg.injEq, V.isl.injEq, List.cons.injEq, true_and, and_true, Nat.reduceEqDiff, Nat.reduceAdd, Nat.reduceSub, Nat.reduceMul, Nat.reducePow, Nat.reduceDiv, Nat.reduceMod, Int.reduceToNat, Nat.reduceLeDiff, Nat.reduceLT, Int.reduceEq, Int.reduceLT, Int.reduceLE, Int.reduceGT, Int.reduceGE, Int.reduceNeg, Int.reduceSub, Int.reduceAdd, Int.reduceMul, Int.reducePow, ne_eq, reduceCtorEq, ↓reduceIte]
  · simp (disch := omega) only [go_sem, ↓if_pos, ne_eq, ↓reduceIte]
    first | refine iteW_dec (fun h2 => ?_) (fun h2 => ?_) | refine iteW_of (fun h2 => ?_) (fun h2 => ?_)
    · simp (disch := omega) only [go_sem, ↓if_pos, ne_eq, ↓reduceIte]
      refine W_retR c6_ok rfl ⟨?_, rfl⟩
      simp only [look, ev, V.bool.injEq, V.int.injEq, V.str.injEq, V.tup.injEq, V.agg.injEq, V.isl.injEq, List.cons.injEq, true_and, and_true, Nat.reduceEqDiff, Nat.reduceAdd, Nat.reduceSub, Nat.reduceMul, Nat.reducePow, Nat.reduceDiv, Nat.reduceMod, Int.reduceToNat, Nat.reduceLeDiff, Nat.reduceLT, Int.reduceEq, Int.reduceLT, Int.reduceLE, Int.reduceGT, Int.reduceGE, Int.reduceNeg, Int.reduceSub, Int.reduceAdd, Int.reduceMul, Int.reducePow, ne_eq, reduceCtorEq, ↓reduceIte]
    · simp (disch := omega) only [go_sem, ↓if_pos, ne_eq, ↓reduceIte]
      refine SRun.callQ (cnfOf_ok (ex := ex) (code := code) hl1) ⟨[], rfl, rfl⟩ rfl ?_
      rintro r s ⟨vars, cls, hd, rfl, hs⟩
      obtain rfl := hs.symm
      obtain ⟨N, rfl⟩ : ∃ N : Nat, vars = N := ⟨vars.toNat, by have := hd.1; omega⟩
      have hN1 : 1 ≤ N := by have := hd.1; omega
      have hN6 : N ≤ 6 := by have := hd.2.1; omega
      have hb := cnfB_of hd
      obtain ⟨hc, hv0, hv40, hcl⟩ := clsOK_of hb
      have hdl : ∀ d ∈ cls, d.length ≤ 1000 := fun d h => by have := (hd.2.2.2 d h).1; omega
      have hcl16 := hd.2.2.1
      simp (disch := omega) only [go_sem, ↓if_pos, ne_eq, ↓reduceIte]
      refine SRun.allocR ?_
      intro b5 hb5
      simp (disch := omega) only [cnfV, go_sem, ↓if_pos, ne_eq, ↓reduceIte]
      refine SRun.callQ (clauseOf_frz (ex := ex2) (code := more) (vars := N) hl2 (by omega)) ⟨[], rfl, rfl⟩ rfl ?_
      rintro r s ⟨xs, hx3, hxl, rfl, hs⟩
      obtain rfl := hs.symm
      have hcB : clauseB N xs = true := clauseB_of hx3 hxl
      have hlit : ∀ x ∈ xs, litOK N x := hxl
      simp (disch := omega) only [intsV, go_sem, ↓if_pos, ne_eq, ↓reduceIte]
      refine SRun.callR (facerup_ok (vars := N) (cls := cls) (c := xs) hb hcB hlit (by omega) hdl) ⟨[], rfl, rfl⟩ rfl ?_
      simp (disch := omega) only [List.getD_cons_zero, List.getD_cons_succ, go_sem, ↓if_pos, ne_eq, ↓reduceIte]
      refine SRun.callR (facerat_ok (vars := N) (cls := cls) (c := xs) hb hcB hlit (by omega) hdl) ⟨[], rfl, rfl⟩ rfl ?_
      simp (disch := omega) only [List.getD_cons_zero, List.getD_cons_succ, go_sem, ↓if_pos, ne_eq, ↓reduceIte]
      refine SRun.callR (face_rupP_ok (ex2 := false) (vars := N) (cls := cls) (c := xs) hb hcB hlit (by omega)) ⟨[], rfl, rfl⟩ rfl ?_
      simp (disch := omega) only [List.getD_cons_zero, List.getD_cons_succ, go_sem, ↓if_pos, ne_eq, ↓reduceIte]
      refine SRun.callR (face_specRat_ok (vars := N) (cls := cls) (c := xs) hb hcB hlit (by omega) hdl) ⟨[], rfl, rfl⟩ rfl ?_
      simp (disch := omega) only [List.getD_cons_zero, List.getD_cons_succ, go_sem, ↓if_pos, ne_eq, ↓reduceIte]
      refine SRun.callR (face_refutedP_ok (ex2 := false) (vars := N) (cls := cls) (c := xs) hb hcB hlit (by omega)) ⟨[], rfl, rfl⟩ rfl ?_
      simp (disch := omega) only [List.getD_cons_zero, List.getD_cons_succ, go_sem, ↓if_pos, ne_eq, ↓reduceIte]
      have hrr := fun h => rup_refuted (vars := N) (cls := cls) (c := xs) h
      have hrat := fun h2 h => rat_law (vars := N) (cls := cls) (c := xs) (by omega) hc h2 hlit h
      generalize hu : rupP N cls xs = u at hrr ⊢
      generalize ht : ratP N cls xs = t at hrat ⊢
      generalize refutedP N cls xs = m at hrr ⊢
      have hbb : ∀ b : Bool, (!(b == b)) = false := by decide
      have hb2 : cnfB N (cls ++ [xs]) = true := by
        simp only [cnfB, Bool.and_eq_true, decide_eq_true_eq, List.all_append, List.length_append, List.length_singleton] at hb ⊢
        refine ⟨⟨hb.1.1, by omega⟩, hb.2, by simp [hcB]⟩
      have hc2 := (clsOK_of hb2).1
      have hfr : clsV (cls ++ [xs]) = clsV cls ++ [intsV xs] := by simp [clsV]
      have hum : u = false ∨ (u = true ∧ m = true) := by
        cases u with
        | false => exact .inl rfl
        | true => exact .inr ⟨rfl, hrr rfl⟩
      rcases hum with rfl | ⟨rfl, rfl⟩
      all_goals
        cases t with
        | false =>
          simp (disch := omega) only [hbb, go_sem, ↓if_pos, ne_eq, ↓reduceIte]
          exact W_retC c6_ok rfl (Conv.drop _ (le_upd hb5)) ⟨rfl, rfl⟩
        | true =>
          simp (disch := omega) only [hbb, go_sem, ↓if_pos, ne_eq, ↓reduceIte]
          rw [W_draw]
          refine DRun.start (DRun.mixN rfl ?_)
          simp (disch := omega) only [go_sem, ↓if_pos, ne_eq, ↓reduceIte]
          refine DS.wr2 (WrF.appL (OwnL.nil 1 1) rfl (cls_ok cls) (by simp only [List.length_nil, clsV_len]; omega)) rfl ?_ ?_
          · intro r96 s1 ho1 _
            have ho1 := (OwnL.nil (σ0 := emp) 1 1).of_app (cls_ok cls) ho1
            rw [List.nil_append] at ho1
            refine DS.wr2 (WrF.appL ho1 rfl (by simp [V.cells, V.one]) (by simp only [List.length_singleton, clsV_len]; omega)) rfl ?_ ?_
            · intro r99 s2 ho2 _
              have ho2 := ho1.of_app (by simp [V.cells, V.one]) ho2
              have hr1 := ho2.one
              have hr2 := ho2.cells
              simp (disch := omega) only [hr1, hr2, go_sem, ↓if_pos, ne_eq, ↓reduceIte]
              refine DS.wrQ WrF.alloc rfl ?_
              rintro _ s3 ⟨b17, hb17, rfl, rfl⟩ hd3
              have ho3 := ho2.ext (z := [.int .i64 0, .isl true 0 []]) hb17
              simp (disch := omega) only [go_sem, ↓if_pos, ne_eq, ↓reduceIte]
              have hoc := ho3.cup hd3
              rw [cup_new] at hoc
              have hr1 := hoc.one
              have hr2 := hoc.cells
              have hg17 := hoc.get (upd_same _ b17 _)
              simp (disch := omega) only [hg17, hr1, hr2, go_sem, ↓if_pos, ne_eq, ↓reduceIte]
              have hoc2 := hoc.upd (c' := [.int .i64 N, r99]) (upd_same _ b17 _)
              rw [upd_upd] at hoc2
              have hs17 : upd σ b5 [V.int IntKind.i64 N, V.isl false 1 (clsV cls)] b17 = none := (hd3 b17).resolve_left (by rw [ho3.get (upd_same emp b17 _)]; simp)
              have hn17 := upd_none.1 hs17
              have hne : b5 ≠ b17 := fun e => hn17.1 e.symm
              have hg5 := hoc2.get (b := b5) (c := [.int .i64 N, .isl false 1 (clsV cls)]) (by rw [upd_ne _ _ hne, upd_same])
              have hg17' := hoc2.get (upd_same _ b17 _)
              simp (disch := omega) only [hg5, go_sem, ↓if_pos, ne_eq, ↓reduceIte]
              refine SRun.callR (specLeast_ok (vars := N) (cls := cls) hb) ⟨[], rfl, rfl⟩ rfl ?_
              simp (disch := omega) only [List.getD_cons_zero, List.getD_cons_succ, go_sem, ↓if_pos, ne_eq, ↓reduceIte]
              refine SRun.freeze (T' := [(19, .int .i64 (leastA (modelP N cls)).2), (107, cnfV N (cls ++ [xs]))]) (σ' := σ) (fun c y hc => hoc2.le _ _ (le_upd hs17 _ _ (le_upd hb5 _ _ hc))) ⟨.refl _, frz_agg (by exact ⟨.refl _, hfr ▸ hoc2.frz (fun _ _ => rfl) (fun c hc => (upd_none.1 (upd_none.1 hc).2).2), trivial⟩) (by simp [V.one]), trivial⟩ ?_
              refine SRun.callR (specLeast_ok (vars := N) (cls := cls ++ [xs]) hb2) ⟨[], rfl, rfl⟩ rfl ?_
              simp (disch := omega) only [List.getD_cons_zero, List.getD_cons_succ, go_sem, ↓if_pos, ne_eq, ↓reduceIte]
              refine W_retR c6_ok rfl ⟨?_, rfl⟩
              simp only [look, ev, V.bool.injEq, V.int.injEq, V.str.injEq, V.tup.injEq, V.agg.injEq, V.isl.injEq, List.cons.injEq, true_and, and_true, Nat.reduceEqDiff, Nat.reduceAdd, Nat.reduceSub, Nat.reduceMul, Nat.reducePow, Nat.reduceDiv, Nat.reduceMod, Int.reduceToNat, Nat.reduceLeDiff, Nat.reduceLT, Int.reduceEq, Int.reduceLT, Int.reduceLE, Int.reduceGT, Int.reduceGE, Int.reduceNeg, Int.reduceSub, Int.reduceAdd, Int.reduceMul, Int.reducePow, ne_eq, reduceCtorEq, ↓reduceIte]
              rw [hrat hc2 rfl]
              simp
            · refine DS.wrQ WrF.alloc rfl ?_
              rintro _ s2 ⟨b17, hb17, rfl, rfl⟩ _
              have ho2 := ho1.ext (z := [.int .i64 0, .isl true 0 []]) hb17
              simp (disch := omega) only [go_sem, ↓if_pos, ne_eq, ↓reduceIte]
              refine DS.wrQ (WrF.appL ho2 rfl (by simp [V.cells, V.one]) (by simp only [List.length_singleton, clsV_len]; omega)) rfl ?_
              intro r99 s3 ho3 hd3
              have ho3 := ho2.of_app (by simp [V.cells, V.one]) ho3
              have hr1 := ho3.one
              have hr2 := ho3.cells
              simp (disch := omega) only [hr1, hr2, go_sem, ↓if_pos, ne_eq, ↓reduceIte]
              have hoc := ho3.cup hd3
              rw [cup_new] at hoc
              have hr1 := hoc.one
              have hr2 := hoc.cells
              have hg17 := hoc.get (upd_same _ b17 _)
              simp (disch := omega) only [hg17, hr1, hr2, go_sem, ↓if_pos, ne_eq, ↓reduceIte]
              have hoc2 := hoc.upd (c' := [.int .i64 N, r99]) (upd_same _ b17 _)
              rw [upd_upd] at hoc2
              have hs17 : upd σ b5 [V.int IntKind.i64 N, V.isl false 1 (clsV cls)] b17 = none := (hd3 b17).resolve_left (by rw [ho3.get (upd_same emp b17 _)]; simp)
              have hn17 := upd_none.1 hs17
              have hne : b5 ≠ b17 := fun e => hn17.1 e.symm
              have hg5 := hoc2.get (b := b5) (c := [.int .i64 N, .isl false 1 (clsV cls)]) (by rw [upd_ne _ _ hne, upd_same])
              have hg17' := hoc2.get (upd_same _ b17 _)
              simp (disch := omega) only [hg5, go_sem, ↓if_pos, ne_eq, ↓reduceIte]
              refine SRun.callR (specLeast_ok (vars := N) (cls := cls) hb) ⟨[], rfl, rfl⟩ rfl ?_
              simp (disch := omega) only [List.getD_cons_zero, List.getD_cons_succ, go_sem, ↓if_pos, ne_eq, ↓reduceIte]
              refine SRun.freeze (T' := [(19, .int .i64 (leastA (modelP N cls)).2), (107, cnfV N (cls ++ [xs]))]) (σ' := σ) (fun c y hc => hoc2.le _ _ (le_upd hs17 _ _ (le_upd hb5 _ _ hc))) ⟨.refl _, frz_agg (by exact ⟨.refl _, hfr ▸ hoc2.frz (fun _ _ => rfl) (fun c hc => (upd_none.1 (upd_none.1 hc).2).2), trivial⟩) (by simp [V.one]), trivial⟩ ?_
              refine SRun.callR (specLeast_ok (vars := N) (cls := cls ++ [xs]) hb2) ⟨[], rfl, rfl⟩ rfl ?_
              simp (disch := omega) only [List.getD_cons_zero, List.getD_cons_succ, go_sem, ↓if_pos, ne_eq, ↓reduceIte]
              refine W_retR c6_ok rfl ⟨?_, rfl⟩
              simp only [look, ev, V.bool.injEq, V.int.injEq, V.str.injEq, V.tup.injEq, V.agg.injEq, V.isl.injEq, List.cons.injEq, true_and, and_true, Nat.reduceEqDiff, Nat.reduceAdd, Nat.reduceSub, Nat.reduceMul, Nat.reducePow, Nat.reduceDiv, Nat.reduceMod, Int.reduceToNat, Nat.reduceLeDiff, Nat.reduceLT, Int.reduceEq, Int.reduceLT, Int.reduceLE, Int.reduceGT, Int.reduceGE, Int.reduceNeg, Int.reduceSub, Int.reduceAdd, Int.reduceMul, Int.reducePow, ne_eq, reduceCtorEq, ↓reduceIte]
              rw [hrat hc2 rfl]
              simp
          · refine DS.wrQ WrF.alloc rfl ?_
            rintro _ s0 ⟨b17, hb17, rfl, rfl⟩ _
            simp (disch := omega) only [go_sem, ↓if_pos, ne_eq, ↓reduceIte]
            refine DS.wrQ (WrF.appL (OwnL.nil 1 1) rfl (cls_ok cls) (by simp only [List.length_nil, clsV_len]; omega)) rfl ?_
            intro r96 s1 ho1 _
            have ho1 := (OwnL.nil (σ0 := upd emp b17 [V.int IntKind.i64 0, V.isl true 0 []]) 1 1).of_app (cls_ok cls) ho1
            rw [List.nil_append] at ho1
            simp (disch := omega) only [go_sem, ↓if_pos, ne_eq, ↓reduceIte]
            refine DS.wrQ (WrF.appL ho1 rfl (by simp [V.cells, V.one]) (by simp only [List.length_singleton, clsV_len]; omega)) rfl ?_
            intro r99 s3 ho3 hd3
            have ho3 := ho1.of_app (by simp [V.cells, V.one]) ho3
            have hr1 := ho3.one
            have hr2 := ho3.cells
            simp (disch := omega) only [hr1, hr2, go_sem, ↓if_pos, ne_eq, ↓reduceIte]
            have hoc := ho3.cup hd3
            rw [cup_new] at hoc
            have hr1 := hoc.one
            have hr2 := hoc.cells
            have hg17 := hoc.get (upd_same _ b17 _)
            simp (disch := omega) only [hg17, hr1, hr2, go_sem, ↓if_pos, ne_eq, ↓reduceIte]
            have hoc2 := hoc.upd (c' := [.int .i64 N, r99]) (upd_same _ b17 _)
            rw [upd_upd] at hoc2
            have hs17 : upd σ b5 [V.int IntKind.i64 N, V.isl false 1 (clsV cls)] b17 = none := (hd3 b17).resolve_left (by rw [ho3.get (upd_same emp b17 _)]; simp)
            have hn17 := upd_none.1 hs17
            have hne : b5 ≠ b17 := fun e => hn17.1 e.symm
            have hg5 := hoc2.get (b := b5) (c := [.int .i64 N, .isl false 1 (clsV cls)]) (by rw [upd_ne _ _ hne, upd_same])
            have hg17' := hoc2.get (upd_same _ b17 _)
            simp (disch := omega) only [hg5, go_sem, ↓if_pos, ne_eq, ↓reduceIte]
            refine SRun.callR (specLeast_ok (vars := N) (cls := cls) hb) ⟨[], rfl, rfl⟩ rfl ?_
            simp (disch := omega) only [List.getD_cons_zero, List.getD_cons_succ, go_sem, ↓if_pos, ne_eq, ↓reduceIte]
            refine SRun.freeze (T' := [(19, .int .i64 (leastA (modelP N cls)).2), (107, cnfV N (cls ++ [xs]))]) (σ' := σ) (fun c y hc => hoc2.le _ _ (le_upd hs17 _ _ (le_upd hb5 _ _ hc))) ⟨.refl _, frz_agg (by exact ⟨.refl _, hfr ▸ hoc2.frz (fun _ _ => rfl) (fun c hc => (upd_none.1 (upd_none.1 hc).2).2), trivial⟩) (by simp [V.one]), trivial⟩ ?_
            refine SRun.callR (specLeast_ok (vars := N) (cls := cls ++ [xs]) hb2) ⟨[], rfl, rfl⟩ rfl ?_
            simp (disch := omega) only [List.getD_cons_zero, List.getD_cons_succ, go_sem, ↓if_pos, ne_eq, ↓reduceIte]
            refine W_retR c6_ok rfl ⟨?_, rfl⟩
            simp only [look, ev, V.bool.injEq, V.int.injEq, V.str.injEq, V.tup.injEq, V.agg.injEq, V.isl.injEq, List.cons.injEq, true_and, and_true, Nat.reduceEqDiff, Nat.reduceAdd, Nat.reduceSub, Nat.reduceMul, Nat.reducePow, Nat.reduceDiv, Nat.reduceMod, Int.reduceToNat, Nat.reduceLeDiff, Nat.reduceLT, Int.reduceEq, Int.reduceLT, Int.reduceLE, Int.reduceGT, Int.reduceGE, Int.reduceNeg, Int.reduceSub, Int.reduceAdd, Int.reduceMul, Int.reducePow, ne_eq, reduceCtorEq, ↓reduceIte]
            rw [hrat hc2 rfl]
            simp
end Go.Proofs.Ytlojopaebdnacaa.Lg
