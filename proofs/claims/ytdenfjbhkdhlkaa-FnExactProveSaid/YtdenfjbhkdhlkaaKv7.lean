/- What is told of the functions that are reached, as far as it is asked here. -/
import Derived.Test.YtdenfjbhkdhlkaaKv6
import Derived.KernelRfl
set_option linter.unusedSimpArgs false
set_option linter.unusedVariables false
namespace Go.Proofs.Ytdenfjbhkdhlkaa.Lg
open Go
section
/-- A literal of a circuit, as one of its formula. -/
def nodeL (x : Int) : Int := if x % 2 = 1 then -(x / 2) else x / 2
def tsGate (inp : Int) (i : Nat) (g : Int × Int) : List (List Int) := [[-(1 + inp + i), nodeL g.1], [-(1 + inp + i), nodeL g.2], [1 + inp + i, -nodeL g.1, -nodeL g.2]]
/-- The clauses of the first gates. -/
def tsCls (inp : Int) (gs : List (Int × Int)) (n : Nat) : List (List Int) := (List.range n).flatMap fun i => tsGate inp i (gs.getD i default)
def tsEnd (x : Int) : List (List Int) := if x = 0 then [[]] else if x = 1 then [] else [[nodeL x]]
def tsP (inp : Int) (gs : List (Int × Int)) (x : Int) : List (List Int) := tsCls inp gs gs.length ++ tsEnd x
theorem tsCls_succ (inp : Int) (gs : List (Int × Int)) (n : Nat) : tsCls inp gs (n + 1) = tsCls inp gs n ++ tsGate inp n (gs.getD n default) := by
 simp [tsCls, List.range_succ, List.flatMap_append]
theorem tsCls_len (inp : Int) (gs : List (Int × Int)) (n : Nat) : (tsCls inp gs n).length = 3 * n := by
 induction n with
 | zero => rfl
 | succ n ih => rw [tsCls_succ, List.length_append, ih]; simp [tsGate]; omega
theorem tsEnd_len (x : Int) : (tsEnd x).length ≤ 1 := by unfold tsEnd; (repeat' split) <;> simp
section
variable {inp : Int} {gs : List (Int × Int)} {x : Int} {vs bs : List Bool}
theorem nodeL_ok {z N : Int} (h1 : 2 ≤ z) (h2 : z < 2 * (1 + N)) : nodeL z ≠ 0 ∧ -N ≤ nodeL z ∧ nodeL z ≤ N := by unfold nodeL; split <;> omega
/-- The formula is right. -/
theorem ts_lits (hi : 0 ≤ inp) (hg : GatesOK inp gs) (hx : LitOK inp gs x) : ∀ c ∈ tsP inp gs x, c.length ≤ 3 ∧ ∀ y ∈ c, litOK (inp + gs.length) y := by
 intro c hc
 unfold LitOK at hx
 unfold tsP at hc
 rcases List.mem_append.1 hc with hc | hc
 ·unfold tsCls at hc
  obtain ⟨i, hi2, hc⟩ := List.mem_flatMap.1 hc
  rw [List.mem_range] at hi2
  obtain ⟨q1, q2, q3, _, _⟩ := hg i hi2
  have k1 := nodeL_ok (z := (gs.getD i default).1) (N := inp + gs.length) q1 (by omega)
  have k2 := nodeL_ok (z := (gs.getD i default).2) (N := inp + gs.length) (by omega) (by omega)
  simp only [tsGate, List.mem_cons, List.not_mem_nil, or_false] at hc
  rcases hc with rfl | rfl | rfl
  ·refine ⟨by simp, fun y hy => ?_⟩
   simp only [List.mem_cons, List.not_mem_nil, or_false] at hy
   unfold litOK
   rcases hy with rfl | rfl <;> omega
  ·refine ⟨by simp, fun y hy => ?_⟩
   simp only [List.mem_cons, List.not_mem_nil, or_false] at hy
   unfold litOK
   rcases hy with rfl | rfl <;> omega
  ·refine ⟨by simp, fun y hy => ?_⟩
   simp only [List.mem_cons, List.not_mem_nil, or_false] at hy
   unfold litOK
   rcases hy with rfl | rfl | rfl <;> omega
 ·unfold tsEnd at hc
  split at hc
  ·simp only [List.mem_cons, List.not_mem_nil, or_false] at hc
   subst hc; exact ⟨by simp, fun y hy => by cases hy⟩
  split at hc
  ·cases hc
  ·simp only [List.mem_cons, List.not_mem_nil, or_false] at hc
   subst hc
   have k := nodeL_ok (z := x) (N := inp + gs.length) (by omega) (by omega)
   refine ⟨by simp, fun y hy => ?_⟩
   simp only [List.mem_cons, List.not_mem_nil, or_false] at hy
   subst hy
   exact k
end
end
section
attribute [local irreducible] SRun DS DRun
variable {Γ : St} {σ σ0 : St}
theorem nodeLiteral_ok {x : Int} (hx : 0 ≤ x ∧ x ≤ 1000000) : Ret Try.prog Γ 80 [.int .i64 x] σ (.int .i64 (nodeL x)) σ := by
 have t1 : x.tdiv 2 = x / 2 := Int.tdiv_eq_ediv_of_nonneg (by omega)
 have t2 : x.tmod 2 = x % 2 := Int.tmod_eq_emod_of_nonneg (by omega)
 refine ret_of c80_ok rfl ?_
 simp (disch := omega) only [c80, t1, t2, go_sem]
 first | refine iteW_dec (fun h => ?_) (fun h => ?_) | refine iteW_of (fun h => ?_) (fun h => ?_)
 ·simp (disch := omega) only [t1, t2, go_sem]
  refine W_retR c80_ok rfl ⟨?_, rfl⟩
  simp only [look, ev, V.bool.injEq, V.int.injEq, V.str.injEq, V.tup.injEq, V.agg.injEq, V.isl.injEq, List.cons.injEq, true_and, and_true, nodeL, Nat.reduceEqDiff, Nat.reduceAdd, Nat.reduceSub, Nat.reduceMul, Nat.reducePow, Nat.reduceDiv, Nat.reduceMod, Int.reduceToNat, Nat.reduceLeDiff, Nat.reduceLT, Int.reduceEq, Int.reduceLT, Int.reduceLE, Int.reduceGT, Int.reduceGE, Int.reduceNeg, Int.reduceSub, Int.reduceAdd, Int.reduceMul, Int.reducePow, ne_eq, reduceCtorEq, ↓reduceIte]
  rw [if_pos h]; omega
 ·simp (disch := omega) only [t1, t2, go_sem]
  refine W_retR c80_ok rfl ⟨?_, rfl⟩
  simp only [look, ev, V.bool.injEq, V.int.injEq, V.str.injEq, V.tup.injEq, V.agg.injEq, V.isl.injEq, List.cons.injEq, true_and, and_true, nodeL, Nat.reduceEqDiff, Nat.reduceAdd, Nat.reduceSub, Nat.reduceMul, Nat.reducePow, Nat.reduceDiv, Nat.reduceMod, Int.reduceToNat, Nat.reduceLeDiff, Nat.reduceLT, Int.reduceEq, Int.reduceLT, Int.reduceLE, Int.reduceGT, Int.reduceGE, Int.reduceNeg, Int.reduceSub, Int.reduceAdd, Int.reduceMul, Int.reducePow, ne_eq, reduceCtorEq, ↓reduceIte]
  rw [if_neg h]
theorem l04Lit_ok {x : Int} (hx : 0 ≤ x ∧ x ≤ 1000000) : Ret Try.prog Γ 50 [.int .i64 x] σ (.int .i64 (nodeL x)) σ := by
 have t1 : x.tdiv 2 = x / 2 := Int.tdiv_eq_ediv_of_nonneg (by omega)
 have t2 : x.tmod 2 = x % 2 := Int.tmod_eq_emod_of_nonneg (by omega)
 refine ret_of c50_ok rfl ?_
 simp (disch := omega) only [c50, t1, t2, go_sem]
 first | refine iteW_dec (fun h => ?_) (fun h => ?_) | refine iteW_of (fun h => ?_) (fun h => ?_)
 ·simp (disch := omega) only [t1, t2, go_sem]
  refine W_retR c50_ok rfl ⟨?_, rfl⟩
  simp only [look, ev, V.bool.injEq, V.int.injEq, V.str.injEq, V.tup.injEq, V.agg.injEq, V.isl.injEq, List.cons.injEq, true_and, and_true, nodeL, Nat.reduceEqDiff, Nat.reduceAdd, Nat.reduceSub, Nat.reduceMul, Nat.reducePow, Nat.reduceDiv, Nat.reduceMod, Int.reduceToNat, Nat.reduceLeDiff, Nat.reduceLT, Int.reduceEq, Int.reduceLT, Int.reduceLE, Int.reduceGT, Int.reduceGE, Int.reduceNeg, Int.reduceSub, Int.reduceAdd, Int.reduceMul, Int.reducePow, ne_eq, reduceCtorEq, ↓reduceIte]
  rw [if_pos h]; omega
 ·simp (disch := omega) only [t1, t2, go_sem]
  refine W_retR c50_ok rfl ⟨?_, rfl⟩
  simp only [look, ev, V.bool.injEq, V.int.injEq, V.str.injEq, V.tup.injEq, V.agg.injEq, V.isl.injEq, List.cons.injEq, true_and, and_true, nodeL, Nat.reduceEqDiff, Nat.reduceAdd, Nat.reduceSub, Nat.reduceMul, Nat.reducePow, Nat.reduceDiv, Nat.reduceMod, Int.reduceToNat, Nat.reduceLeDiff, Nat.reduceLT, Int.reduceEq, Int.reduceLT, Int.reduceLE, Int.reduceGT, Int.reduceGE, Int.reduceNeg, Int.reduceSub, Int.reduceAdd, Int.reduceMul, Int.reducePow, ne_eq, reduceCtorEq, ↓reduceIte]
  rw [if_neg h]
/-- A clause, as it is made. -/
def rawV (c : List Int) : V := .isl true 1 (ints c)
theorem rawV_frz {σ σ' : St} (c : List Int) : Frz σ σ' (rawV c) (intsV c) := .isl _ _ _
/-- A row of clauses that is owned. -/
def RowC (A : St) (cls : List (List Int)) (t : V) (s : St) : Prop := ∃ cs : List V, OwnL A 1 cs t s ∧ cs.length = cls.length ∧ (∀ c ∈ cs, c.one = true) ∧ ∀ (i : Nat) (y x : V), cs[i]? = some y → (clsV cls)[i]? = some x → ∀ σ σ', Frz σ σ' y x
theorem RowC.of {A s : St} {cls : List (List Int)} {t : V} (h : OwnL A 1 (cls.map rawV) t s) : RowC A cls t s := by
 refine ⟨_, h, by simp, fun c hc => by simp only [List.mem_map] at hc; obtain ⟨c', _, rfl⟩ := hc; rfl, fun i y x hy hx σ σ' => ?_⟩
 simp only [List.getElem?_map, clsV] at hy hx
 cases hc : cls[i]? with
 | none => rw [hc] at hy; cases hy
 | some c =>
  rw [hc] at hy hx
  simp only [Option.map_some, Option.some.injEq] at hy hx
  subst hy hx
  exact rawV_frz c
theorem raw_ok (cls : List (List Int)) : ∀ y ∈ cls.map rawV, y.cells.length = 1 ∧ ∀ c ∈ y.cells, c.one = true := by
 intro y hy; simp only [List.mem_map] at hy; obtain ⟨c, _, rfl⟩ := hy; simp [rawV, V.cells, V.one]
theorem RowC.end {A s : St} {cls : List (List Int)} {t : V} (cls1 : List (List Int)) (y : V) (c : List Int) (he : cls = cls1 ++ [c]) {cs : List V} (hcs : cs = cls1.map rawV ++ [y]) (h : OwnL A 1 cs t s) (hy1 : y.one = true) (hy : ∀ σ σ', Frz σ σ' y (intsV c)) : RowC A cls t s := by
 refine ⟨_, h, by rw [hcs, he]; simp, fun c' hc' => ?_, fun i y' x' h1 h2 σ σ' => ?_⟩
 ·rw [hcs] at hc'
  rcases List.mem_append.1 hc' with h | h
  ·simp only [List.mem_map] at h; obtain ⟨c', _, rfl⟩ := h; rfl
  ·rw [List.mem_singleton.1 h]; exact hy1
 rw [hcs] at h1
 rw [he] at h2
 rcases Nat.lt_or_ge i cls1.length with hi | hi
 ·rw [List.getElem?_append_left (by simpa using hi)] at h1
  simp only [clsV, List.map_append] at h2
  rw [List.getElem?_append_left (by simpa using hi)] at h2
  simp only [List.getElem?_map, List.getElem?_eq_getElem hi, Option.map_some, Option.some.injEq] at h1 h2
  subst h1 h2
  exact rawV_frz _
 ·have hi2 : i = cls1.length := by
   have := (List.getElem?_eq_some_iff.1 h1).1
   simp at this; omega
  subst hi2
  simp only [clsV, List.map_append] at h2
  rw [List.getElem?_append_right (by simp)] at h1 h2
  simp at h1 h2
  subst h1 h2
  exact hy σ σ'
theorem RowC.frz {A s s2 σ : St} {cls : List (List Int)} {t : V} (h : RowC A cls t s) (h2 : ∀ b, A b = none → s2 b = s b) (h3 : ∀ b, A b = none → σ b = none) : Frz s2 σ t (.isl false 1 (clsV cls)) := by
 obtain ⟨cs, ho, hl, h1, hf⟩ := h
 have ho1 := ho.1
 rw [flat_one h1] at ho1
 exact own_frzG ho1 (by rw [clsV_len, hl]) (clsV_one cls) h2 h3 fun i y x hy hx => hf i y x hy hx _ _
theorem ts_done {A s : St} {b5 b4 : Nat} {n q : V} {vars : Int} {cls : List (List Int)} (hn : n = .int .i64 vars) (hrow : RowC (upd A b5 [n, q]) cls q s) (h4 : ∃ x, A b4 = some x) (hσ : ∀ d x, σ d = some x → d ≠ b4 ∧ d ≠ b5 ∧ A d = some x) : Conv (upd s b4 [n, q]) (.agg [n, q]) σ (cnfV vars cls) := by
 subst hn
 have hle : ∀ d x, σ d = some x → upd s b4 [.int .i64 vars, q] d = some x := fun d x hd => by
  obtain ⟨n4, n5, hA⟩ := hσ d x hd
  rw [upd_ne _ _ n4]
  obtain ⟨cs, ho, _⟩ := hrow
  exact ho.le _ _ (by rw [upd_ne _ _ n5]; exact hA)
 have hF : Frz (upd s b4 [.int .i64 vars, q]) σ q (.isl false 1 (clsV cls)) := hrow.frz (fun d hd => by
   obtain ⟨x, h4⟩ := h4
   have hd := upd_none.1 hd
   rw [upd_ne]
   intro e; subst e; rw [h4] at hd; cases hd.2) (fun d hd => by
   have hd := upd_none.1 hd
   cases hc : σ d with
   | none => rfl
   | some x => rw [(hσ d x hc).2.2] at hd; cases hd.2)
 exact ⟨hle, frz_agg (by exact ⟨.refl _, hF, trivial⟩) (by simp [V.one])⟩
set_option maxHeartbeats 1000000 in
theorem tseitin_ok {inp : Int} {gs : List (Int × Int)} {x : Int} (hinp : 0 ≤ inp ∧ inp ≤ 12) (hl : gs.length ≤ 400) (hg : GatesOK inp gs) (hx : LitOK inp gs x) : Ret Try.prog Γ 60 [aigV inp gs, .int .i64 x] σ (cnfV (inp + gs.length) (tsP inp gs x)) σ := by
 have hgl := gsV_len gs
 have hx' := hx
 unfold LitOK at hx'
 refine ret_of c60_ok rfl ?_
 simp (disch := omega) only [c60, aigV, go_sem]
 refine SRun.boxR (by simp [ev, look, V.cells, V.one]) ?_
 intro b2 hb2
 simp (disch := omega) only [go_sem]
 refine SRun.allocR ?_
 intro b4 hb4
 have n42 := (upd_none.1 hb4).1
 have g2 : upd (upd σ b2 [.int .i64 inp, .isl false 2 (gsV gs)]) b4 [.int .i64 0, .isl true 0 []] b2 = some [.int .i64 inp, .isl false 2 (gsV gs)] := by rw [upd_ne _ _ n42.symm, upd_same]
 have g4 : upd (upd σ b2 [.int .i64 inp, .isl false 2 (gsV gs)]) b4 [.int .i64 0, .isl true 0 []] b4 = some [.int .i64 0, .isl true 0 []] := upd_same _ _ _
 have hσ : ∀ d x, σ d = some x → d ≠ b4 ∧ upd (upd σ b2 [.int .i64 inp, .isl false 2 (gsV gs)]) b4 [.int .i64 0, .isl true 0 []] d = some x := fun d x h => ⟨fun e => by (subst e; rw [(upd_none.1 hb4).2] at h; cases h), le_upd hb4 _ _ (le_upd hb2 _ _ h)⟩
 generalize upd (upd σ b2 [.int .i64 inp, .isl false 2 (gsV gs)]) b4 [.int .i64 0, .isl true 0 []] = s1 at *
 simp (disch := omega) only [g2, go_sem]
 refine SRun.callR (nodesOf_ok (inp := inp) (gs := gs) hinp hl) ⟨[], rfl, rfl⟩ rfl ?_
 have hn1 : 1 + inp + (gs.length : Int) - 1 = inp + gs.length := by omega
 simp (disch := omega) only [hn1, go_sem]
 refine SRun.allocR ?_
 intro b5 hb5
 have n52 : b5 ≠ b2 := fun e => by subst e; rw [g2] at hb5; cases hb5
 have n54 : b5 ≠ b4 := fun e => by subst e; rw [g4] at hb5; cases hb5
 simp (disch := omega) only [le_upd hb5 _ _ g2, g2, hgl, go_sem]
 have own0 : OwnL (upd s1 b5 [.int .i64 (inp + gs.length), .isl true 0 []]) 1 ((tsCls inp gs 0).map rawV) (.isl true 0 []) (upd s1 b5 [.int .i64 (inp + gs.length), .isl true 0 []]) := OwnL.nil _ _
 refine W_loopC (α := Nat × V × St × St) (fun p => p.1 ≤ gs.length ∧ OwnL (upd p.2.2.1 b5 [.int .i64 (inp + gs.length), p.2.1]) 1 ((tsCls inp gs p.1).map rawV) p.2.1 p.2.2.2 ∧ ∀ d x, s1 d = some x → p.2.2.1 d = some x)
  (fun p => [(1, .int .i64 x), (2, .ptr b2 0), (4, .ptr b4 0), (5, .ptr b5 0), (16, .isl false 2 (gsV gs)), (17, .int .i64 gs.length), (18, .int .i64 (p.1 : Nat))]) (fun p => p.2.2.2) (fun p => gs.length - p.1) (0, .isl true 0 [], s1, _) ⟨by simp, own0, fun _ _ h => h⟩ (by simp (disch := omega) only [subT, Int.natCast_add, Int.cast_ofNat_Int, go_sem] <;> (repeat' apply And.intro) <;> first | rfl | (congr 1; omega) | assumption) rfl ?_
 rintro ⟨i, q, A, s⟩ ⟨hi, ho, hle⟩ ih
 dsimp only at hi ho hle
 have gA2 := hle _ _ g2
 have gs2 := ho.get (b := b2) (c := [.int .i64 inp, .isl false 2 (gsV gs)]) (by rw [upd_ne _ _ n52.symm]; exact gA2)
 have gs5 := ho.get (upd_same _ b5 _)
 have hq1 := ho.one
 simp (disch := omega) only [go_sem]
 first | refine iteW_dec (fun hq => ?_) (fun hq => ?_) | refine iteW_of (fun hq => ?_) (fun hq => ?_)
 ·obtain ⟨q1, q2, q3, _, _⟩ := hg i (by omega)
  simp (disch := omega) only [gsV, go_sem]
  generalize hgi : gs.getD i default = g at *
  obtain ⟨u, v⟩ := g
  dsimp only at q1 q2 q3
  simp (disch := omega) only [gV, go_sem]
  refine SRun.allocR ?_
  intro b7 hb7
  have n75 : b7 ≠ b5 := fun e => by subst e; rw [gs5] at hb7; cases hb7
  simp (disch := omega) only [go_sem]
  refine W_drawW ?_
  have gs2' : upd s b7 [V.int IntKind.i64 u, .int .i64 v] b2 = _ := le_upd hb7 _ _ gs2
  refine DRun.mixE rfl ?_
  simp (disch := omega) only [gs2', go_sem]
  refine DS.callB (nodeLiteral_ok (x := u) (by omega)) ⟨[], rfl, rfl⟩ rfl rfl ?_
  simp (disch := omega) only [go_sem]
  refine DS.callB (nodeLiteral_ok (x := v) (by omega)) ⟨[], rfl, rfl⟩ rfl rfl ?_
  have k1 := nodeL_ok (z := u) (N := inp + gs.length) q1 (by omega)
  have k2 := nodeL_ok (z := v) (N := inp + gs.length) (by omega) (by omega)
  have gs5' : upd s b7 [V.int IntKind.i64 u, .int .i64 v] b5 = _ := le_upd hb7 _ _ gs5
  simp (disch := omega) only [gs5', Int.zero_sub, go_sem]
  have ho7 := ho.ext (z := [V.int IntKind.i64 u, .int .i64 v]) hb7
  refine SRun.appL (ys := (tsGate inp i (u, v)).map rawV) ho7 rfl (raw_ok _) (by rw [List.length_map, tsCls_len]; simp only [tsGate, List.length_map, List.length_cons, List.length_nil]; omega) ?_
  intro q' s8 ho8
  have hap : (tsCls inp gs i).map rawV ++ (tsGate inp i (u, v)).map rawV = (tsCls inp gs (i + 1)).map rawV := by rw [tsCls_succ, hgi, List.map_append]
  rw [hap] at ho8
  have g85 := ho8.get (b := b5) (c := [.int .i64 (inp + gs.length), q]) (by rw [upd_ne _ _ n75.symm, upd_same])
  simp (disch := omega) only [g85, ho8.one, ho8.cells, go_sem]
  have ho9 := ho8.upd (b := b5) (c := [.int .i64 (inp + gs.length), q]) (c' := [.int .i64 (inp + gs.length), q']) (by rw [upd_ne _ _ n75.symm, upd_same])
  rw [upd_comm _ n75, upd_upd, upd_comm _ n75.symm] at ho9
  have hA : A b7 = none := by
   cases hc : A b7 with
   | none => rfl
   | some x => rw [ho.get (b := b7) (c := x) (by rw [upd_ne _ _ n75]; exact hc)] at hb7; cases hb7
  exact ih (i + 1, q', upd A b7 [.int .i64 u, .int .i64 v], _) _ _ ⟨by simp only; omega, ho9, fun d z h => le_upd hA _ _ (hle _ _ h)⟩ (by simp only; omega) (by simp (disch := omega) only [subT, Int.natCast_add, Int.cast_ofNat_Int, gsV, go_sem] <;> (repeat' apply And.intro) <;> first | rfl | (congr 1; omega) | assumption) rfl
 ·clear ih
  have hig : i = gs.length := by omega
  rw [hig] at ho
  clear hq
  have gA4 := hle _ _ g4
  have gs4 := ho.get (b := b4) (c := [.int .i64 0, .isl true 0 []]) (by rw [upd_ne _ _ n54.symm]; exact gA4)
  have hσA : ∀ d x, σ d = some x → d ≠ b4 ∧ d ≠ b5 ∧ A d = some x := fun d x hd => by
   obtain ⟨h4, h1⟩ := hσ d x hd
   exact ⟨h4, fun e => by (subst e; rw [h1] at hb5; cases hb5), hle _ _ h1⟩
  simp (disch := omega) only [go_sem]
  first | refine iteW_dec (fun h0 => ?_) (fun h0 => ?_) | refine iteW_of (fun h0 => ?_) (fun h0 => ?_)
  ·subst h0
   simp (disch := omega) only [gs5, go_sem]
   refine SRun.appL (ys := [.isl true 0 []]) ho rfl (by simp [V.cells, V.one]) (by rw [List.length_map, tsCls_len]; simp only [List.length_singleton]; omega) ?_
   intro q' s8 ho8
   have g85 := ho8.get (upd_same _ b5 _)
   have g84 := ho8.get (b := b4) (c := [.int .i64 0, .isl true 0 []]) (by rw [upd_ne _ _ n54.symm]; exact gA4)
   simp (disch := omega) only [g85, g84, ho8.one, ho8.cells, go_sem]
   have ho9 := ho8.upd (b := b5) (c := [.int .i64 (inp + gs.length), q]) (c' := [.int .i64 (inp + gs.length), q']) (upd_same _ b5 _)
   rw [upd_upd] at ho9
   have hrow : RowC (upd A b5 [.int .i64 (inp + gs.length), q']) (tsP inp gs 0) q' (upd s8 b5 [.int .i64 (inp + gs.length), q']) := RowC.end (tsCls inp gs gs.length) (.isl true 0 []) [] (by simp [tsP, tsEnd]) rfl ho9 rfl fun σ σ' => frz_nil _ _
   exact W_retC c60_ok (r := .agg [.int .i64 (inp + gs.length), q']) (σ' := σ) (r' := cnfV (inp + gs.length) (tsP inp gs 0)) (resV_cellA rfl (upd_same _ _ _) rfl) (ts_done rfl hrow ⟨_, gA4⟩ hσA) ⟨rfl, rfl⟩
  ·simp (disch := omega) only [go_sem]
   first | refine iteW_dec (fun h1 => ?_) (fun h1 => ?_) | refine iteW_of (fun h1 => ?_) (fun h1 => ?_)
   ·subst h1
    have hrow : RowC (upd A b5 [.int .i64 (inp + gs.length), q]) (tsP inp gs 1) q s := by
     have : tsP inp gs 1 = tsCls inp gs gs.length := by simp [tsP, tsEnd]
     rw [this]; exact RowC.of ho
    simp (disch := omega) only [gs5, gs4, hq1, go_sem]
    exact W_retC c60_ok (r := .agg [.int .i64 (inp + gs.length), q]) (σ' := σ) (r' := cnfV (inp + gs.length) (tsP inp gs 1)) (resV_cellA rfl (upd_same _ _ _) rfl) (ts_done rfl hrow ⟨_, gA4⟩ hσA) ⟨rfl, rfl⟩
   ·refine W_drawW ?_
    refine DRun.mixE rfl ?_
    simp (disch := omega) only [gs5, go_sem]
    refine DS.callB (nodeLiteral_ok (x := x) (by omega)) ⟨[], rfl, rfl⟩ rfl rfl ?_
    simp (disch := omega) only [go_sem]
    refine DRun.appL (ys := [rawV [nodeL x]]) ho rfl (raw_ok [[nodeL x]]) (by rw [List.length_map, tsCls_len]; simp only [List.length_singleton]; omega) ?_
    intro q' s8 ho8
    have g85 := ho8.get (upd_same _ b5 _)
    have g84 := ho8.get (b := b4) (c := [.int .i64 0, .isl true 0 []]) (by rw [upd_ne _ _ n54.symm]; exact gA4)
    simp (disch := omega) only [g85, g84, ho8.one, ho8.cells, go_sem]
    have ho9 := ho8.upd (b := b5) (c := [.int .i64 (inp + gs.length), q]) (c' := [.int .i64 (inp + gs.length), q']) (upd_same _ b5 _)
    rw [upd_upd] at ho9
    have hrow : RowC (upd A b5 [.int .i64 (inp + gs.length), q']) (tsP inp gs x) q' (upd s8 b5 [.int .i64 (inp + gs.length), q']) := RowC.end (tsCls inp gs gs.length) (rawV [nodeL x]) [nodeL x] (by simp [tsP, tsEnd, h0, h1]) rfl ho9 rfl fun σ σ' => rawV_frz _
    exact W_retC c60_ok (r := .agg [.int .i64 (inp + gs.length), q']) (σ' := σ) (r' := cnfV (inp + gs.length) (tsP inp gs x)) (resV_cellA rfl (upd_same _ _ _) rfl) (ts_done rfl hrow ⟨_, gA4⟩ hσA) ⟨rfl, rfl⟩
/-- What is said of a circuit's formula. -/
def tsA (inp : Int) (gs : List (Int × Int)) (x : Int) : V := bif cnfB (inp + gs.length) (tsP inp gs x) then .tup [cnfV (inp + gs.length) (tsP inp gs x), .int .i64 0] else .tup [cnfV 0 [], .int .i64 11]
theorem ts_small {inp : Int} {gs : List (Int × Int)} {x : Int} (hi : 0 ≤ inp) (hg : GatesOK inp gs) (hx : LitOK inp gs x) (hl : gs.length ≤ 400) : Small (tsP inp gs x) := by
 have h1 := ts_lits hi hg hx
 have h2 := tsCls_len inp gs gs.length
 have h3 := tsEnd_len x
 exact ⟨by unfold tsP; rw [List.length_append]; omega, fun c hc => by have := (h1 c hc).1; omega⟩
theorem zero_frz {σ σ' : St} : Frz σ σ' (.agg [.int .i64 0, .isl true 0 []]) (cnfV 0 []) := frz_agg (by exact ⟨.refl _, frz_nil _ _, trivial⟩) (by simp [V.one])
theorem resV_2 {T : Ts} {a nn b p : Nat} {cs : List V} (h : look T a = .ptr b 0) (hb : σ b = some cs) (hl : nn = cs.length) : resV [.cell a true nn, .t p] T σ = some (.tup [.agg cs, look T p]) := by
 subst hl
 simp [resV, resV1, h, hb]
theorem Tseitin_ok {inp : Int} {gs : List (Int × Int)} {x : Int} (hinp : 0 ≤ inp ∧ inp ≤ 12) (hl : gs.length ≤ 400) (hg : GatesOK inp gs) (hx : LitOK inp gs x) : Ret Try.prog Γ 36 [aigV inp gs, .int .i64 x] σ (tsA inp gs x) σ := by
 have hsm := ts_small hinp.1 hg hx hl
 refine ret_of c36_ok rfl ?_
 simp (disch := omega) only [c36, aigV, go_sem]
 refine SRun.boxR (by simp [ev, look, V.cells, V.one]) ?_
 intro b2 hb2
 simp (disch := omega) only [go_sem]
 refine SRun.allocR ?_
 intro b4 hb4
 have n42 := (upd_none.1 hb4).1
 have g2 : upd (upd σ b2 [.int .i64 inp, .isl false 2 (gsV gs)]) b4 [.int .i64 0, .isl true 0 []] b2 = some [.int .i64 inp, .isl false 2 (gsV gs)] := by rw [upd_ne _ _ n42.symm, upd_same]
 have g4 : upd (upd σ b2 [.int .i64 inp, .isl false 2 (gsV gs)]) b4 [.int .i64 0, .isl true 0 []] b4 = some [.int .i64 0, .isl true 0 []] := upd_same _ _ _
 have hσ : ∀ d x, σ d = some x → d ≠ b4 ∧ upd (upd σ b2 [.int .i64 inp, .isl false 2 (gsV gs)]) b4 [.int .i64 0, .isl true 0 []] d = some x := fun d x h => ⟨fun e => by (subst e; rw [(upd_none.1 hb4).2] at h; cases h), le_upd hb4 _ _ (le_upd hb2 _ _ h)⟩
 generalize upd (upd σ b2 [.int .i64 inp, .isl false 2 (gsV gs)]) b4 [.int .i64 0, .isl true 0 []] = s1 at *
 simp (disch := omega) only [g2, go_sem]
 refine SRun.callR (isAig_ok (inp := inp) (gs := gs) hinp hl hg) ⟨[], rfl, rfl⟩ rfl ?_
 simp (disch := omega) only [g2, go_sem]
 refine SRun.callR (isAigLiteral_ok (inp := inp) (gs := gs) hinp hl hx) ⟨[], rfl, rfl⟩ rfl ?_
 simp (disch := omega) only [g2, go_sem]
 refine SRun.callR (tseitin_ok (inp := inp) (gs := gs) hinp hl hg hx) ⟨[], rfl, rfl⟩ rfl ?_
 simp (disch := omega) only [cnfV, go_sem]
 refine SRun.allocR ?_
 intro b6 hb6
 have n64 : b6 ≠ b4 := fun e => by subst e; rw [g4] at hb6; cases hb6
 simp (disch := omega) only [go_sem]
 refine SRun.callR (isCnf_ok hsm) ⟨[], rfl, rfl⟩ rfl ?_
 have g4' := le_upd (cs := [.int .i64 (inp + gs.length), .isl false 1 (clsV (tsP inp gs x))]) hb6 _ _ g4
 generalize hq : cnfB (inp + gs.length) (tsP inp gs x) = qq
 have hA : tsA inp gs x = bif qq then .tup [cnfV (inp + gs.length) (tsP inp gs x), .int .i64 0] else .tup [cnfV 0 [], .int .i64 11] := by rw [← hq]; rfl
 have hfin : ∀ c, ∀ d y, σ d = some y → upd (upd s1 b6 [.int .i64 (inp + gs.length), .isl false 1 (clsV (tsP inp gs x))]) b4 c d = some y := fun c d y hd => by
  obtain ⟨h4, h1⟩ := hσ d y hd
  rw [upd_ne _ _ h4]; exact le_upd hb6 _ _ h1
 cases qq with
 | true =>
  simp (disch := omega) only [g4', go_sem]
  exact W_retC c36_ok (r := .tup [.agg [.int .i64 (inp + gs.length), .isl false 1 (clsV (tsP inp gs x))], .int .i64 0]) (r' := .tup [cnfV (inp + gs.length) (tsP inp gs x), .int .i64 0]) (σ' := σ) (resV_2 rfl (upd_same _ _ _) rfl) (Conv.drop _ (hfin _)) ⟨hA.symm, rfl⟩
 | false =>
  simp (disch := omega) only [g4', go_sem]
  exact W_retC c36_ok (r := .tup [.agg [.int .i64 0, .isl true 0 []], .int .i64 11]) (r' := .tup [cnfV 0 [], .int .i64 11]) (σ' := σ) (resV_2 rfl (upd_same _ _ _) rfl) ⟨hfin _, frz_tup (by exact ⟨zero_frz, .refl _, trivial⟩)⟩ ⟨hA.symm, rfl⟩
end
section
attribute [local irreducible] SRun DS DRun
variable {Γ : St} {σ σ0 : St}
theorem gates_none {gs : List (Int × Int)} {i k : Nat} (hk : k < i) (hi : i < gs.length) (h : (gs.take i).findIdx? (· == gs.getD i default) = none) : ¬ gs.getD k default = gs.getD i default := by
 rw [List.findIdx?_eq_none_iff] at h
 have := h (gs.getD k default) (by
  have hl : k < (gs.take i).length := by rw [List.length_take]; omega
  have : (gs.take i)[k] = gs.getD k default := by simp [List.getD, show k < gs.length by omega]
  rw [← this]; exact List.getElem_mem hl)
 simpa using this
set_option maxHeartbeats 1000000 in
theorem AigOKs_ok {inp : Int} {gs : List (Int × Int)} (hinp : 0 ≤ inp ∧ inp ≤ 12) (hl : gs.length ≤ 400) (hg : GatesOK inp gs) : Ret Try.prog Γ 48 [aigV inp gs] σ (.bool true) σ := by
 have hb : (decide (0 ≤ inp) && decide (inp ≤ 12)) = true := by simp; omega
 have hgl := gsV_len gs
 have hlb : decide ((gs.length : Int) > 400) = false := decide_eq_false (by omega)
 refine ret_of c48_ok rfl ?_
 simp (disch := omega) only [c48, aigV, go_sem]
 refine SRun.boxR (by simp [ev, look, V.cells, V.one]) ?_
 intro b1 hb1
 simp (disch := omega) only [go_sem]
 refine SRun.callR (l01In_ok inp 0 12) ⟨[], rfl, rfl⟩ rfl ?_
 simp (disch := omega) only [List.getD_cons_zero, List.getD_cons_succ, go_sem]
 simp (disch := omega) only [hb, hgl, hlb, go_sem]
 refine W_loopC (α := Nat × St) (fun p => p.1 ≤ gs.length ∧ ∀ d x, upd σ b1 [.int .i64 inp, .isl false 2 (gsV gs)] d = some x → p.2 d = some x) (fun p => [(1, .ptr b1 0), (3, .int .i64 (p.1 : Nat))]) (fun p => p.2) (fun p => gs.length - p.1) (0, upd σ b1 [.int .i64 inp, .isl false 2 (gsV gs)]) ⟨by omega, fun _ _ h => h⟩ (by simp (disch := omega) only [subT, Int.natCast_add, Int.cast_ofNat_Int, go_sem] <;> (repeat' apply And.intro) <;> first | rfl | (congr 1; omega) | assumption) rfl ?_
 rintro ⟨i, s⟩ ⟨hi, hs⟩ ih
 dsimp only at hi hs
 have g1 := hs b1 _ (upd_same _ _ _)
 simp (disch := omega) only [g1, hgl, go_sem]
 first | refine iteW_dec (fun hq => ?_) (fun hq => ?_) | refine iteW_of (fun hq => ?_) (fun hq => ?_)
 ·obtain ⟨q1, q2, q3, q4, q5⟩ := hg i (by omega)
  have hno := fun k (hk : k < i) => gates_none hk (by omega) q5
  simp (disch := omega) only [g1, gsV, go_sem]
  generalize hgi : gs.getD i default = g at *
  obtain ⟨x, y⟩ := g
  dsimp only at q1 q2 q3
  simp (disch := omega) only [gV, go_sem]
  refine SRun.allocR ?_
  intro b4 hb4
  have n41 : b4 ≠ b1 := fun e => by subst e; rw [g1] at hb4; cases hb4
  have g1' : upd s b4 [.int .i64 x, .int .i64 y] b1 = some _ := le_upd hb4 _ _ g1
  have l1 : decide (x < 2) = false := decide_eq_false (by omega)
  have l2 : decide (y ≤ x) = false := decide_eq_false (by omega)
  have l3 : decide (y ≥ 2 * (inp + 1 + i)) = false := decide_eq_false (by omega)
  have t1 : x.tdiv 2 = x / 2 := Int.tdiv_eq_ediv_of_nonneg (by omega)
  have t2 : y.tdiv 2 = y / 2 := Int.tdiv_eq_ediv_of_nonneg (by omega)
  have l4 : decide (x / 2 = y / 2) = false := decide_eq_false q4
  simp (disch := omega) only [g1', l1, l2, l3, l4, t1, t2, go_sem]
  refine W_loopC (α := Nat) (fun k => k ≤ i) (fun k => [(1, .ptr b1 0), (3, .int .i64 (i : Nat)), (4, .ptr b4 0), (6, .int .i64 (k : Nat))]) (fun _ => upd s b4 [.int .i64 x, .int .i64 y]) (fun k => i - k) 0 (by omega) (by simp (disch := omega) only [subT, Int.natCast_add, Int.cast_ofNat_Int, go_sem] <;> (repeat' apply And.intro) <;> first | rfl | (congr 1; omega) | assumption) rfl ?_
  intro k hk ih2
  simp (disch := omega) only [go_sem]
  first | refine iteW_dec (fun hq2 => ?_) (fun hq2 => ?_) | refine iteW_of (fun hq2 => ?_) (fun hq2 => ?_)
  ·have hne := hno k (by omega)
   simp (disch := omega) only [go_sem]
   refine W_drawW ?_
   simp (disch := omega) only [g1', gsV, go_sem]
   generalize hgk : gs.getD k default = g at *
   obtain ⟨u, v⟩ := g
   have l5 : decide (u = x ∧ v = y) = false := decide_eq_false (fun h => hne (by rw [h.1, h.2]))
   simp (disch := omega) only [gV, stepK_eqa2, l5, go_sem]
   exact ih2 (k + 1) _ _ (by omega) (by omega) (by simp (disch := omega) only [subT, Int.natCast_add, Int.cast_ofNat_Int, go_sem] <;> (repeat' apply And.intro) <;> first | rfl | (congr 1; omega) | assumption) rfl
  ·simp (disch := omega) only [go_sem]
   exact ih (i + 1, upd s b4 [.int .i64 x, .int .i64 y]) _ _ ⟨by simp only; omega, fun d z h => le_upd hb4 _ _ (hs _ _ h)⟩ (by simp only; omega) (by simp (disch := omega) only [subT, Int.natCast_add, Int.cast_ofNat_Int, go_sem] <;> (repeat' apply And.intro) <;> first | rfl | (congr 1; omega) | assumption) rfl
 ·simp (disch := omega) only [go_sem]
  exact W_retC c48_ok rfl (Conv.drop _ fun d x h => hs _ _ (le_upd hb1 _ _ h)) ⟨rfl, rfl⟩
theorem l04In_ok {inp : Int} {gs : List (Int × Int)} {ex : Bool} {lits : List Int} (hinp : 0 ≤ inp ∧ inp ≤ 12) (hl : gs.length ≤ 400) (hll : lits.length ≤ 4096) (hx : ∀ x ∈ lits, LitOK inp gs x) : Ret Try.prog Γ 49 [aigV inp gs, .isl ex 1 (ints lits)] σ (.bool true) σ := by
 have hgl := gsV_len gs
 refine ret_of c49_ok rfl ?_
 simp (disch := omega) only [c49, aigV, go_sem]
 refine SRun.boxR (by simp [ev, look, V.cells, V.one]) ?_
 intro b2 hb2
 have g2 := upd_same σ b2 [.int .i64 inp, .isl false 2 (gsV gs)]
 simp (disch := omega) only [go_sem]
 refine W_loopC (α := Nat) (fun i => i ≤ lits.length) (fun i => [(1, .isl ex 1 (ints lits)), (2, .ptr b2 0), (5, .int .i64 (i : Nat))]) (fun _ => upd σ b2 [.int .i64 inp, .isl false 2 (gsV gs)]) (fun i => lits.length - i) 0 (by omega) (by simp (disch := omega) only [subT, Int.natCast_add, Int.cast_ofNat_Int, go_sem] <;> (repeat' apply And.intro) <;> first | rfl | (congr 1; omega) | assumption) rfl ?_
 intro i hi ih
 simp (disch := omega) only [go_sem]
 first | refine iteW_dec (fun hq => ?_) (fun hq => ?_) | refine iteW_of (fun hq => ?_) (fun hq => ?_)
 ·have hlx := hx _ (getD_mem 0 (by omega : i < lits.length))
  unfold LitOK at hlx
  simp (disch := omega) only [go_sem]
  refine W_drawW ?_
  simp (disch := omega) only [g2, hgl, go_sem]
  generalize lits.getD i 0 = x at hlx ⊢
  have hbb : (decide (0 ≤ x) && decide (x ≤ 2 * (inp + gs.length) + 1)) = true := by simp; omega
  refine DRun.callQ (l01In_ok x 0 (2 * (inp + gs.length) + 1)) ⟨[], rfl, rfl⟩ ?_
  rintro r s ⟨rfl, hs⟩
  obtain rfl := hs.symm
  simp (disch := omega) only [hbb, go_sem]
  exact ih (i + 1) _ _ (by omega) (by omega) (by simp (disch := omega) only [subT, Int.natCast_add, Int.cast_ofNat_Int, go_sem] <;> (repeat' apply And.intro) <;> first | rfl | (congr 1; omega) | assumption) rfl
 ·simp (disch := omega) only [go_sem]
  exact W_retC c49_ok rfl (Conv.drop _ (le_upd hb2)) ⟨rfl, rfl⟩
theorem cnfOKb_ok {cls : List (List Int)} {vars : Int} (hs : Small cls) : Ret Try.prog Γ 32 [cnfV vars cls] σ (.bool (cnfB vars cls)) σ := by
 have hcl := hs.1
 refine ret_of c32_ok rfl ?_
 simp (disch := omega) only [c32, cnfV, go_sem]
 refine SRun.boxR (by simp [ev, look, V.cells, V.one]) ?_
 intro b1 hb1
 have g1 := upd_same σ b1 [.int .i64 vars, .isl false 1 (clsV cls)]
 simp (disch := omega) only [go_sem]
 refine SRun.callR (l01In_ok vars 0 40) ⟨[], rfl, rfl⟩ rfl ?_
 simp (disch := omega) only [List.getD_cons_zero, List.getD_cons_succ, go_sem]
 generalize h1 : (decide (0 ≤ vars) && decide (vars ≤ 40)) = q1
 cases q1 with
 | false =>
  simp (disch := omega) only [go_sem]
  exact W_retC c32_ok rfl (Conv.drop _ (le_upd hb1)) ⟨by simp only [cnfB, h1, Bool.false_and]; rfl, rfl⟩
 | true =>
  have hv : 0 ≤ vars ∧ vars ≤ 40 := by simpa using h1
  simp (disch := omega) only [g1, go_sem]
  first | refine iteW_dec (fun h2 => ?_) (fun h2 => ?_) | refine iteW_of (fun h2 => ?_) (fun h2 => ?_)
  ·simp (disch := omega) only [go_sem]
   have : decide (cls.length ≤ 300) = false := decide_eq_false (by omega)
   exact W_retC c32_ok rfl (Conv.drop _ (le_upd hb1)) ⟨by simp only [cnfB, this, Bool.and_false, Bool.false_and]; rfl, rfl⟩
  ·simp (disch := omega) only [go_sem]
   have h300 : decide (cls.length ≤ 300) = true := decide_eq_true (by omega)
   refine W_loopC (α := Nat) (fun i => i ≤ cls.length ∧ (cls.take i).all (clauseB vars) = true) (fun i => [(1, .ptr b1 0), (3, .int .i64 (i : Nat))]) (fun _ => upd σ b1 [.int .i64 vars, .isl false 1 (clsV cls)]) (fun i => cls.length - i) 0 ⟨by omega, rfl⟩ (by simp (disch := omega) only [subT, Int.natCast_add, Int.cast_ofNat_Int, go_sem] <;> (repeat' apply And.intro) <;> first | rfl | (congr 1; omega) | assumption) rfl ?_
   rintro i ⟨hi, hall⟩ ih
   simp (disch := omega) only [g1, go_sem]
   first | refine iteW_dec (fun hq => ?_) (fun hq => ?_) | refine iteW_of (fun hq => ?_) (fun hq => ?_)
   ·have hsome := getD_some [] (by omega : i < cls.length)
    have hsm := hs.2 _ (getD_mem [] (by omega : i < cls.length))
    simp (disch := omega) only [go_sem]
    refine W_drawW ?_
    simp (disch := omega) only [g1, intsV, go_sem]
    generalize cls.getD i [] = c at *
    refine DRun.callQ (l01Clause_ok (ex := false) (xs := c) (vars := vars) hsm (by omega)) ⟨[], rfl, rfl⟩ ?_
    rintro r s ⟨rfl, hs'⟩
    obtain rfl := hs'.symm
    generalize hcb : clauseB vars c = qc
    cases qc with
    | true =>
     simp (disch := omega) only [go_sem]
     exact ih (i + 1) _ _ ⟨by omega, all_take hall hsome hcb⟩ (by omega) (by simp (disch := omega) only [subT, Int.natCast_add, Int.cast_ofNat_Int, go_sem] <;> (repeat' apply And.intro) <;> first | rfl | (congr 1; omega) | assumption) rfl
    | false =>
     simp (disch := omega) only [go_sem]
     exact W_retC c32_ok rfl (Conv.drop _ (le_upd hb1)) ⟨by simp only [cnfB, all_false hsome hcb, Bool.and_false]; rfl, rfl⟩
   ·rw [List.take_of_length_le (by omega)] at hall
    simp (disch := omega) only [go_sem]
    exact W_retC c32_ok rfl (Conv.drop _ (le_upd hb1)) ⟨by simp only [cnfB, h1, h300, hall, Bool.and_true]; rfl, rfl⟩
end
section
attribute [local irreducible] SRun DS DRun
variable {Γ : St} {σ σ0 : St}
set_option maxHeartbeats 1000000 in
theorem Tseitins_ok {inp : Int} {gs : List (Int × Int)} {x : Int} (hinp : 0 ≤ inp ∧ inp ≤ 12) (hl : gs.length ≤ 400) (hg : GatesOK inp gs) (hx : LitOK inp gs x) : Ret Try.prog Γ 30 [aigV inp gs, .int .i64 x] σ (tsA inp gs x) σ := by
 have hsm := ts_small hinp.1 hg hx hl
 have hgl := gsV_len gs
 have hx' := hx
 unfold LitOK at hx'
 refine ret_of c30_ok rfl ?_
 simp (disch := omega) only [c30, aigV, go_sem]
 refine SRun.boxR (by simp [ev, look, V.cells, V.one]) ?_
 intro b2 hb2
 simp (disch := omega) only [go_sem]
 refine SRun.allocR ?_
 intro b4 hb4
 have n42 := (upd_none.1 hb4).1
 have g2 : upd (upd σ b2 [.int .i64 inp, .isl false 2 (gsV gs)]) b4 [.int .i64 0, .isl true 0 []] b2 = some [.int .i64 inp, .isl false 2 (gsV gs)] := by rw [upd_ne _ _ n42.symm, upd_same]
 have g4 : upd (upd σ b2 [.int .i64 inp, .isl false 2 (gsV gs)]) b4 [.int .i64 0, .isl true 0 []] b4 = some [.int .i64 0, .isl true 0 []] := upd_same _ _ _
 have hσ : ∀ d x, σ d = some x → d ≠ b4 ∧ upd (upd σ b2 [.int .i64 inp, .isl false 2 (gsV gs)]) b4 [.int .i64 0, .isl true 0 []] d = some x := fun d x h => ⟨fun e => by (subst e; rw [(upd_none.1 hb4).2] at h; cases h), le_upd hb4 _ _ (le_upd hb2 _ _ h)⟩
 generalize upd (upd σ b2 [.int .i64 inp, .isl false 2 (gsV gs)]) b4 [.int .i64 0, .isl true 0 []] = s1 at *
 simp (disch := omega) only [g2, go_sem]
 refine SRun.callR (AigOKs_ok (inp := inp) (gs := gs) hinp hl hg) ⟨[], rfl, rfl⟩ rfl ?_
 simp (disch := omega) only [g2, go_sem]
 refine SRun.callR (l04In_ok (inp := inp) (gs := gs) (ex := true) (lits := [x]) hinp hl (by simp) (fun y hy => by rw [List.mem_singleton.1 hy]; exact hx)) ⟨[], rfl, rfl⟩ rfl ?_
 simp (disch := omega) only [g2, hgl, go_sem]
 refine SRun.allocR ?_
 intro b6 hb6
 have n62 : b6 ≠ b2 := fun e => by subst e; rw [g2] at hb6; cases hb6
 have n64 : b6 ≠ b4 := fun e => by subst e; rw [g4] at hb6; cases hb6
 simp (disch := omega) only [go_sem]
 have own0 : OwnL (upd s1 b6 [.int .i64 (inp + gs.length), .isl true 0 []]) 1 ((tsCls inp gs 0).map rawV) (.isl true 0 []) (upd s1 b6 [.int .i64 (inp + gs.length), .isl true 0 []]) := OwnL.nil _ _
 refine W_loopC (α := Nat × V × St) (fun p => p.1 ≤ gs.length ∧ OwnL (upd s1 b6 [.int .i64 (inp + gs.length), p.2.1]) 1 ((tsCls inp gs p.1).map rawV) p.2.1 p.2.2)
  (fun p => [(1, .int .i64 x), (2, .ptr b2 0), (4, .ptr b4 0), (6, .ptr b6 0), (7, .int .i64 (p.1 : Nat))]) (fun p => p.2.2) (fun p => gs.length - p.1) (0, .isl true 0 [], _) ⟨by simp, own0⟩ (by simp (disch := omega) only [subT, Int.natCast_add, Int.cast_ofNat_Int, go_sem] <;> (repeat' apply And.intro) <;> first | rfl | (congr 1; omega) | assumption) rfl ?_
 rintro ⟨i, q, s⟩ ⟨hi, ho⟩ ih
 dsimp only at hi ho
 have gs2 := ho.get (b := b2) (c := [.int .i64 inp, .isl false 2 (gsV gs)]) (by rw [upd_ne _ _ n62.symm]; exact g2)
 have gs6 := ho.get (upd_same _ b6 _)
 have gs4 := ho.get (b := b4) (c := [.int .i64 0, .isl true 0 []]) (by rw [upd_ne _ _ n64.symm]; exact g4)
 have hq1 := ho.one
 simp (disch := omega) only [gs2, hgl, go_sem]
 first | refine iteW_dec (fun hq => ?_) (fun hq => ?_) | refine iteW_of (fun hq => ?_) (fun hq => ?_)
 ·obtain ⟨q1, q2, q3, _, _⟩ := hg i (by omega)
  have hix : inp + 1 + (i : Int) = 1 + inp + i := by omega
  simp (disch := omega) only [gs2, gsV, go_sem]
  generalize hgi : gs.getD i default = g at *
  obtain ⟨u, v⟩ := g
  dsimp only at q1 q2 q3
  have k1 := nodeL_ok (z := u) (N := inp + gs.length) q1 (by omega)
  have k2 := nodeL_ok (z := v) (N := inp + gs.length) (by omega) (by omega)
  simp (disch := omega) only [gV, go_sem]
  refine SRun.callR (l04Lit_ok (x := u) (by omega)) ⟨[], rfl, rfl⟩ rfl ?_
  simp (disch := omega) only [List.getD_cons_zero, List.getD_cons_succ, go_sem]
  simp (disch := omega) only [gs2, gsV, go_sem]
  simp (disch := omega) only [hgi, gV, go_sem]
  refine SRun.callR (l04Lit_ok (x := v) (by omega)) ⟨[], rfl, rfl⟩ rfl ?_
  simp (disch := omega) only [List.getD_cons_zero, List.getD_cons_succ, go_sem]
  simp (disch := omega) only [gs6, Int.zero_sub, hix, go_sem]
  refine SRun.appL (ys := (tsGate inp i (u, v)).map rawV) ho rfl (raw_ok _) (by rw [List.length_map, tsCls_len]; simp only [tsGate, List.length_map, List.length_cons, List.length_nil]; omega) ?_
  intro q' s8 ho8
  have hap : (tsCls inp gs i).map rawV ++ (tsGate inp i (u, v)).map rawV = (tsCls inp gs (i + 1)).map rawV := by rw [tsCls_succ, hgi, List.map_append]
  rw [hap] at ho8
  have g86 := ho8.get (upd_same _ b6 _)
  simp (disch := omega) only [g86, ho8.one, ho8.cells, go_sem]
  have ho9 := ho8.upd (c' := [.int .i64 (inp + gs.length), q']) (upd_same _ b6 _)
  rw [upd_upd] at ho9
  exact ih (i + 1, q', _) _ _ ⟨by simp only; omega, ho9⟩ (by simp only; omega) (by simp (disch := omega) only [subT, Int.natCast_add, Int.cast_ofNat_Int, gsV, go_sem] <;> (repeat' apply And.intro) <;> first | rfl | (congr 1; omega) | assumption) rfl
 ·clear ih
  have hig : i = gs.length := by omega
  rw [hig] at ho
  clear hq
  simp (disch := omega) only [go_sem]
  have hσA : ∀ d x, σ d = some x → d ≠ b4 ∧ d ≠ b6 ∧ s1 d = some x := fun d x hd => by
   obtain ⟨h4, h1⟩ := hσ d x hd
   exact ⟨h4, fun e => by (subst e; rw [h1] at hb6; cases hb6), h1⟩
  first | refine iteW_dec (fun h0 => ?_) (fun h0 => ?_) | refine iteW_of (fun h0 => ?_) (fun h0 => ?_)
  ·subst h0
   simp (disch := omega) only [gs6, go_sem]
   refine SRun.appL (ys := [.isl true 1 []]) ho rfl (by simp [V.cells, V.one]) (by rw [List.length_map, tsCls_len]; simp only [List.length_singleton]; omega) ?_
   intro q' s8 ho8
   have g86 := ho8.get (upd_same _ b6 _)
   have g84 := ho8.get (b := b4) (c := [.int .i64 0, .isl true 0 []]) (by rw [upd_ne _ _ n64.symm]; exact g4)
   simp (disch := omega) only [g86, g84, ho8.one, ho8.cells, go_sem]
   have ho9 := ho8.upd (c' := [.int .i64 (inp + gs.length), q']) (upd_same _ b6 _)
   rw [upd_upd] at ho9
   have hrow : RowC (upd s1 b6 [.int .i64 (inp + gs.length), q']) (tsP inp gs 0) q' (upd s8 b6 [.int .i64 (inp + gs.length), q']) := RowC.end (tsCls inp gs gs.length) (.isl true 1 []) [] (by simp [tsP, tsEnd]) rfl ho9 rfl fun σ σ' => frz_nil _ _
   have hF : Frz (upd s8 b6 [.int .i64 (inp + gs.length), q']) emp (.agg [.int .i64 (inp + gs.length), q']) (cnfV (inp + gs.length) (tsP inp gs 0)) := frz_agg (by exact ⟨.refl _, hrow.frz (fun _ _ => rfl) (fun _ _ => rfl), trivial⟩) (by simp [V.one])
   refine SRun.callR (Ret.lendL (cnfOKb_ok hsm) (by exact ⟨hF, trivial⟩) (Plain.bool _)) ⟨[], rfl, rfl⟩ rfl ?_
   have h86 : (upd s8 b6 [.int .i64 (inp + gs.length), q']) b6 = some [.int .i64 (inp + gs.length), q'] := upd_same _ _ _
   have h84 : (upd s8 b6 [.int .i64 (inp + gs.length), q']) b4 = some [.int .i64 0, .isl true 0 []] := by rw [upd_ne _ _ n64.symm]; exact g84
   have hone : (q').one = true := ho8.one
   have hdone := ts_done (b4 := b4) (σ := σ) rfl hrow ⟨_, g4⟩ hσA
   generalize upd s8 b6 [.int .i64 (inp + gs.length), q'] = s9 at *
   generalize hqq : cnfB (inp + gs.length) (tsP inp gs 0) = qq
   have hA : tsA inp gs 0 = bif qq then .tup [cnfV (inp + gs.length) (tsP inp gs 0), .int .i64 0] else .tup [cnfV 0 [], .int .i64 11] := by rw [← hqq]; rfl
   cases qq with
   | true =>
    simp (disch := omega) only [h84, h86, hone, go_sem]
    exact W_retC c30_ok (r := .tup [.agg [.int .i64 (inp + gs.length), q'], .int .i64 0]) (r' := .tup [cnfV (inp + gs.length) (tsP inp gs 0), .int .i64 0]) (σ' := σ) (resV_2 rfl (upd_same _ _ _) rfl) ⟨hdone.1, frz_tup (by exact ⟨hdone.2, .refl _, trivial⟩)⟩ ⟨hA.symm, rfl⟩
   | false =>
    simp (disch := omega) only [h84, go_sem]
    exact W_retC c30_ok (r := .tup [.agg [.int .i64 0, .isl true 0 []], .int .i64 11]) (r' := .tup [cnfV 0 [], .int .i64 11]) (σ' := σ) (resV_2 rfl (upd_same _ _ _) rfl) ⟨fun d y hd => by have := hdone.1 d y hd; rw [upd_ne _ _ (hσA d y hd).1] at this ⊢; exact this, frz_tup (by exact ⟨zero_frz, .refl _, trivial⟩)⟩ ⟨hA.symm, rfl⟩
  ·simp (disch := omega) only [go_sem]
   first | refine iteW_dec (fun h1 => ?_) (fun h1 => ?_) | refine iteW_of (fun h1 => ?_) (fun h1 => ?_)
   ·subst h1
    have hrow : RowC (upd s1 b6 [.int .i64 (inp + gs.length), q]) (tsP inp gs 1) q s := by
     have : tsP inp gs 1 = tsCls inp gs gs.length := by simp [tsP, tsEnd]
     rw [this]; exact RowC.of ho
    simp (disch := omega) only [gs6, go_sem]
    have hF : Frz (s) emp (.agg [.int .i64 (inp + gs.length), q]) (cnfV (inp + gs.length) (tsP inp gs 1)) := frz_agg (by exact ⟨.refl _, hrow.frz (fun _ _ => rfl) (fun _ _ => rfl), trivial⟩) (by simp [V.one])
    refine SRun.callR (Ret.lendL (cnfOKb_ok hsm) (by exact ⟨hF, trivial⟩) (Plain.bool _)) ⟨[], rfl, rfl⟩ rfl ?_
    have h86 : (s) b6 = some [.int .i64 (inp + gs.length), q] := gs6
    have h84 : (s) b4 = some [.int .i64 0, .isl true 0 []] := gs4
    have hone : (q).one = true := hq1
    have hdone := ts_done (b4 := b4) (σ := σ) rfl hrow ⟨_, g4⟩ hσA
    generalize s = s9 at *
    generalize hqq : cnfB (inp + gs.length) (tsP inp gs 1) = qq
    have hA : tsA inp gs 1 = bif qq then .tup [cnfV (inp + gs.length) (tsP inp gs 1), .int .i64 0] else .tup [cnfV 0 [], .int .i64 11] := by rw [← hqq]; rfl
    cases qq with
    | true =>
     simp (disch := omega) only [h84, h86, hone, go_sem]
     exact W_retC c30_ok (r := .tup [.agg [.int .i64 (inp + gs.length), q], .int .i64 0]) (r' := .tup [cnfV (inp + gs.length) (tsP inp gs 1), .int .i64 0]) (σ' := σ) (resV_2 rfl (upd_same _ _ _) rfl) ⟨hdone.1, frz_tup (by exact ⟨hdone.2, .refl _, trivial⟩)⟩ ⟨hA.symm, rfl⟩
    | false =>
     simp (disch := omega) only [h84, go_sem]
     exact W_retC c30_ok (r := .tup [.agg [.int .i64 0, .isl true 0 []], .int .i64 11]) (r' := .tup [cnfV 0 [], .int .i64 11]) (σ' := σ) (resV_2 rfl (upd_same _ _ _) rfl) ⟨fun d y hd => by have := hdone.1 d y hd; rw [upd_ne _ _ (hσA d y hd).1] at this ⊢; exact this, frz_tup (by exact ⟨zero_frz, .refl _, trivial⟩)⟩ ⟨hA.symm, rfl⟩
   ·refine W_drawW ?_
    refine DRun.mixE rfl ?_
    simp (disch := omega) only [gs6, go_sem]
    refine DS.callB (l04Lit_ok (x := x) (by omega)) ⟨[], rfl, rfl⟩ rfl rfl ?_
    simp (disch := omega) only [go_sem]
    refine DRun.appL (ys := [rawV [nodeL x]]) ho rfl (raw_ok [[nodeL x]]) (by rw [List.length_map, tsCls_len]; simp only [List.length_singleton]; omega) ?_
    intro q' s8 ho8
    have g86 := ho8.get (upd_same _ b6 _)
    have g84 := ho8.get (b := b4) (c := [.int .i64 0, .isl true 0 []]) (by rw [upd_ne _ _ n64.symm]; exact g4)
    simp (disch := omega) only [g86, g84, ho8.one, ho8.cells, go_sem]
    have ho9 := ho8.upd (c' := [.int .i64 (inp + gs.length), q']) (upd_same _ b6 _)
    rw [upd_upd] at ho9
    have hrow : RowC (upd s1 b6 [.int .i64 (inp + gs.length), q']) (tsP inp gs x) q' (upd s8 b6 [.int .i64 (inp + gs.length), q']) := RowC.end (tsCls inp gs gs.length) (rawV [nodeL x]) [nodeL x] (by simp [tsP, tsEnd, h0, h1]) rfl ho9 rfl fun σ σ' => rawV_frz _
    have hF : Frz (upd s8 b6 [.int .i64 (inp + gs.length), q']) emp (.agg [.int .i64 (inp + gs.length), q']) (cnfV (inp + gs.length) (tsP inp gs x)) := frz_agg (by exact ⟨.refl _, hrow.frz (fun _ _ => rfl) (fun _ _ => rfl), trivial⟩) (by simp [V.one])
    refine SRun.callR (Ret.lendL (cnfOKb_ok hsm) (by exact ⟨hF, trivial⟩) (Plain.bool _)) ⟨[], rfl, rfl⟩ rfl ?_
    have h86 : (upd s8 b6 [.int .i64 (inp + gs.length), q']) b6 = some [.int .i64 (inp + gs.length), q'] := upd_same _ _ _
    have h84 : (upd s8 b6 [.int .i64 (inp + gs.length), q']) b4 = some [.int .i64 0, .isl true 0 []] := by rw [upd_ne _ _ n64.symm]; exact g84
    have hone : (q').one = true := ho8.one
    have hdone := ts_done (b4 := b4) (σ := σ) rfl hrow ⟨_, g4⟩ hσA
    generalize upd s8 b6 [.int .i64 (inp + gs.length), q'] = s9 at *
    generalize hqq : cnfB (inp + gs.length) (tsP inp gs x) = qq
    have hA : tsA inp gs x = bif qq then .tup [cnfV (inp + gs.length) (tsP inp gs x), .int .i64 0] else .tup [cnfV 0 [], .int .i64 11] := by rw [← hqq]; rfl
    cases qq with
    | true =>
     simp (disch := omega) only [h84, h86, hone, go_sem]
     exact W_retC c30_ok (r := .tup [.agg [.int .i64 (inp + gs.length), q'], .int .i64 0]) (r' := .tup [cnfV (inp + gs.length) (tsP inp gs x), .int .i64 0]) (σ' := σ) (resV_2 rfl (upd_same _ _ _) rfl) ⟨hdone.1, frz_tup (by exact ⟨hdone.2, .refl _, trivial⟩)⟩ ⟨hA.symm, rfl⟩
    | false =>
     simp (disch := omega) only [h84, go_sem]
     exact W_retC c30_ok (r := .tup [.agg [.int .i64 0, .isl true 0 []], .int .i64 11]) (r' := .tup [cnfV 0 [], .int .i64 11]) (σ' := σ) (resV_2 rfl (upd_same _ _ _) rfl) ⟨fun d y hd => by have := hdone.1 d y hd; rw [upd_ne _ _ (hσA d y hd).1] at this ⊢; exact this, frz_tup (by exact ⟨zero_frz, .refl _, trivial⟩)⟩ ⟨hA.symm, rfl⟩
end
section
variable {Γ : St} {σ σ0 : St}
attribute [local irreducible] SRun DS DRun
theorem WrF.store {P : Program} {T : Ts} {d : Option Nat} {n : Nat} {ad y : Opd} {b off : Nat} {cs : List V} (ha : ev Γ T ad = .ptr b off) (hb : σ b = some cs) (hn : (ev Γ T y).cells.length = n) (h1 : ∀ c ∈ (ev Γ T y).cells, c.one = true) (h4 : off + n ≤ cs.length) :
  WrF P Γ σ T ⟨d, none, .store n ad y⟩ fun r s => r = .undef ∧ s = upd σ b (sets cs off (ev Γ T y).cells) :=
 WrF.of fun T' hT => by
  have e1 := hT ad (by simp [I.opds])
  have e2 := hT y (by simp [I.opds])
  exact InsOK.store (by rw [e1]; exact ha) hb (by rw [e2]; exact hn) (by rw [e2]; exact h1) h4 ⟨rfl, by rw [e2]⟩
end
end Go.Proofs.Ytdenfjbhkdhlkaa.Lg
