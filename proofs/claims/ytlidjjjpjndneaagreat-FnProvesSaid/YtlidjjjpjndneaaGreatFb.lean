/- Claims that are drawn. -/
import Derived.Test.YtlidjjjpjndneaaGreatKt6
set_option linter.unusedSimpArgs false
set_option linter.unusedVariables false
namespace Go.Proofs.YtlidjjjpjndneaaGreat.Lg
open Go
attribute [local irreducible] SRun DS DRun
variable {Γ : St} {σ σ0 : St}
def nodeE (k : Int) (ks : List Ex) : Ex := .mk k 0 ks
theorem nodeE_frz {σ σ' : St} (k : Int) (ks : List Ex) (e : Bool) : Frz σ σ' (.agg [.int .i64 k, .int .i64 0, .isl e 3 (exsV ks)]) (exV (nodeE k ks)) := exV_conv (.isl _ _ _)
theorem mkEx_ok {k : Int} {ks : List Ex} {e : Bool} : Ret Tryz.prog Γ 28 [.int .i64 k, .isl e 3 (exsV ks)] σ (exV (nodeE k ks)) σ := by
  refine ret_of c28_ok rfl ?_
  simp (disch := omega) only [c28, go_sem]
  refine SRun.allocR ?_
  intro b4 hb4
  simp (disch := omega) only [go_sem]
  exact W_retC c28_ok (r := .agg [.int .i64 k, .int .i64 0, .isl e 3 (exsV ks)]) (r' := exV (nodeE k ks)) (σ' := σ) (resV_cellA rfl (upd_same _ _ _) rfl) ⟨le_upd hb4, nodeE_frz k ks e⟩ ⟨rfl, rfl⟩
theorem keepU {s σ : St} {b : Nat} {c : List V} (h : ∀ d x, d ≠ b → σ d = some x → s d = some x) : ∀ d x, d ≠ b → σ d = some x → upd s b c d = some x := fun d x hd h2 => by rw [upd_ne _ _ hd]; exact h d x hd h2
theorem keepN {s σ : St} {b b' : Nat} {c : List V} (hb : s b' = none) (h : ∀ d x, d ≠ b → σ d = some x → s d = some x) : ∀ d x, d ≠ b → σ d = some x → upd s b' c d = some x := fun d x hd h2 => le_upd hb _ _ (h d x hd h2)
theorem ExD.n1 {d : Nat} {k : Int} {a : Ex} (h : ExD d a) (hk : k = 3) : ExD (d + 1) (nodeE k [a]) := ExD.node (fun e he => by rw [List.mem_singleton.1 he]; exact h) (by omega) (by subst hk; rfl)
theorem ExD.n2 {d : Nat} {k : Int} {a b : Ex} (h : ExD d a) (h2 : ExD d b) (hk : k = 4 ∨ k = 5 ∨ k = 6) : ExD (d + 1) (nodeE k [a, b]) := ExD.node (fun e he => by
  rcases List.mem_cons.1 he with rfl | he
  · exact h
  · rw [List.mem_singleton.1 he]; exact h2) (by omega) (by rcases hk with rfl | rfl | rfl <;> rfl)
theorem ExD.n3 {d : Nat} {a b c : Ex} (h : ExD d a) (h2 : ExD d b) (h3 : ExD d c) : ExD (d + 1) (nodeE 7 [a, b, c]) := ExD.node (fun e he => by
  rcases List.mem_cons.1 he with rfl | he
  · exact h
  · rcases List.mem_cons.1 he with rfl | he
    · exact h2
    · rw [List.mem_singleton.1 he]; exact h3) (by omega) rfl
theorem sets_z3 (e : Ex) : sets [V.int IntKind.i64 0, V.int IntKind.i64 0, V.isl true 0 []] 0 (exC e) = exC e := by obtain ⟨k, n, ks⟩ := e; rfl
theorem ExD.sz {d : Nat} {e : Ex} (h : ExD d e) (hd : d ≤ 7) : sizeE e ≤ 1000000 := by have := h.size; have := szB_le hd; omega
set_option maxHeartbeats 2000000 in
theorem claim_ok {b : Nat} {ex : Bool} {code : List UInt8} {a s : Int} (hb : σ b = some (srcC ex code a s)) (ha : 0 ≤ a ∧ a ≤ 1000) (hs : 0 ≤ s ∧ s < 2147483648) :
    ACalls Tryz.prog Γ 12 [.ptr b 0] σ fun r σ' => ∃ e c', ExD 6 e ∧ r = exV e ∧ σ' = upd σ b c' := by
  have z1 : (szB (2 + 1) : Int) = 13 := by decide
  have z2 : (szB (1 + 1) : Int) = 4 := by decide
  refine acalls_W c12_ok rfl ?_
  simp (disch := omega) only [c12, go_sem]
  refine SRun.allocR ?_
  intro b2 hb2
  have n2 : b2 ≠ b := fun e => by subst e; rw [hb] at hb2; cases hb2
  simp (disch := omega) only [go_sem]
  refine SRun.callQ (ex_ok 2 (by omega) (le_upd hb2 _ _ hb) (by omega) hs) ⟨[], rfl, rfl⟩ rfl ?_
  rintro r _ ⟨e, a1, s1, he, p1, p2, p3, p4, rfl, rfl⟩
  have hle1 : ∀ d x, d ≠ b → σ d = some x → upd (upd σ b2 [.int .i64 0, .int .i64 0, .isl true 0 []]) b (srcC ex code a1 s1) d = some x := keepU (keepN hb2 (fun d x _ h => h))
  have gb1 := upd_same (upd σ b2 [.int .i64 0, .int .i64 0, .isl true 0 []]) b (srcC ex code a1 s1)
  have g21 : upd (upd σ b2 [.int .i64 0, .int .i64 0, .isl true 0 []]) b (srcC ex code a1 s1) b2 = some [.int .i64 0, .int .i64 0, .isl true 0 []] := by rw [upd_ne _ _ n2, upd_same]
  generalize upd (upd σ b2 [.int .i64 0, .int .i64 0, .isl true 0 []]) b (srcC ex code a1 s1) = t1 at *
  have he1 := exC_one e
  simp (disch := omega) only [go_sem]
  refine SRun.allocR ?_
  intro b3 hb3
  simp (disch := omega) only [he1, sets_z3, go_sem]
  have n3 : b3 ≠ b := fun e => by subst e; rw [gb1] at hb3; cases hb3
  have n32 : b3 ≠ b2 := fun e => by subst e; rw [g21] at hb3; cases hb3
  have hle2 : ∀ d x, d ≠ b → σ d = some x → upd t1 b3 (exC e) d = some x := keepN hb3 hle1
  refine SRun.callQ (next_ok (le_upd hb3 _ _ gb1) (by omega) ⟨p3, p4⟩) ⟨[], rfl, rfl⟩ rfl ?_
  rintro r _ ⟨v, a2, s2, l1, l2, l3, l4, l5, l6, l7, rfl, rfl⟩
  have hle3 := keepU (c := srcC ex code a2 s2) hle2
  have gb3 := upd_same (upd t1 b3 (exC e)) b (srcC ex code a2 s2)
  have g23 : upd (upd t1 b3 (exC e)) b (srcC ex code a2 s2) b2 = some [.int .i64 0, .int .i64 0, .isl true 0 []] := by rw [upd_ne _ _ n2, upd_ne _ _ n32.symm]; exact g21
  have g33 : upd (upd t1 b3 (exC e)) b (srcC ex code a2 s2) b3 = some (exC e) := by rw [upd_ne _ _ n3, upd_same]
  generalize upd (upd t1 b3 (exC e)) b (srcC ex code a2 s2) = t3 at *
  clear hle2 hle1 gb1 g21 hb3
  have fin : ∀ (g : Ex) (u : St) (c : List V), (∀ d x, d ≠ b → σ d = some x → u d = some x) → u b = some c → Conv (upd u b2 (exC g)) (.agg (exC g)) (upd σ b c) (exV g) := fun g u c h1 h2 =>
    ⟨fun d x hd => by
      by_cases e : d = b
      · subst e; rw [upd_same] at hd; rw [upd_ne _ _ n2.symm, h2]; exact hd
      · rw [upd_ne _ _ e] at hd
        have : d ≠ b2 := fun e => by subst e; rw [hb2] at hd; cases hd
        rw [upd_ne _ _ this]; exact h1 d x e hd, by rw [agg_exC]; exact .refl _⟩
  simp (disch := omega) only [go_sem]
  first | refine iteW_dec (fun h0 => ?_) (fun h0 => ?_) | refine iteW_of (fun h0 => ?_) (fun h0 => ?_)
  · have hsz := he.sz (by omega)
    simp (disch := omega) only [go_sem]
    refine W_drawW ?_
    refine DRun.mixE rfl ?_
    simp (disch := omega) only [g33, go_sem]
    refine DS.callB (l05Copy_ok e hsz) ⟨[], rfl, rfl⟩ rfl rfl ?_
    simp (disch := omega) only [go_sem]
    refine DS.callB (mkEx_ok (k := 3) (ks := [e]) (e := true)) ⟨[], rfl, rfl⟩ rfl rfl ?_
    simp (disch := omega) only [go_sem]
    refine DRun.callQ (mkEx_ok (k := 5) (ks := [e, nodeE 3 [e]]) (e := true)) ⟨[], rfl, rfl⟩ ?_
    rintro r s ⟨rfl, hs⟩
    obtain rfl := hs.symm
    simp (disch := omega) only [g23, go_sem]
    exact W_retC c12_ok (resV_cellA rfl (upd_same _ _ _) (exC_len _).symm) (fin _ t3 _ hle3 gb3) ⟨_, _, ((he.mono (by omega : 2 + 1 ≤ 4)).n2 (he.n1 rfl) (.inr (.inl rfl))).mono (by omega), rfl, rfl⟩
  simp (disch := omega) only [go_sem]
  first | refine iteW_dec (fun h1 => ?_) (fun h1 => ?_) | refine iteW_of (fun h1 => ?_) (fun h1 => ?_)
  · simp (disch := omega) only [go_sem]
    refine SRun.callQ (ex_ok 1 (by omega) gb3 (by omega) ⟨l6, l7⟩) ⟨[], rfl, rfl⟩ rfl ?_
    rintro r _ ⟨x, a4, s4, hx, q1, q2, q3, q4, rfl, rfl⟩
    have hx1 := exC_one x
    have hle4 := keepU (c := srcC ex code a4 s4) hle3
    have gb4 := upd_same t3 b (srcC ex code a4 s4)
    have g24 : upd t3 b (srcC ex code a4 s4) b2 = some [.int .i64 0, .int .i64 0, .isl true 0 []] := by rw [upd_ne _ _ n2]; exact g23
    have g34 : upd t3 b (srcC ex code a4 s4) b3 = some (exC e) := by rw [upd_ne _ _ n3]; exact g33
    generalize upd t3 b (srcC ex code a4 s4) = t4 at *
    clear hle3 gb3 g23 g33
    simp (disch := omega) only [go_sem]
    refine SRun.allocR ?_
    intro b4 hb4
    have n4 : b4 ≠ b := fun e => by subst e; rw [gb4] at hb4; cases hb4
    have n42 : b4 ≠ b2 := fun e => by subst e; rw [g24] at hb4; cases hb4
    have n43 : b4 ≠ b3 := fun e => by subst e; rw [g34] at hb4; cases hb4
    simp (disch := omega) only [hx1, sets_z3, go_sem]
    have hle5 := keepN (c := exC x) hb4 hle4
    have gb5 := le_upd (cs := exC x) hb4 _ _ gb4
    have g25 := le_upd (cs := exC x) hb4 _ _ g24
    have g35 := le_upd (cs := exC x) hb4 _ _ g34
    have g45 := upd_same t4 b4 (exC x)
    generalize upd t4 b4 (exC x) = t5 at *
    clear hle4 gb4 g24 g34 hb4
    refine SRun.callQ (ex_ok 1 (by omega) gb5 (by omega) ⟨q3, q4⟩) ⟨[], rfl, rfl⟩ rfl ?_
    rintro r _ ⟨y, a6, s6, hy, r1, r2, r3, r4, rfl, rfl⟩
    have hy1 := exC_one y
    have hle6 := keepU (c := srcC ex code a6 s6) hle5
    have gb6 := upd_same t5 b (srcC ex code a6 s6)
    have g26 : upd t5 b (srcC ex code a6 s6) b2 = some [.int .i64 0, .int .i64 0, .isl true 0 []] := by rw [upd_ne _ _ n2]; exact g25
    have g36 : upd t5 b (srcC ex code a6 s6) b3 = some (exC e) := by rw [upd_ne _ _ n3]; exact g35
    have g46 : upd t5 b (srcC ex code a6 s6) b4 = some (exC x) := by rw [upd_ne _ _ n4]; exact g45
    generalize upd t5 b (srcC ex code a6 s6) = t6 at *
    clear hle5 gb5 g25 g35 g45
    simp (disch := omega) only [go_sem]
    refine SRun.allocR ?_
    intro b5 hb5
    have n5 : b5 ≠ b := fun e => by subst e; rw [gb6] at hb5; cases hb5
    have n52 : b5 ≠ b2 := fun e => by subst e; rw [g26] at hb5; cases hb5
    simp (disch := omega) only [hy1, sets_z3, go_sem]
    have hle7 := keepN (c := exC y) hb5 hle6
    have gb7 := le_upd (cs := exC y) hb5 _ _ gb6
    have g27 := le_upd (cs := exC y) hb5 _ _ g26
    have g47 := le_upd (cs := exC y) hb5 _ _ g46
    have g57 := upd_same t6 b5 (exC y)
    generalize upd t6 b5 (exC y) = t7 at *
    clear hle6 gb6 g26 g36 g46 hb5
    have hxs := hx.sz (by omega)
    have hys := hy.sz (by omega)
    refine W_drawW ?_
    refine DRun.mixE rfl ?_
    simp (disch := omega) only [g47, g57, go_sem]
    refine DS.callB (mkEx_ok (k := 4) (ks := [x, y]) (e := true)) ⟨[], rfl, rfl⟩ rfl rfl ?_
    simp (disch := omega) only [go_sem]
    refine DS.callB (mkEx_ok (k := 3) (ks := [nodeE 4 [x, y]]) (e := true)) ⟨[], rfl, rfl⟩ rfl rfl ?_
    simp (disch := omega) only [go_sem]
    refine DS.callB (l05Copy_ok x hxs) ⟨[], rfl, rfl⟩ rfl rfl ?_
    simp (disch := omega) only [go_sem]
    refine DS.callB (mkEx_ok (k := 3) (ks := [x]) (e := true)) ⟨[], rfl, rfl⟩ rfl rfl ?_
    simp (disch := omega) only [go_sem]
    refine DRun.callQ (l05Copy_ok y hys) ⟨[], rfl, rfl⟩ ?_
    rintro r s ⟨rfl, hs⟩
    obtain rfl := hs.symm
    simp (disch := omega) only [go_sem]
    refine DRun.callQ (mkEx_ok (k := 3) (ks := [y]) (e := true)) ⟨[], rfl, rfl⟩ ?_
    rintro r s ⟨rfl, hs⟩
    obtain rfl := hs.symm
    simp (disch := omega) only [go_sem]
    refine DRun.callQ (mkEx_ok (k := 5) (ks := [nodeE 3 [x], nodeE 3 [y]]) (e := true)) ⟨[], rfl, rfl⟩ ?_
    rintro r s ⟨rfl, hs⟩
    obtain rfl := hs.symm
    simp (disch := omega) only [go_sem]
    refine DRun.callQ (mkEx_ok (k := 6) (ks := [nodeE 3 [nodeE 4 [x, y]], nodeE 5 [nodeE 3 [x], nodeE 3 [y]]]) (e := true)) ⟨[], rfl, rfl⟩ ?_
    rintro r s ⟨rfl, hs⟩
    obtain rfl := hs.symm
    simp (disch := omega) only [go_sem]
    refine DRun.callQ (mkEx_ok (k := 3) (ks := [nodeE 6 [nodeE 3 [nodeE 4 [x, y]], nodeE 5 [nodeE 3 [x], nodeE 3 [y]]]]) (e := true)) ⟨[], rfl, rfl⟩ ?_
    rintro r s ⟨rfl, hs⟩
    obtain rfl := hs.symm
    simp (disch := omega) only [g27, go_sem]
    exact W_retC c12_ok (resV_cellA rfl (upd_same _ _ _) (exC_len _).symm) (fin _ t7 _ hle7 gb7) ⟨_, _, ((((hx.n2 hy (.inl rfl)).n1 rfl).n2 (((hx.n1 rfl).n2 (hy.n1 rfl) (.inr (.inl rfl)))) (.inr (.inr rfl))).n1 rfl).mono (by omega), rfl, rfl⟩
  simp (disch := omega) only [go_sem]
  first | refine iteW_dec (fun h2 => ?_) (fun h2 => ?_) | refine iteW_of (fun h2 => ?_) (fun h2 => ?_)
  · simp (disch := omega) only [go_sem]
    refine SRun.callQ (ex_ok 1 (by omega) gb3 (by omega) ⟨l6, l7⟩) ⟨[], rfl, rfl⟩ rfl ?_
    rintro r _ ⟨x, a4, s4, hx, q1, q2, q3, q4, rfl, rfl⟩
    have hx1 := exC_one x
    have hle4 := keepU (c := srcC ex code a4 s4) hle3
    have gb4 := upd_same t3 b (srcC ex code a4 s4)
    have g24 : upd t3 b (srcC ex code a4 s4) b2 = some [.int .i64 0, .int .i64 0, .isl true 0 []] := by rw [upd_ne _ _ n2]; exact g23
    have g34 : upd t3 b (srcC ex code a4 s4) b3 = some (exC e) := by rw [upd_ne _ _ n3]; exact g33
    generalize upd t3 b (srcC ex code a4 s4) = t4 at *
    clear hle3 gb3 g23 g33
    simp (disch := omega) only [go_sem]
    refine SRun.allocR ?_
    intro b4 hb4
    have n4 : b4 ≠ b := fun e => by subst e; rw [gb4] at hb4; cases hb4
    have n42 : b4 ≠ b2 := fun e => by subst e; rw [g24] at hb4; cases hb4
    have n43 : b4 ≠ b3 := fun e => by subst e; rw [g34] at hb4; cases hb4
    simp (disch := omega) only [hx1, sets_z3, go_sem]
    have hle5 := keepN (c := exC x) hb4 hle4
    have gb5 := le_upd (cs := exC x) hb4 _ _ gb4
    have g25 := le_upd (cs := exC x) hb4 _ _ g24
    have g35 := le_upd (cs := exC x) hb4 _ _ g34
    have g45 := upd_same t4 b4 (exC x)
    generalize upd t4 b4 (exC x) = t5 at *
    clear hle4 gb4 g24 g34 hb4
    refine SRun.callQ (ex_ok 1 (by omega) gb5 (by omega) ⟨q3, q4⟩) ⟨[], rfl, rfl⟩ rfl ?_
    rintro r _ ⟨y, a6, s6, hy, r1, r2, r3, r4, rfl, rfl⟩
    have hy1 := exC_one y
    have hle6 := keepU (c := srcC ex code a6 s6) hle5
    have gb6 := upd_same t5 b (srcC ex code a6 s6)
    have g26 : upd t5 b (srcC ex code a6 s6) b2 = some [.int .i64 0, .int .i64 0, .isl true 0 []] := by rw [upd_ne _ _ n2]; exact g25
    have g36 : upd t5 b (srcC ex code a6 s6) b3 = some (exC e) := by rw [upd_ne _ _ n3]; exact g35
    have g46 : upd t5 b (srcC ex code a6 s6) b4 = some (exC x) := by rw [upd_ne _ _ n4]; exact g45
    generalize upd t5 b (srcC ex code a6 s6) = t6 at *
    clear hle5 gb5 g25 g35 g45
    simp (disch := omega) only [go_sem]
    refine SRun.allocR ?_
    intro b5 hb5
    have n5 : b5 ≠ b := fun e => by subst e; rw [gb6] at hb5; cases hb5
    have n52 : b5 ≠ b2 := fun e => by subst e; rw [g26] at hb5; cases hb5
    simp (disch := omega) only [hy1, sets_z3, go_sem]
    have hle7 := keepN (c := exC y) hb5 hle6
    have gb7 := le_upd (cs := exC y) hb5 _ _ gb6
    have g27 := le_upd (cs := exC y) hb5 _ _ g26
    have g47 := le_upd (cs := exC y) hb5 _ _ g46
    have g57 := upd_same t6 b5 (exC y)
    generalize upd t6 b5 (exC y) = t7 at *
    clear hle6 gb6 g26 g36 g46 hb5
    have hxs := hx.sz (by omega)
    have hys := hy.sz (by omega)
    refine W_drawW ?_
    refine DRun.mixE rfl ?_
    simp (disch := omega) only [g47, g57, go_sem]
    refine DS.callB (mkEx_ok (k := 4) (ks := [x, y]) (e := true)) ⟨[], rfl, rfl⟩ rfl rfl ?_
    simp (disch := omega) only [go_sem]
    refine DS.callB (mkEx_ok (k := 3) (ks := [nodeE 4 [x, y]]) (e := true)) ⟨[], rfl, rfl⟩ rfl rfl ?_
    simp (disch := omega) only [go_sem]
    refine DS.callB (l05Copy_ok x hxs) ⟨[], rfl, rfl⟩ rfl rfl ?_
    simp (disch := omega) only [go_sem]
    refine DS.callB (l05Copy_ok y hys) ⟨[], rfl, rfl⟩ rfl rfl ?_
    simp (disch := omega) only [go_sem]
    refine DRun.callQ (ex_ok 1 (by omega) gb7 (by omega) ⟨r3, r4⟩) ⟨[], rfl, rfl⟩ ?_
    rintro r _ ⟨z, a8, s8, hz, -, -, -, -, rfl, rfl⟩
    have hle8 := keepU (c := srcC ex code a8 s8) hle7
    have gb8 := upd_same t7 b (srcC ex code a8 s8)
    have g28 : upd t7 b (srcC ex code a8 s8) b2 = some [.int .i64 0, .int .i64 0, .isl true 0 []] := by rw [upd_ne _ _ n2]; exact g27
    generalize upd t7 b (srcC ex code a8 s8) = t8 at *
    simp (disch := omega) only [go_sem]
    refine DRun.callQ (mkEx_ok (k := 7) (ks := [x, y, z]) (e := true)) ⟨[], rfl, rfl⟩ ?_
    rintro r s ⟨rfl, hs⟩
    obtain rfl := hs.symm
    simp (disch := omega) only [go_sem]
    refine DRun.callQ (mkEx_ok (k := 5) (ks := [nodeE 3 [nodeE 4 [x, y]], nodeE 7 [x, y, z]]) (e := true)) ⟨[], rfl, rfl⟩ ?_
    rintro r s ⟨rfl, hs⟩
    obtain rfl := hs.symm
    simp (disch := omega) only [g28, go_sem]
    exact W_retC c12_ok (resV_cellA rfl (upd_same _ _ _) (exC_len _).symm) (fin _ t8 _ hle8 gb8) ⟨_, _, (((hx.n2 hy (.inl rfl)).n1 rfl).n2 ((ExD.n3 hx hy hz).mono (by omega)) (.inr (.inl rfl))).mono (by omega), rfl, rfl⟩
  · simp (disch := omega) only [g33, g23, go_sem]
    exact W_retC c12_ok (resV_cellA rfl (upd_same _ _ _) (exC_len _).symm) (fin _ t3 _ hle3 gb3) ⟨e, _, he.mono (by omega), rfl, rfl⟩
end Go.Proofs.YtlidjjjpjndneaaGreat.Lg
