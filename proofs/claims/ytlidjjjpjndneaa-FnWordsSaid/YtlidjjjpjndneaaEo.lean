/- Circuits: the program's values of literals. -/
import Derived.Test.YtlidjjjpjndneaaEn
set_option linter.unusedSimpArgs false
set_option linter.unusedVariables false
namespace Go.Proofs.Ytlidjjjpjndneaa.Lg
open Go
attribute [local irreducible] SRun DS DRun
variable {Γ : St} {σ σ0 : St}
set_option maxHeartbeats 1000000 in
theorem evalAig_ok {inp : Int} {gs : List (Int × Int)} {ex ex2 : Bool} {lits : List Int} {vs : List Bool} (hinp : 0 ≤ inp ∧ inp ≤ 12) (hl : gs.length ≤ 400) (hg : GatesOK inp gs) (hv : (vs.length : Int) = inp) (hv0 : vs ≠ []) (hlit : ∀ x ∈ lits, LitOK inp gs x) (hll : lits.length ≤ 4096) :
    Ret Try.prog Γ 81 [aigV inp gs, .isl ex 1 (ints lits), .isl ex2 1 (bools vs)] σ (boolsV (lits.map (valP (nodesP vs gs)))) σ := by
  have hgl := gsV_len gs
  have hvl := bools_len vs
  refine ret_of c81_ok rfl ?_
  simp (disch := omega) only [c81, aigV, go_sem, ↓if_pos, ne_eq, ↓reduceIte]
  refine SRun.boxR (by simp [ev, look, V.cells, V.one]) ?_
  intro b3 hb3
  simp (disch := omega) only [go_sem, ↓if_pos, ne_eq, ↓reduceIte]
  have hvn : vs.length ≠ 0 := fun e => hv0 (List.eq_nil_of_length_eq_zero e)
  have hgI : ∀ d x, σ d = some x → upd σ b3 [.int .i64 inp, .isl false 2 (gsV gs)] d = some x := le_upd hb3
  have g3 : upd σ b3 [.int .i64 inp, .isl false 2 (gsV gs)] b3 = some [.int .i64 inp, .isl false 2 (gsV gs)] := upd_same _ _ _
  generalize upd σ b3 [.int .i64 inp, .isl false 2 (gsV gs)] = σ1 at *
  have hsrc : srcV σ1 1 (.isl ex2 1 (bools vs)) = some (bools vs, vs.length) := by rw [src_isl, flat_one (bools_one vs), bools_len]
  refine SRun.appR (old := flat [.bool false]) (sLen := 1) (new := bools vs) (m := vs.length) (Base.isl [.bool false] 1 (.inr rfl)) hsrc (by omega) ?_ (fun h => absurd h hvn)
  intro bn cap hbn hcap
  change σ1 bn = none at hbn
  change W _ _ _ _ _ _ _ (upd σ1 bn (flat [.bool false] ++ bools vs))
  have own0 : OwnL σ1 1 (bools (nodesP vs (gs.take 0))) (.msl bn 1 0 (1 + vs.length) cap) (upd σ1 bn (flat [.bool false] ++ bools vs)) := by
    have e : nodesP vs (gs.take 0) = false :: vs := rfl
    have e2 : flat [.bool false] ++ bools vs = bools (false :: vs) := rfl
    rw [e, e2]
    refine ⟨.inr ⟨bn, cap, hbn, ?_, ?_, ?_, ?_⟩, bools_ok _⟩
    · simp [bools_len]; omega
    · rw [flat_one (bools_one _)]
    · rw [flat_one (bools_one _), bools_len]; simp
    · rw [bools_len]; simp; omega
  generalize upd σ1 bn (flat [.bool false] ++ bools vs) = σ2 at *
  generalize hT : V.msl bn 1 0 (1 + vs.length) cap = T0 at *
  have hT1 := own0.one
  simp (disch := omega) only [go_sem, ↓if_pos, ne_eq, ↓reduceIte]
  refine SRun.allocR ?_
  intro b7 hb7
  have n73 : b7 ≠ b3 := fun e => by subst e; rw [own0.get g3] at hb7; cases hb7
  have h71 : σ1 b7 = none := by
    cases hc : σ1 b7 with
    | none => rfl
    | some x => rw [own0.get hc] at hb7; cases hb7
  have g3' := own0.get g3
  simp (disch := omega) only [g3', hT1, own0.cells, go_sem, ↓if_pos, ne_eq, ↓reduceIte]
  have hle0 : ∀ d x, σ d = some x → upd σ1 b7 [.isl true 0 []] d = some x := fun d x h => le_upd h71 _ _ (hgI d x h)
  have ho0 := own0.ext (z := [.isl true 0 []]) hb7
  have ho1 := ho0.upd (c' := [T0]) (upd_same _ _ _)
  simp only [upd_upd] at ho1
  refine W_loopC (α := Nat × V × St × St) (fun p => p.1 ≤ gs.length ∧ OwnL (upd p.2.2.1 b7 [p.2.1]) 1 (bools (nodesP vs (gs.take p.1))) p.2.1 p.2.2.2 ∧ ∀ d x, σ1 d = some x → p.2.2.1 d = some x)
    (fun p => [(1, .isl ex 1 (ints lits)), (7, .ptr b7 0), (8, .fn 160 [.ptr b7 0]), (3, .ptr b3 0), (19, .isl false 2 (gsV gs)), (20, .int .i64 gs.length), (21, .int .i64 (p.1 : Nat))]) (fun p => p.2.2.2) (fun p => gs.length - p.1) (0, T0, σ1, upd σ2 b7 [T0]) ⟨by omega, ho1, fun _ _ h => h⟩ (by simp (disch := omega) only [subT, Int.natCast_add, Int.cast_ofNat_Int, hgl, go_sem, ↓if_pos, ne_eq, ↓reduceIte] <;> (repeat' apply And.intro) <;> first | rfl | (congr 1; omega) | assumption) rfl ?_
  rintro ⟨i, t, A, s⟩ ⟨hi, ho, hle⟩ ih
  dsimp only at hi ho hle
  simp (disch := omega) only [go_sem, ↓if_pos, ne_eq, ↓reduceIte]
  first | refine iteW_dec (fun hq => ?_) (fun hq => ?_) | refine iteW_of (fun hq => ?_) (fun hq => ?_)
  · obtain ⟨q1, q2, q3, _, _⟩ := hg i (by omega)
    simp (disch := omega) only [gsV, go_sem, ↓if_pos, ne_eq, ↓reduceIte]
    generalize hgi : gs.getD i default = g at *
    obtain ⟨x, y⟩ := g
    dsimp only at q1 q2 q3
    simp (disch := omega) only [gV, go_sem, ↓if_pos, ne_eq, ↓reduceIte]
    refine SRun.allocR ?_
    intro b10 hb10
    have g7 := ho.get (upd_same _ b7 _)
    have n107 : b10 ≠ b7 := fun e => by subst e; rw [g7] at hb10; cases hb10
    have ho2 := ho.ext (z := [.int .i64 0, .int .i64 0]) hb10
    simp (disch := omega) only [go_sem, ↓if_pos, ne_eq, ↓reduceIte]
    refine W_drawW ?_
    have g7' : upd s b10 [V.int IntKind.i64 x, .int .i64 y] b7 = some [t] := le_upd hb10 _ _ g7
    refine DRun.mixE rfl ?_
    simp (disch := omega) only [g7', go_sem, ↓if_pos, ne_eq, ↓reduceIte]
    have hns : (nodesP vs (gs.take i)).length = 1 + vs.length + i := by rw [nodesP_len, List.length_take]; omega
    have ho3 := ho.ext (z := [.int .i64 x, .int .i64 y]) hb10
    have hev : ∀ z : Int, 2 ≤ z → z < 2 * (1 + inp + i) → Ret Try.prog Γ 160 [.int .i64 z, .ptr b7 0] (upd s b10 [V.int IntKind.i64 x, .int .i64 y]) (.bool (valP (nodesP vs (gs.take i)) z)) (upd s b10 [V.int IntKind.i64 x, .int .i64 y]) :=
      fun z h1 h2 => evalAig1_ok g7' (RowB.of ho3 (fun e => by rw [e] at hns; simp at hns; omega)) (by omega) (by omega)
    refine DS.callB (hev x q1 (by omega)) ⟨[.ptr b7 0], rfl, rfl⟩ rfl rfl ?_
    generalize hvx : valP (nodesP vs (gs.take i)) x = vx
    cases vx with
    | true =>
      simp (disch := omega) only [go_sem, ↓if_pos, ne_eq, ↓reduceIte]
      refine DS.callB (hev y (by omega) q3) ⟨[.ptr b7 0], rfl, rfl⟩ rfl rfl ?_
      simp (disch := omega) only [go_sem, ↓if_pos, ne_eq, ↓reduceIte]
      refine DRun.appL ho3 rfl (bools_ok [valP (nodesP vs (gs.take i)) y]) (by rw [bools_len]; simp only [List.length_singleton]; omega) ?_
      intro t' s4 ho4
      have hap : bools (nodesP vs (gs.take i)) ++ [.bool (valP (nodesP vs (gs.take i)) y)] = bools (nodesP vs (gs.take (i + 1))) := by rw [bools_app, nodesP_succ (by omega), hgi, hvx]; rfl
      rw [hap] at ho4
      have g74 := ho4.get (b := b7) (c := [t]) (by rw [upd_ne _ _ n107.symm, upd_same])
      simp (disch := omega) only [g74, ho4.one, ho4.cells, go_sem, ↓if_pos, ne_eq, ↓reduceIte]
      have ho5 := ho4.upd (b := b7) (c := [t]) (c' := [t']) (by rw [upd_ne _ _ n107.symm, upd_same])
      rw [upd_comm _ n107, upd_upd, upd_comm _ n107.symm] at ho5
      refine ih (i + 1, t', upd A b10 [.int .i64 x, .int .i64 y], upd s4 b7 [t']) _ _ ⟨by simp only; omega, ho5, fun d z h => ?_⟩ (by simp only; omega) (by simp (disch := omega) only [subT, Int.natCast_add, Int.cast_ofNat_Int, gsV, go_sem, ↓if_pos, ne_eq, ↓reduceIte] <;> (repeat' apply And.intro) <;> first | rfl | (congr 1; omega) | assumption) rfl
      have hA : A b10 = none := by
        cases hc : A b10 with
        | none => rfl
        | some x => rw [ho.get (b := b10) (c := x) (by rw [upd_ne _ _ n107]; exact hc)] at hb10; cases hb10
      exact le_upd hA _ _ (hle _ _ h)
    | false =>
      simp (disch := omega) only [go_sem, ↓if_pos, ne_eq, ↓reduceIte]
      refine DS.skipG rfl rfl ?_
      simp (disch := omega) only [go_sem, ↓if_pos, ne_eq, ↓reduceIte]
      refine DRun.appL ho3 rfl (bools_ok [false]) (by rw [bools_len]; simp only [List.length_singleton]; omega) ?_
      intro t' s4 ho4
      have hap : bools (nodesP vs (gs.take i)) ++ [.bool (false)] = bools (nodesP vs (gs.take (i + 1))) := by rw [bools_app, nodesP_succ (by omega), hgi, hvx]; rfl
      rw [hap] at ho4
      have g74 := ho4.get (b := b7) (c := [t]) (by rw [upd_ne _ _ n107.symm, upd_same])
      simp (disch := omega) only [g74, ho4.one, ho4.cells, go_sem, ↓if_pos, ne_eq, ↓reduceIte]
      have ho5 := ho4.upd (b := b7) (c := [t]) (c' := [t']) (by rw [upd_ne _ _ n107.symm, upd_same])
      rw [upd_comm _ n107, upd_upd, upd_comm _ n107.symm] at ho5
      refine ih (i + 1, t', upd A b10 [.int .i64 x, .int .i64 y], upd s4 b7 [t']) _ _ ⟨by simp only; omega, ho5, fun d z h => ?_⟩ (by simp only; omega) (by simp (disch := omega) only [subT, Int.natCast_add, Int.cast_ofNat_Int, gsV, go_sem, ↓if_pos, ne_eq, ↓reduceIte] <;> (repeat' apply And.intro) <;> first | rfl | (congr 1; omega) | assumption) rfl
      have hA : A b10 = none := by
        cases hc : A b10 with
        | none => rfl
        | some x => rw [ho.get (b := b10) (c := x) (by rw [upd_ne _ _ n107]; exact hc)] at hb10; cases hb10
      exact le_upd hA _ _ (hle _ _ h)
  · clear ih
    have hig : i = gs.length := by omega
    rw [hig, List.take_length] at ho
    have g7 := ho.get (upd_same _ b7 _)
    simp (disch := omega) only [go_sem, ↓if_pos, ne_eq, ↓reduceIte]
    refine W_loopC (α := Nat × V × St) (fun p => p.1 ≤ lits.length ∧ OwnL s 1 (bools ((lits.take p.1).map (valP (nodesP vs gs)))) p.2.1 p.2.2)
      (fun p => [(1, .isl ex 1 (ints lits)), (8, .fn 160 [.ptr b7 0]), (11, p.2.1), (39, .isl ex 1 (ints lits)), (40, .int .i64 lits.length), (41, .int .i64 (p.1 : Nat))]) (fun p => p.2.2) (fun p => lits.length - p.1) (0, .isl true 0 [], s) ⟨by omega, OwnL.nil _ _⟩ (by simp (disch := omega) only [subT, Int.natCast_add, Int.cast_ofNat_Int, ints_len, go_sem, ↓if_pos, ne_eq, ↓reduceIte] <;> (repeat' apply And.intro) <;> first | rfl | (congr 1; omega) | assumption) rfl ?_
    rintro ⟨j, t2, s2⟩ ⟨hj, ho2⟩ ih2
    dsimp only at hj ho2
    simp (disch := omega) only [go_sem, ↓if_pos, ne_eq, ↓reduceIte]
    first | refine iteW_dec (fun hq2 => ?_) (fun hq2 => ?_) | refine iteW_of (fun hq2 => ?_) (fun hq2 => ?_)
    · have hx := hlit _ (getD_mem 0 (by omega : j < lits.length))
      have hx' := hx
      unfold LitOK at hx'
      have hns : (nodesP vs gs).length = 1 + vs.length + gs.length := nodesP_len _ _
      have hrow := (RowB.of ho (fun e => by rw [e] at hns; simp at hns; omega)).le ho2.le
      simp (disch := omega) only [go_sem, ↓if_pos, ne_eq, ↓reduceIte]
      refine SRun.callR (evalAig1_ok (ns := nodesP vs gs) (x := lits.getD j 0) (ho2.get g7) hrow (by omega) (by omega)) ⟨[.ptr b7 0], rfl, rfl⟩ rfl ?_
      simp (disch := omega) only [go_sem, ↓if_pos, ne_eq, ↓reduceIte]
      refine SRun.appL ho2 rfl (bools_ok [valP (nodesP vs gs) (lits.getD j 0)]) (by rw [bools_len]; simp only [List.length_map, List.length_take, List.length_singleton]; omega) ?_
      intro t3 s3 ho3
      have hap : bools ((lits.take j).map (valP (nodesP vs gs))) ++ [.bool (valP (nodesP vs gs) (lits.getD j 0))] = bools ((lits.take (j + 1)).map (valP (nodesP vs gs))) := by
        rw [take_succ 0 (by omega : j < lits.length), List.map_append]; simp [bools]
      rw [hap] at ho3
      simp (disch := omega) only [go_sem, ↓if_pos, ne_eq, ↓reduceIte]
      exact ih2 (j + 1, t3, s3) _ _ ⟨by simp only; omega, ho3⟩ (by simp only; omega) (by simp (disch := omega) only [subT, Int.natCast_add, Int.cast_ofNat_Int, go_sem, ↓if_pos, ne_eq, ↓reduceIte] <;> (repeat' apply And.intro) <;> first | rfl | (congr 1; omega) | assumption) rfl
    · have hjl : j = lits.length := by omega
      rw [hjl, List.take_length] at ho2
      simp (disch := omega) only [go_sem, ↓if_pos, ne_eq, ↓reduceIte]
      have hσs : ∀ d x, σ d = some x → s d = some x := fun d x hd => by
        have hd1 := hgI _ _ hd
        have h7 : d ≠ b7 := fun e => by subst e; rw [h71] at hd1; cases hd1
        exact ho.get (by rw [upd_ne _ _ h7]; exact hle _ _ hd1)
      have hσn : ∀ d, s d = none → σ d = none := fun d hd => by
        cases hc : σ d with
        | none => rfl
        | some x => rw [hσs _ _ hc] at hd; cases hd
      exact W_retC c81_ok (r := t2) (r' := boolsV (lits.map (valP (nodesP vs gs)))) (σ' := σ) rfl ⟨fun d x hd => ho2.le _ _ (hσs _ _ hd), ho2.frz (fun _ _ => rfl) hσn⟩ ⟨rfl, rfl⟩
end Go.Proofs.Ytlidjjjpjndneaa.Lg
