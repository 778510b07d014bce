/- Routes, the reference's: the best, and whether a state is stable. -/
import Derived.Test.YtabelcohkpmpnaaWd
set_option linter.unusedSimpArgs false
set_option linter.unusedVariables false
namespace Go.Proofs.Ytabelcohkpmpnaa.Lg
open Go
attribute [local irreducible] SRun DS DRun
variable {Γ : St} {σ σ0 : St}
theorem l07Candidates_ok {n : Net} {ex ex2 ex3 : Bool} {env : List Int} {down : List Bool} {rs : List Rt} {router : Int} (hn : NetR n) (ho : n.origins.length ≤ 1000000000000) (he : env.length = n.externals.length) (hd : down.length = n.links.length) (hl : rs.length = n.routers.length) (hr : RtsW rs) :
    Ret Try.prog Γ 72 [netV n, .int .i64 router, .isl ex 1 (ints env), .isl ex2 1 (bools down), .isl ex3 4 (rtsV rs)] σ (.isl false 4 (rtsV (candP n router env down rs))) σ :=
  ACalls.conv (l07Candidates_own hn ho he hd hl hr) fun q s ho => ⟨_, σ, ho.conv, rfl, rfl⟩
theorem rts_plain (rs : List Rt) : ∀ c ∈ flat (rtsV rs), Plain c := by
  intro c hc
  simp only [flat, List.mem_flatMap, rtsV, List.mem_map] at hc
  obtain ⟨x, ⟨r, hr, rfl⟩, hc⟩ := hc
  simp only [V.cells, rtC, List.mem_cons, List.not_mem_nil, or_false] at hc
  rcases hc with rfl | rfl | rfl | rfl
  · exact .int _ _
  · exact .int _ _
  · exact .int _ _
  · exact .bool _
theorem ownL_plain {es : Nat} {xs : List V} {q : V} {s : St} (h : OwnL emp es xs q s) (hp : ∀ c ∈ flat xs, Plain c) : Plain q ∧ ∀ b cs, s b = some cs → ∀ c ∈ cs, Plain c := by
  rcases h.1 with ⟨hc, hl, rfl, es', rfl⟩ | ⟨b2, cap, hb, rfl, rfl, h4⟩
  · exact ⟨.isl0 _ _, fun b cs hb => by cases hb⟩
  · refine ⟨.msl _ _ _ _ _, fun b cs hb => ?_⟩
    by_cases e : b = b2
    · subst e; rw [upd_same] at hb; obtain rfl := Option.some.inj hb; exact hp
    · rw [upd_ne _ _ e] at hb; cases hb
/-- What a router could have, where the routes are owned. -/
theorem l07Candidates_lend {n : Net} {ex ex2 : Bool} {env : List Int} {down : List Bool} {rs : List Rt} {router : Int} {q : V} (hn : NetR n) (ho : n.origins.length ≤ 1000000000000) (he : env.length = n.externals.length) (hd : down.length = n.links.length) (hl : rs.length = n.routers.length) (hr : RtsW rs) (hq : Frz σ emp q (.isl false 4 (rtsV rs))) :
    Ret Try.prog Γ 72 [netV n, .int .i64 router, .isl ex 1 (ints env), .isl ex2 1 (bools down), q] σ (.isl false 4 (rtsV (candP n router env down rs))) σ :=
  ACalls.conv (ACalls.lend (l07Candidates_own (σ := emp) (ex := ex) (ex2 := ex2) (ex3 := false) hn ho he hd hl hr) rfl (frzL_get (by exact ⟨.refl _, .refl _, .refl _, .refl _, hq, trivial⟩)) fun r s h => ownL_plain h (rts_plain _)) fun r s h => by
    obtain ⟨s', e, hd, h⟩ := h
    subst e
    exact ⟨_, σ, (ownL_join h hd).conv, rfl, rfl⟩
theorem l07Best_ok {ex : Bool} {l : List Rt} (hl : l.length ≤ 1000000000000) : Ret Try.prog Γ 71 [.isl ex 4 (rtsV l)] σ (.agg (rtC (bestP l))) σ := by
  refine ret_of c71_ok rfl ?_
  simp (disch := omega) only [c71, go_sem, ↓if_pos, ne_eq, ↓reduceIte]
  refine SRun.allocR ?_
  intro b2 hb2
  simp (disch := omega) only [go_sem, ↓if_pos, ne_eq, ↓reduceIte]
  refine SRun.callR l07None_ok ⟨[], rfl, rfl⟩ rfl ?_
  simp (disch := omega) only [go_sem, ↓if_pos, ne_eq, ↓reduceIte]
  refine SRun.allocR ?_
  intro b3 hb3
  have n32 := (upd_none.1 hb3).1
  have n3 := (upd_none.1 hb3).2
  have hnr : rtC noRt = [.int .i64 (-3), .int .i64 0, .int .i64 0, .bool false] := rfl
  simp (disch := omega) only [hnr, go_sem, ↓if_pos, ne_eq, ↓reduceIte]
  have hrc : ∀ r : Rt, rtC r = [.int .i64 r.via, .int .i64 r.pref, .int .i64 r.len, .bool r.mark] := fun _ => rfl
  refine W_loopC (α := Nat × Rt) (fun p => p.1 ≤ l.length ∧ bestP l = (l.drop p.1).foldl bestStep p.2) (fun p => [(0, .isl ex 4 (rtsV l)), (2, .ptr b2 0), (3, .ptr b3 0), (4, .int .i64 (p.1 : Nat))]) (fun p => upd (upd σ b2 [.int .i64 0, .int .i64 0, .int .i64 0, .bool false]) b3 (rtC p.2)) (fun p => l.length - p.1) (0, noRt) ⟨by simp, rfl⟩ (by simp (disch := omega) only [subT, Int.natCast_add, Int.cast_ofNat_Int, go_sem, ↓if_pos, ne_eq, ↓reduceIte] <;> (repeat' apply And.intro) <;> first | rfl | (congr 1; omega) | assumption) rfl ?_
  rintro ⟨i, o⟩ ⟨hi, hb⟩ ih
  dsimp only at hi hb
  simp (disch := omega) only [go_sem, ↓if_pos, ne_eq, ↓reduceIte]
  first | refine iteW_dec (fun h1 => ?_) (fun h1 => ?_) | refine iteW_of (fun h1 => ?_) (fun h1 => ?_)
  · rw [drop_cons (xs := l) default (by omega : i < l.length), List.foldl_cons] at hb
    have hst : bestStep o (l.getD i default) = if o.via = -3 ∨ betterP (l.getD i default) o then l.getD i default else o := rfl
    have hgr := hrc (l.getD i default)
    simp (disch := omega) only [go_sem, ↓if_pos, ne_eq, ↓reduceIte]
    refine W_drawW ?_
    by_cases c1 : o.via = -3
    · have d1 : decide (o.via = -3) = true := decide_eq_true c1
      rw [hst, if_pos (.inl c1)] at hb
      simp (disch := omega) only [hrc o, d1, go_sem, ↓if_pos, ne_eq, ↓reduceIte]
      refine DRun.skipG rfl ?_
      simp (disch := omega) only [hgr, go_sem, ↓if_pos, ne_eq, ↓reduceIte]
      exact ih (i + 1, l.getD i default) _ _ ⟨by simp only; omega, hb⟩ (by simp only; omega) (by simp (disch := omega) only [subT, Int.natCast_add, Int.cast_ofNat_Int, go_sem, ↓if_pos, ne_eq, ↓reduceIte] <;> (repeat' apply And.intro) <;> first | rfl | (congr 1; omega) | assumption) rfl
    · have d1 : decide (o.via = -3) = false := decide_eq_false c1
      simp (disch := omega) only [hrc o, hgr, d1, go_sem, ↓if_pos, ne_eq, ↓reduceIte]
      refine DRun.callG (l07Better_ok (a := l.getD i default) (b := o)) ⟨[], rfl, rfl⟩ rfl ?_
      rintro r s ⟨rfl, hs⟩
      obtain rfl := hs.symm
      cases c2 : betterP (l.getD i default) o with
      | true =>
        rw [hst, if_pos (.inr c2)] at hb
        simp (disch := omega) only [hgr, go_sem, ↓if_pos, ne_eq, ↓reduceIte]
        exact ih (i + 1, l.getD i default) _ _ ⟨by simp only; omega, hb⟩ (by simp only; omega) (by simp (disch := omega) only [subT, Int.natCast_add, Int.cast_ofNat_Int, go_sem, ↓if_pos, ne_eq, ↓reduceIte] <;> (repeat' apply And.intro) <;> first | rfl | (congr 1; omega) | assumption) rfl
      | false =>
        rw [hst, if_neg (by rw [c2]; simp [c1])] at hb
        simp (disch := omega) only [hgr, go_sem, ↓if_pos, ne_eq, ↓reduceIte]
        exact ih (i + 1, o) _ _ ⟨by simp only; omega, hb⟩ (by simp only; omega) (by simp (disch := omega) only [subT, Int.natCast_add, Int.cast_ofNat_Int, go_sem, ↓if_pos, ne_eq, ↓reduceIte] <;> (repeat' apply And.intro) <;> first | rfl | (congr 1; omega) | assumption) rfl
  · have hil : i = l.length := by omega
    subst hil
    rw [List.drop_length, List.foldl_nil] at hb
    simp (disch := omega) only [hrc o, n32, go_sem, ↓if_pos, ne_eq, ↓reduceIte]
    refine W_retC c71_ok (r := .agg (rtC o)) (resV_cellA rfl (upd_same _ _ _) rfl) (Conv.drop _ fun d z h => ?_) ⟨by rw [hb], rfl⟩
    have e2 : d ≠ b2 := fun e => by subst e; rw [hb2] at h; cases h
    have e3 : d ≠ b3 := fun e => by subst e; rw [n3] at h; cases h
    rw [upd_ne _ _ e2, upd_ne _ _ e3, upd_ne _ _ e2]; exact h
theorem rt_dec (a b : Rt) : (decide (a.via = b.via) && (decide (a.pref = b.pref) && (decide (a.len = b.len) && a.mark == b.mark))) = decide (a = b) := by
  obtain ⟨a1, a2, a3, a4⟩ := a
  obtain ⟨b1, b2, b3, b4⟩ := b
  rw [Bool.eq_iff_iff]; simp [Rt.mk.injEq]
theorem l07Stable_ok {n : Net} {ex ex2 ex3 : Bool} {env : List Int} {down : List Bool} {rs : List Rt} (hn : NetR n) (ho : n.origins.length ≤ 1000000000000) (he : env.length = n.externals.length) (hd : down.length = n.links.length) (hl : rs.length = n.routers.length) (hr : RtsW rs) :
    Ret Try.prog Γ 73 [netV n, .isl ex 1 (ints env), .isl ex2 1 (bools down), .isl ex3 4 (rtsV rs)] σ (.bool (stableB n env down rs)) σ := by
  have r4 := hn.r4
  have hlen : (netC n).take 6 = netC n := rfl
  have hlen2 : (netC n).length = 6 := rfl
  refine ret_of c73_ok rfl ?_
  simp (disch := omega) only [c73, netV, go_sem, ↓if_pos, ne_eq, ↓reduceIte]
  refine SRun.boxR (net_one n) ?_
  intro b4 hb4
  have g4 := upd_same σ b4 (netC n)
  have hσ : ∀ d x, σ d = some x → upd σ b4 (netC n) d = some x := le_upd hb4
  simp (disch := omega) only [go_sem, ↓if_pos, ne_eq, ↓reduceIte]
  generalize upd σ b4 (netC n) = s1 at *
  refine W_loopC (α := Nat) (fun i => i ≤ rs.length ∧ ∀ j, j < i → bestP (candP n j env down rs) = rs.getD j default) (fun i => [(1, .isl ex 1 (ints env)), (2, .isl ex2 1 (bools down)), (3, .isl ex3 4 (rtsV rs)), (4, .ptr b4 0), (9, .int .i64 (i : Nat))]) (fun _ => s1) (fun i => rs.length - i) 0 ⟨by omega, fun j hj => by omega⟩ (by simp (disch := omega) only [subT, Int.natCast_add, Int.cast_ofNat_Int, go_sem, ↓if_pos, ne_eq, ↓reduceIte] <;> (repeat' apply And.intro) <;> first | rfl | (congr 1; omega) | assumption) rfl ?_
  rintro i ⟨hi, hall⟩ ih
  simp (disch := omega) only [go_sem, ↓if_pos, ne_eq, ↓reduceIte]
  first | refine iteW_dec (fun h1 => ?_) (fun h1 => ?_) | refine iteW_of (fun h1 => ?_) (fun h1 => ?_)
  · have hcl : (candP n i env down rs).length ≤ 1000000000000 := by
      have h1 := List.length_filterMap_le (viaO n i rs) (nearP n i down)
      have h2 := List.length_filter_le (nearB n i down) (List.range n.routers.length)
      have h3 : (nearP n i down).length ≤ n.routers.length := by unfold nearP; rw [List.length_map]; simpa using h2
      have h4 : (ownL n i).length ≤ 1 := by unfold ownL; split <;> simp
      have h5 : (outL n i env).length ≤ 1 := by unfold outL; split <;> simp
      simp only [candP, List.length_append]; omega
    simp (disch := omega) only [go_sem, ↓if_pos, ne_eq, ↓reduceIte]
    refine W_drawW ?_
    refine DRun.mixE rfl ?_
    have hq := rt_dec (bestP (candP n i env down rs)) (rs.getD i default)
    have hrc : (rtC (rs.getD i default)).take 4 = rtC (rs.getD i default) := rfl
    have hrl : (rtC (rs.getD i default)).length = 4 := rfl
    simp (disch := omega) only [g4, hlen, hlen2, hrc, hrl, go_sem, ↓if_pos, ne_eq, ↓reduceIte]
    refine DS.callB (l07Candidates_ok (ex := ex) (ex2 := ex2) (ex3 := ex3) hn ho he hd hl hr) ⟨[], rfl, rfl⟩ rfl rfl ?_
    simp (disch := omega) only [go_sem, ↓if_pos, ne_eq, ↓reduceIte]
    refine DS.callB (l07Best_ok (ex := false) hcl) ⟨[], rfl, rfl⟩ rfl rfl ?_
    simp (disch := omega) only [go_sem, ↓if_pos, ne_eq, ↓reduceIte]
    refine ⟨trivial, ?_⟩
    simp (disch := omega) only [hq, go_sem, ↓if_pos, ne_eq, ↓reduceIte]
    first | refine iteW_dec (fun c1 => ?_) (fun c1 => ?_) | refine iteW_of (fun c1 => ?_) (fun c1 => ?_)
    · have hb : stableB n env down rs = false := range_not (i := i) (by omega) (decide_eq_false c1)
      simp (disch := omega) only [go_sem, ↓if_pos, ne_eq, ↓reduceIte]
      exact W_retC c73_ok rfl (Conv.drop _ hσ) ⟨by rw [hb]; rfl, rfl⟩
    · have c2 := Decidable.not_not.1 c1
      simp (disch := omega) only [go_sem, ↓if_pos, ne_eq, ↓reduceIte]
      refine ih (i + 1) _ _ ⟨by omega, fun j hj => ?_⟩ (by omega) (by simp (disch := omega) only [subT, Int.natCast_add, Int.cast_ofNat_Int, go_sem, ↓if_pos, ne_eq, ↓reduceIte] <;> (repeat' apply And.intro) <;> first | rfl | (congr 1; omega) | assumption) rfl
      by_cases e : j = i
      · subst e; exact c2
      · exact hall j (by omega)
  · have hil : i = rs.length := by omega
    subst hil
    have hb : stableB n env down rs = true := range_all fun j hj => decide_eq_true (hall j hj)
    simp (disch := omega) only [go_sem, ↓if_pos, ne_eq, ↓reduceIte]
    exact W_retC c73_ok rfl (Conv.drop _ hσ) ⟨by rw [hb]; rfl, rfl⟩
end Go.Proofs.Ytabelcohkpmpnaa.Lg
