/- What is told of the functions that are reached, as far as it is asked here. -/
import Derived.Test.YtabelcohkpmpnaaGreatKq5
import Derived.KernelRfl
set_option linter.unusedSimpArgs false
set_option linter.unusedVariables false
namespace Go.Proofs.YtabelcohkpmpnaaGreat.Lg
open Go
section
attribute [local irreducible] SRun DS DRun
variable {Γ : St} {σ σ0 : St}
theorem toBoolS_own {ex : Bool} {xs : List Bool} (h1 : xs.length ≤ 1048576) : ACalls Tryz.prog Γ 21 [.isl ex 1 (bools xs)] σ fun r s => OwnL σ 1 (bools xs) r s := by
 have hc : ∀ x ∈ bools xs, x.cells.length = 1 ∧ ∀ c ∈ x.cells, c.one = true := one_cell (fun x hx => by obtain ⟨y, _, rfl⟩ := List.mem_map.1 hx; rfl)
 have hc1 := fun x hx => (hc x hx).1
 have hl : (bools xs).length = xs.length := bools_len xs
 refine acalls_W c21_ok rfl ?_
 simp (disch := omega) only [c21, go_sem]
 refine SRun.mkslR (n' := xs.length) (m := xs.length) rfl rfl rfl (Nat.le_refl _) (by omega) (by omega) ?_
 intro b hb
 simp (disch := omega) only [go_sem]
 refine W_loopC (α := Nat) (fun i => i ≤ xs.length) (fun i => [(0, .isl ex 1 (bools xs)), (3, .msl b 1 0 xs.length xs.length), (4, .int .i64 (i : Nat))]) (fun i => upd σ b (partR [V.bool false] (bools xs) xs.length i)) (fun i => xs.length - i) 0 (by omega) (by simp (disch := omega) only [subT, Int.natCast_add, Int.cast_ofNat_Int, go_sem] <;> (repeat' apply And.intro) <;> first | rfl | (congr 1; omega) | assumption) (by rw [partR_zero]) ?_
 intro i hi ih
 have hpl := partR_len (z := [V.bool false]) hc1 rfl hl hi
 have g1 := upd_same σ b (partR [V.bool false] (bools xs) xs.length i)
 simp (disch := omega) only [go_sem]
 first | refine iteW_dec (fun hq => ?_) (fun hq => ?_) | refine iteW_of (fun hq => ?_) (fun hq => ?_)
 ·simp (disch := omega) only [g1, hpl, go_sem]
  have hx : (bools xs)[i]? = some (V.bool (xs.getD i false)) := by
   rw [bools, List.getElem?_map, List.getElem?_eq_getElem (by omega)]; simp [List.getD, show i < xs.length by omega]
  have hs : (partR [V.bool false] (bools xs) xs.length i).set i (V.bool (xs.getD i false)) = partR [V.bool false] (bools xs) xs.length (i + 1) := by
   have := partR_set (z := [V.bool false]) hc1 rfl hl hx
   rw [Nat.mul_one] at this
   exact this
  rw [hs]
  exact ih (i + 1) _ _ (by omega) (by omega) (by simp (disch := omega) only [subT, Int.natCast_add, Int.cast_ofNat_Int, go_sem] <;> (repeat' apply And.intro) <;> first | rfl | (congr 1; omega) | assumption) rfl
 ·obtain rfl : i = xs.length := by omega
  simp (disch := omega) only [go_sem]
  exact W_retR c21_ok rfl (own_part hc hl hb)
theorem eqBoolS_ok {ex ex2 : Bool} {xs : List Bool} (h1 : xs.length ≤ 1048576) : Ret Tryz.prog Γ 26 [.isl ex 1 (bools xs), .isl ex2 1 (bools xs)] σ (.bool true) σ := by
 refine ret_of c26_ok rfl ?_
 simp (disch := omega) only [c26, dec_same, go_sem]
 refine W_loopC (α := Nat) (fun i => i ≤ xs.length) (fun i => [(0, .isl ex 1 (bools xs)), (1, .isl ex2 1 (bools xs)), (5, .int .i64 (i : Nat))]) (fun i => σ) (fun i => xs.length - i) 0 (by omega) (by simp (disch := omega) only [subT, Int.natCast_add, Int.cast_ofNat_Int, go_sem] <;> (repeat' apply And.intro) <;> first | rfl | (congr 1; omega) | assumption) rfl ?_
 intro i hi ih
 have hbb : ∀ b : Bool, (b == b) = true := fun b => by simp
 have hnt : (!true) = false := rfl
 simp (disch := omega) only [go_sem]
 first | refine iteW_dec (fun hq => ?_) (fun hq => ?_) | refine iteW_of (fun hq => ?_) (fun hq => ?_)
 ·simp (disch := omega) only [go_sem]
  refine W_drawW ?_
  simp (disch := omega) only [dec_same, hbb, hnt, go_sem]
  exact ih (i + 1) _ _ (by omega) (by omega) (by simp (disch := omega) only [subT, Int.natCast_add, Int.cast_ofNat_Int, go_sem] <;> (repeat' apply And.intro) <;> first | rfl | (congr 1; omega) | assumption) rfl
 ·simp (disch := omega) only [go_sem]
  exact W_retR c26_ok rfl ⟨rfl, rfl⟩
theorem eqRoute_ok {x : Rt} : Ret Tryz.prog Γ 129 [.agg (rtC x), .agg (rtC x)] σ (.bool true) σ := by
 have hone : ∀ c ∈ (V.agg (rtC x)).cells, c.one = true := by simp [rtC, V.cells, V.one]
 have hdef : rtC x = _ := rfl
 refine ret_of c129_ok rfl ?_
 simp (disch := omega) only [c129, go_sem]
 refine SRun.boxR hone ?_
 intro b1 hb1
 have g1 := upd_same σ b1 (rtC x)
 have hσ : ∀ d y, σ d = some y → upd σ b1 (rtC x) d = some y := le_upd hb1
 simp (disch := omega) only [go_sem]
 generalize upd σ b1 (rtC x) = s1 at *
 refine SRun.boxR hone ?_
 intro b2 hb2
 have f1 := le_upd (cs := rtC x) hb2 _ _ g1
 have f2 := upd_same s1 b2 (rtC x)
 have hσ2 : ∀ d y, σ d = some y → upd s1 b2 (rtC x) d = some y := fun d y h => le_upd hb2 _ _ (hσ d y h)
 simp (disch := omega) only [go_sem]
 generalize upd s1 b2 (rtC x) = s2 at *
 have hbb : ∀ b : Bool, (b == b) = true := fun b => by simp
 have hnt : (!true) = false := rfl
 simp (disch := omega) only [f1, f2, dec_same, rtC, hbb, hnt, go_sem]
 exact W_retC c129_ok rfl (Conv.drop _ hσ2) ⟨rfl, rfl⟩
theorem eqRouteS_ok {ex ex2 : Bool} {xs : List Rt} (h1 : xs.length ≤ 1048576) : Ret Tryz.prog Γ 73 [.isl ex 4 (rtsV xs), .isl ex2 4 (rtsV xs)] σ (.bool true) σ := by
 refine ret_of c73_ok rfl ?_
 simp (disch := omega) only [c73, dec_same, go_sem]
 refine W_loopC (α := Nat) (fun i => i ≤ xs.length) (fun i => [(0, .isl ex 4 (rtsV xs)), (1, .isl ex2 4 (rtsV xs)), (5, .int .i64 (i : Nat))]) (fun i => σ) (fun i => xs.length - i) 0 (by omega) (by simp (disch := omega) only [subT, Int.natCast_add, Int.cast_ofNat_Int, go_sem] <;> (repeat' apply And.intro) <;> first | rfl | (congr 1; omega) | assumption) rfl ?_
 intro i hi ih
 simp (disch := omega) only [go_sem]
 first | refine iteW_dec (fun hq => ?_) (fun hq => ?_) | refine iteW_of (fun hq => ?_) (fun hq => ?_)
 ·have htk : (rtC (xs.getD i default)).take 4 = rtC (xs.getD i default) := rfl
  have hln : (rtC (xs.getD i default)).length = 4 := rfl
  simp (disch := omega) only [go_sem]
  refine W_drawW ?_
  simp (disch := omega) only [htk, hln, go_sem]
  refine DRun.callQ (eqRoute_ok) ⟨[], rfl, rfl⟩ ?_
  rintro r s ⟨rfl, hs⟩
  obtain rfl := hs.symm
  simp (disch := omega) only [go_sem]
  exact ih (i + 1) _ _ (by omega) (by omega) (by simp (disch := omega) only [subT, Int.natCast_add, Int.cast_ofNat_Int, go_sem] <;> (repeat' apply And.intro) <;> first | rfl | (congr 1; omega) | assumption) rfl
 ·simp (disch := omega) only [go_sem]
  exact W_retR c73_ok rfl ⟨rfl, rfl⟩
set_option maxHeartbeats 1000000 in
theorem markIntR_ok {n : Nat} {q : V} {k : Int} (h : Room σ 1 n q) (hl : n ≤ 1048576) (hk : 0 ≤ k ∧ k ≤ 900000000) : ACalls Tryz.prog Γ 28 [q, .int .i64 k] σ fun r s => Marked σ q k (1 * n) r s := by
 rcases h with ⟨rfl, es', rfl⟩ | ⟨b, cap, cs, rfl, hb, hcs⟩
 ·refine acalls_W c28_ok rfl ?_
  simp (disch := omega) only [c28, go_sem]
  refine W_loopC (α := Unit) (fun _ => True) (fun _ => [(0, .isl true es' []), (1, .int .i64 k), (5, .int .i64 0)]) (fun _ => σ) (fun _ => 0) () trivial (by simp (disch := omega) only [subT, Int.natCast_add, Int.cast_ofNat_Int, go_sem] <;> (repeat' apply And.intro) <;> first | rfl | (congr 1; omega) | assumption) rfl ?_
  intro _ _ _
  simp (disch := omega) only [List.length_nil, go_sem]
  exact W_retR c28_ok rfl ⟨⟨k, rfl, by omega, by omega⟩, Shape.refl _, fun _ _ => rfl⟩
 ·refine acalls_W c28_ok rfl ?_
  simp (disch := omega) only [c28, go_sem]
  refine W_loopC (α := Nat × List V) (fun p => p.1 ≤ n ∧ p.2.length = cs.length) (fun p => [(0, .msl b 1 0 n cap), (1, .int .i64 (k + 1 * p.1)), (5, .int .i64 (p.1 : Nat))]) (fun p => upd σ b p.2) (fun p => n - p.1) (0, cs) ⟨by simp, rfl⟩ (by simp (disch := omega) only [subT, Int.natCast_add, Int.cast_ofNat_Int, Int.natCast_zero, Int.mul_zero, Int.add_zero, go_sem] <;> (repeat' apply And.intro) <;> first | rfl | (congr 1; omega) | assumption) (upd_self _ hb) ?_
  rintro ⟨i, c⟩ ⟨hi, hc⟩ ih
  dsimp only at hi hc
  have g := fun x => upd_same σ b x
  simp (disch := omega) only [go_sem]
  first | refine iteW_dec (fun h1 => ?_) (fun h1 => ?_) | refine iteW_of (fun h1 => ?_) (fun h1 => ?_)
  ·simp (disch := omega) only [g, List.length_set, go_sem]
   exact ih (i + 1, _) _ _ ⟨by simp only; omega, by simp only [List.length_set]; exact hc⟩ (by simp only; omega) (by simp (disch := omega) only [subT, Int.natCast_add, Int.cast_ofNat_Int, go_sem] <;> (repeat' apply And.intro) <;> first | rfl | (congr 1; omega) | assumption) rfl
  ·have hil : i = n := by omega
   subst hil
   simp (disch := omega) only [go_sem]
   exact W_retR c28_ok rfl ⟨⟨k + 1 * i, rfl, by omega, by omega⟩, Shape.upd hb hc, fun d hd => upd_ne _ _ (fun e => hd (by rw [e]; rfl))⟩
set_option maxHeartbeats 1000000 in
theorem markBoolR_ok {n : Nat} {q : V} {k : Int} (h : Room σ 1 n q) (hl : n ≤ 1048576) (hk : 0 ≤ k ∧ k ≤ 900000000) : ACalls Tryz.prog Γ 29 [q, .int .i64 k] σ fun r s => Marked σ q k (1 * n) r s := by
 rcases h with ⟨rfl, es', rfl⟩ | ⟨b, cap, cs, rfl, hb, hcs⟩
 ·refine acalls_W c29_ok rfl ?_
  simp (disch := omega) only [c29, go_sem]
  refine W_loopC (α := Unit) (fun _ => True) (fun _ => [(0, .isl true es' []), (1, .int .i64 k), (5, .int .i64 0)]) (fun _ => σ) (fun _ => 0) () trivial (by simp (disch := omega) only [subT, Int.natCast_add, Int.cast_ofNat_Int, go_sem] <;> (repeat' apply And.intro) <;> first | rfl | (congr 1; omega) | assumption) rfl ?_
  intro _ _ _
  simp (disch := omega) only [List.length_nil, go_sem]
  exact W_retR c29_ok rfl ⟨⟨k, rfl, by omega, by omega⟩, Shape.refl _, fun _ _ => rfl⟩
 ·refine acalls_W c29_ok rfl ?_
  simp (disch := omega) only [c29, go_sem]
  refine W_loopC (α := Nat × List V) (fun p => p.1 ≤ n ∧ p.2.length = cs.length) (fun p => [(0, .msl b 1 0 n cap), (1, .int .i64 (k + 1 * p.1)), (5, .int .i64 (p.1 : Nat))]) (fun p => upd σ b p.2) (fun p => n - p.1) (0, cs) ⟨by simp, rfl⟩ (by simp (disch := omega) only [subT, Int.natCast_add, Int.cast_ofNat_Int, Int.natCast_zero, Int.mul_zero, Int.add_zero, go_sem] <;> (repeat' apply And.intro) <;> first | rfl | (congr 1; omega) | assumption) (upd_self _ hb) ?_
  rintro ⟨i, c⟩ ⟨hi, hc⟩ ih
  dsimp only at hi hc
  have g := fun x => upd_same σ b x
  simp (disch := omega) only [go_sem]
  first | refine iteW_dec (fun h1 => ?_) (fun h1 => ?_) | refine iteW_of (fun h1 => ?_) (fun h1 => ?_)
  ·simp (disch := omega) only [g, List.length_set, go_sem]
   exact ih (i + 1, _) _ _ ⟨by simp only; omega, by simp only [List.length_set]; exact hc⟩ (by simp only; omega) (by simp (disch := omega) only [subT, Int.natCast_add, Int.cast_ofNat_Int, go_sem] <;> (repeat' apply And.intro) <;> first | rfl | (congr 1; omega) | assumption) rfl
  ·have hil : i = n := by omega
   subst hil
   simp (disch := omega) only [go_sem]
   exact W_retR c29_ok rfl ⟨⟨k + 1 * i, rfl, by omega, by omega⟩, Shape.upd hb hc, fun d hd => upd_ne _ _ (fun e => hd (by rw [e]; rfl))⟩
def Rooms (σ : St) (n : Net) (qs : List V) : Prop := ∃ q0 q1 q2 q3 q4 q5, qs = [q0, q1, q2, q3, q4, q5] ∧ Room σ 1 n.routers.length q0 ∧ Room σ 3 n.links.length q1 ∧ Room σ 1 n.origins.length q2 ∧ Room σ 1 n.externals.length q3 ∧ Room σ 5 n.imports.length q4 ∧ Room σ 4 n.filters.length q5
theorem NetAt.rooms {n : Net} {qs : List V} {s : St} (h : NetAt σ0 n qs s) : Rooms s n qs := by
 obtain ⟨q0, q1, q2, q3, q4, q5, rfl, _, _, a0, a1, a2, a3, a4, a5⟩ := h
 have r0 := a0.room
 have r1 := a1.room
 have r2 := a2.room
 have r3 := a3.room
 have r4 := a4.room
 have r5 := a5.room
 rw [strsV_len] at r0
 rw [linksV_len] at r1
 rw [ints_len] at r2 r3
 rw [impsV_len] at r4
 rw [filsV_len] at r5
 exact ⟨q0, q1, q2, q3, q4, q5, rfl, r0, r1, r2, r3, r4, r5⟩
theorem Room.blk {es len : Nat} {q : V} (h : Room σ es len q) {b : Nat} (hb : σ b = none) : Lg.blk q ≠ some b := by
 rcases h with ⟨_, es', rfl⟩ | ⟨b', cap, cs, rfl, h1, h2⟩
 ·intro e; cases e
 ·intro e
  simp only [Lg.blk, Option.some.injEq] at e
  subst e; rw [hb] at h1; cases h1
theorem Room.one {es len : Nat} {q : V} (h : Room σ es len q) : q.one = true ∧ q.cells = [q] := by
 rcases h with ⟨_, es', rfl⟩ | ⟨b', cap, cs, rfl, h1, h2⟩ <;> exact ⟨rfl, rfl⟩
theorem Shape.new {b : Nat} {c : List V} (hb : σ b = none) : Shape σ (Lg.upd σ b c) := fun d x h => ⟨x, le_upd hb _ _ h, rfl⟩
def Off (qs : List V) (b : Nat) : Prop := ∀ q ∈ qs, Lg.blk q ≠ some b
set_option maxHeartbeats 1000000 in
theorem markNet_ok {n : Net} (hn : NetFew n) {qs : List V} (h : Rooms σ n qs) : ACalls Tryz.prog Γ 27 [.agg qs, .int .i64 1] σ fun r s => (∃ k', r = .int .i64 k' ∧ 1 ≤ k' ∧ k' ≤ 100000000) ∧ Shape σ s ∧ ∀ b, Off qs b → s b = σ b := by
 obtain ⟨q0, q1, q2, q3, q4, q5, rfl, r0, r1, r2, r3, r4, r5⟩ := h
 have l0 := hn.routers
 have l1 := hn.links
 have l2 := hn.origins
 have l3 := hn.externals
 have l4 := hn.imports
 have l5 := hn.filters
 refine acalls_W c27_ok rfl ?_
 simp (disch := omega) only [c27, go_sem]
 refine SRun.boxR (by
  intro c hc
  simp only [ev, look, V.cells, if_true, List.mem_cons, List.not_mem_nil, or_false] at hc
  rcases hc with rfl | rfl | rfl | rfl | rfl | rfl
  ·exact r0.one.1
  ·exact r1.one.1
  ·exact r2.one.1
  ·exact r3.one.1
  ·exact r4.one.1
  ·exact r5.one.1) ?_
 intro b2 hb2
 have m0 := r0.blk hb2
 have m1 := r1.blk hb2
 have m2 := r2.blk hb2
 have m3 := r3.blk hb2
 have m4 := r4.blk hb2
 have m5 := r5.blk hb2
 have sh : Shape σ (upd σ b2 [q0, q1, q2, q3, q4, q5]) := Shape.new hb2
 have g2 := upd_same σ b2 [q0, q1, q2, q3, q4, q5]
 have fr : ∀ b, (∀ q ∈ [q0, q1, q2, q3, q4, q5], blk q ≠ some b) → b ≠ b2 → upd σ b2 [q0, q1, q2, q3, q4, q5] b = σ b := fun b _ hb => upd_ne _ _ hb
 simp (disch := omega) only [go_sem]
 generalize upd σ b2 [q0, q1, q2, q3, q4, q5] = s0 at *
 refine SRun.callQ (markStringS_ok (r0.shape sh) l0 (by omega)) ⟨[], rfl, rfl⟩ rfl ?_
 rintro r t0 ⟨⟨k0, rfl, ka0, kb0⟩, sh0, fr0⟩
 have sh := sh.trans sh0
 have g2 := (fr0 b2 m0).trans g2
 have fr : ∀ b, (∀ q ∈ [q0, q1, q2, q3, q4, q5], blk q ≠ some b) → b ≠ b2 → t0 b = σ b := fun b hb he => (fr0 b (hb q0 (by simp))).trans (fr b hb he)
 simp (disch := omega) only [g2, go_sem]
 refine SRun.callQ (markLinkS_ok (r1.shape sh) l1 (by omega)) ⟨[], rfl, rfl⟩ rfl ?_
 rintro r t1 ⟨⟨k1, rfl, ka1, kb1⟩, sh1, fr1⟩
 have sh := sh.trans sh1
 have g2 := (fr1 b2 m1).trans g2
 have fr : ∀ b, (∀ q ∈ [q0, q1, q2, q3, q4, q5], blk q ≠ some b) → b ≠ b2 → t1 b = σ b := fun b hb he => (fr1 b (hb q1 (by simp))).trans (fr b hb he)
 simp (disch := omega) only [g2, go_sem]
 refine SRun.callQ (markIntR_ok (r2.shape sh) l2 (by omega)) ⟨[], rfl, rfl⟩ rfl ?_
 rintro r t2 ⟨⟨k2, rfl, ka2, kb2⟩, sh2, fr2⟩
 have sh := sh.trans sh2
 have g2 := (fr2 b2 m2).trans g2
 have fr : ∀ b, (∀ q ∈ [q0, q1, q2, q3, q4, q5], blk q ≠ some b) → b ≠ b2 → t2 b = σ b := fun b hb he => (fr2 b (hb q2 (by simp))).trans (fr b hb he)
 simp (disch := omega) only [g2, go_sem]
 refine SRun.callQ (markIntR_ok (r3.shape sh) l3 (by omega)) ⟨[], rfl, rfl⟩ rfl ?_
 rintro r t3 ⟨⟨k3, rfl, ka3, kb3⟩, sh3, fr3⟩
 have sh := sh.trans sh3
 have g2 := (fr3 b2 m3).trans g2
 have fr : ∀ b, (∀ q ∈ [q0, q1, q2, q3, q4, q5], blk q ≠ some b) → b ≠ b2 → t3 b = σ b := fun b hb he => (fr3 b (hb q3 (by simp))).trans (fr b hb he)
 simp (disch := omega) only [g2, go_sem]
 refine SRun.callQ (markImportS_ok (r4.shape sh) l4 (by omega)) ⟨[], rfl, rfl⟩ rfl ?_
 rintro r t4 ⟨⟨k4, rfl, ka4, kb4⟩, sh4, fr4⟩
 have sh := sh.trans sh4
 have g2 := (fr4 b2 m4).trans g2
 have fr : ∀ b, (∀ q ∈ [q0, q1, q2, q3, q4, q5], blk q ≠ some b) → b ≠ b2 → t4 b = σ b := fun b hb he => (fr4 b (hb q4 (by simp))).trans (fr b hb he)
 simp (disch := omega) only [g2, go_sem]
 refine SRun.callQ (markFilterS_ok (r5.shape sh) l5 (by omega)) ⟨[], rfl, rfl⟩ rfl ?_
 rintro r t5 ⟨⟨k5, rfl, ka5, kb5⟩, sh5, fr5⟩
 have sh := sh.trans sh5
 have g2 := (fr5 b2 m5).trans g2
 have fr : ∀ b, (∀ q ∈ [q0, q1, q2, q3, q4, q5], blk q ≠ some b) → b ≠ b2 → t5 b = σ b := fun b hb he => (fr5 b (hb q5 (by simp))).trans (fr b hb he)
 simp (disch := omega) only [g2, go_sem]
 have hkk : k5 ≤ 100000000 := by omega
 refine W_retC c27_ok rfl (σ' := del t5 b2) (Conv.drop _ fun d x hd => ?_) ⟨⟨k5, rfl, by omega, hkk⟩, fun d x hd => ?_, fun b hb => ?_⟩
 ·by_cases e : d = b2
  ·subst e; rw [del_same] at hd; cases hd
  ·rwa [del_ne _ e] at hd
 ·obtain ⟨c', h1, h2⟩ := sh d x hd
  have e : d ≠ b2 := fun e => by subst e; rw [hb2] at hd; cases hd
  exact ⟨c', by rw [del_ne _ e]; exact h1, h2⟩
 ·by_cases e : b = b2
  ·subst e; rw [del_same, hb2]
  ·rw [del_ne _ e]; exact fr b hb e
end
section
attribute [local irreducible] SRun DS DRun
variable {Γ : St} {σ σ0 : St}
def Ap (q q' : V) : Prop := ∀ b, blk q = some b → blk q' ≠ some b
theorem Ap.symm {q q' : V} (h : Ap q q') : Ap q' q := fun b hb e => h b e hb
end
section
attribute [local irreducible] SRun DS DRun
variable {Γ : St} {σ σ0 : St}
structure RowsAt (σ0 sb : St) (rss : List (List Rt)) (qs : List V) : Prop where
 len : qs.length = rss.length
 at_ : ∀ i, i < rss.length → At sb 4 (rtsV (rss.getD i [])) (qs.getD i .undef)
 new : ∀ m ∈ qs, ∀ b, blk m = some b → σ0 b = none
 ap : ∀ i j, i < j → j < qs.length → Ap (qs.getD i .undef) (qs.getD j .undef)
theorem RowsAt.has {sb : St} {rss : List (List Rt)} {qs : List V} (h : RowsAt σ0 sb rss qs) {m : V} (hm : m ∈ qs) : ∃ rs, At sb 4 (rtsV rs) m := by
 obtain ⟨i, hi, rfl⟩ := List.getElem_of_mem hm
 have := h.at_ i (by have := h.len; omega)
 have e : qs.getD i V.undef = qs[i] := by simp [List.getD, hi]
 rw [e] at this
 exact ⟨_, this⟩
theorem RowsAt.to {sb s : St} {rss : List (List Rt)} {qs : List V} (h : RowsAt σ0 sb rss qs) (hs : ∀ m ∈ qs, ∀ b, blk m = some b → s b = sb b) : RowsAt σ0 s rss qs :=
 ⟨h.len, fun i hi => (h.at_ i hi).to (hs _ (getD_mem V.undef (by rw [h.len]; exact hi))), h.new, h.ap⟩
theorem RowsAt.mono {sb s : St} {rss : List (List Rt)} {qs : List V} (h : RowsAt σ0 sb rss qs) (hs : ∀ b c, sb b = some c → s b = some c) : RowsAt σ0 s rss qs :=
 ⟨h.len, fun i hi => (h.at_ i hi).mono hs, h.new, h.ap⟩
theorem RowsAt.less {sb s0 : St} {rss : List (List Rt)} {qs : List V} (h : RowsAt σ0 sb rss qs) (hs : ∀ b, σ0 b = none → s0 b = none) : RowsAt s0 sb rss qs :=
 ⟨h.len, h.at_, fun m hm b hb => hs b (h.new m hm b hb), h.ap⟩
theorem RowsAt.nil {sb : St} : RowsAt σ0 sb [] [] := ⟨rfl, fun i hi => absurd hi (Nat.not_lt_zero i), fun m hm => (by cases hm), fun i j _ hj => absurd hj (Nat.not_lt_zero j)⟩
theorem RowsAt.snoc {sb sb' : St} {rss : List (List Rt)} {qs : List V} {rs : List Rt} {r : V} {b : Nat} (h : RowsAt σ0 sb rss qs) (hle : ∀ b c, sb b = some c → sb' b = some c) (hr : At sb' 4 (rtsV rs) r) (hb : blk r = some b) (h0 : σ0 b = none) (hsb : sb b = none) : RowsAt σ0 sb' (rss ++ [rs]) (qs ++ [r]) := by
 have hl := h.len
 have g1 : ∀ i, i < qs.length → (qs ++ [r]).getD i V.undef = qs.getD i V.undef := fun i hi => by simp [List.getD, List.getElem?_append_left hi]
 have g2 : (qs ++ [r]).getD qs.length V.undef = r := by simp [List.getD]
 refine ⟨by simp [hl], fun i hi => ?_, fun m hm b' hb' => ?_, fun i j hij hj => ?_⟩
 ·by_cases e : i < rss.length
  ·have e1 : (rss ++ [rs]).getD i [] = rss.getD i [] := by simp [List.getD, List.getElem?_append_left e]
   rw [e1, g1 i (by omega)]; exact (h.at_ i e).mono hle
  ·have e2 : i = rss.length := by simp at hi; omega
   subst e2
   have e1 : (rss ++ [rs]).getD rss.length [] = rs := by simp [List.getD]
   rw [e1, ← hl, g2]; exact hr
 ·rcases List.mem_append.1 hm with hm | hm
  ·exact h.new m hm b' hb'
  ·rw [List.mem_singleton.1 hm, hb] at hb'
   cases hb'; exact h0
 ·by_cases e : j < qs.length
  ·rw [g1 i (by omega), g1 j e]; exact h.ap i j hij e
  ·have e2 : j = qs.length := by simp at hj; omega
   subst e2
   rw [g1 i hij, g2]
   intro b' hb' e3
   rw [hb] at e3; cases e3
   have := (h.at_ i (by omega)).has hb'
   rw [hsb] at this; cases this
def LLOwn (σ0 : St) (rss : List (List Rt)) (r : V) (s : St) : Prop := ∃ qs sb, OwnL sb 1 qs r s ∧ (∀ b c, σ0 b = some c → sb b = some c) ∧ RowsAt σ0 sb rss qs
theorem routesOf_lendO {n : Net} {ex ex2 : Bool} {env : List Int} {down : List Bool} {vias : List Int} {q : V} (ha : Around n env down) (hv : ViasR n vias) (hq : Frz σ emp q (.isl false 1 (ints vias))) :
  ACalls Tryz.prog Γ 50 [netV n, .isl ex 1 (ints env), .isl ex2 1 (bools down), q] σ fun r s => (routesO n env down vias = none ∧ r = .tup [.isl true 0 [], .bool false] ∧ s = σ) ∨ ∃ rs r', routesO n env down vias = some rs ∧ r = .tup [r', .bool true] ∧ OwnL σ 4 (rtsV rs) r' s :=
 ACalls.mono _ _ (ACalls.lend (routesOf_own (σ := emp) (ex := ex) (ex2 := ex2) (ex3 := false) ha hv) rfl (frzL_get (by exact ⟨.refl _, .refl _, .refl _, hq, trivial⟩)) fun r s h => by
  rcases h with ⟨h1, rfl, rfl⟩ | ⟨rs, r, h1, rfl, ho⟩
  ·exact ⟨.tup (by intro x hx; simp only [List.mem_cons, List.not_mem_nil, or_false] at hx; rcases hx with rfl | rfl; exact .isl0 _ _; exact .bool _), fun b cs hb => by cases hb⟩
  ·have := ownL_plain ho (rts_plain _)
   exact ⟨.tup (by intro x hx; simp only [List.mem_cons, List.not_mem_nil, or_false] at hx; rcases hx with rfl | rfl; exact this.1; exact .bool _), this.2⟩) fun r s h => by
  obtain ⟨s', e, hd, h⟩ := h
  subst e
  rcases h with ⟨h1, rfl, rfl⟩ | ⟨rs, r, h1, rfl, ho⟩
  ·exact .inl ⟨h1, rfl, emp_cup _⟩
  ·exact .inr ⟨rs, r, h1, rfl, ownL_join ho hd⟩
set_option maxHeartbeats 4000000 in
theorem stableStates_own {n : Net} {ex ex2 : Bool} {env : List Int} {down : List Bool} (ha : Around n env down) :
  ACalls Tryz.prog Γ 72 [netV n, .isl ex 1 (ints env), .isl ex2 1 (bools down)] σ fun r s => LLOwn σ (statesP n env down) r s := by
 have hn := ha.net
 have r1 := hn.r1
 have r4 := hn.r4
 have hlen : (netC n).take 6 = netC n := rfl
 have hlen2 : (netC n).length = 6 := rfl
 have e0 : (netC n)[0]? = some (.isl false 1 (strsV n.routers)) := rfl
 refine acalls_W c72_ok rfl ?_
 simp (disch := omega) only [c72, netV, go_sem]
 refine SRun.boxR (net_one n) ?_
 intro b3 hb3
 have g3 := upd_same σ b3 (netC n)
 have hσ : ∀ d x, σ d = some x → upd σ b3 (netC n) d = some x := le_upd hb3
 simp (disch := omega) only [go_sem]
 generalize upd σ b3 (netC n) = s1 at *
 simp (disch := omega) only [g3, e0, go_sem]
 refine SRun.callQ (repeatInt_own (n := n.routers.length) ⟨r1, r4⟩ (ex := true) (x := -3)) ⟨[], rfl, rfl⟩ rfl ?_
 intro r s ho
 obtain ⟨b8, cap, rfl, g8, _, hb8, rfl⟩ := ho.at (by rw [ne_eq, List.eq_nil_iff_length_eq_zero, ints_len, List.length_replicate]; omega)
 clear ho
 rw [flat_ints] at g8 ⊢
 rw [ints_len, List.length_replicate, ← dig_zero (n.routers.length + 3) (by omega)] at *
 have hle8 : ∀ d x, s1 d = some x → upd s1 b8 (ints (dig (n.routers.length + 3) n.routers.length 0)) d = some x := le_upd hb8
 have hM : (n.routers.length + 3) ^ n.routers.length ≤ 2401 := by
  rcases (by omega : n.routers.length = 1 ∨ n.routers.length = 2 ∨ n.routers.length = 3 ∨ n.routers.length = 4) with h | h | h | h <;> rw [h] <;> decide
 have hall := states_all (n := n) (env := env) (down := down)
 have hd8 : ∀ t, (dig (n.routers.length + 3) n.routers.length t).length = n.routers.length := fun t => dig_len _ _ _
 have hvr : ∀ t, ViasR n (dig (n.routers.length + 3) n.routers.length t) := fun t => dig_viasR
 have hst : ∀ t, stQ n env down t = (routesO n env down (dig (n.routers.length + 3) n.routers.length t)).bind fun rs => if stableB n env down rs then some rs else none := fun t => rfl
 have hM1 : 1 ≤ (n.routers.length + 3) ^ n.routers.length := Nat.one_le_pow _ _ (by omega)
 generalize hMM : (n.routers.length + 3) ^ n.routers.length = M at *
 simp (disch := omega) only [go_sem]
 refine W_loopC (α := Nat × V × St × St × List V) (fun p => p.1 < M ∧ p.2.2.1 b8 = some (ints (dig (n.routers.length + 3) n.routers.length p.1)) ∧ (∀ d x, s1 d = some x → p.2.2.1 d = some x) ∧ OwnL p.2.2.1 1 p.2.2.2.2 p.2.1 p.2.2.2.1 ∧ RowsAt (upd s1 b8 (ints (dig (n.routers.length + 3) n.routers.length 0))) p.2.2.1 ((List.range p.1).filterMap (stQ n env down)) p.2.2.2.2) (fun p => [(1, .isl ex 1 (ints env)), (2, .isl ex2 1 (bools down)), (3, .ptr b3 0), (7, p.2.1), (8, .msl b8 1 0 n.routers.length cap)]) (fun p => p.2.2.2.1) (fun p => M - p.1) (0, .isl true 0 [], _, _, []) ⟨by simp only; omega, g8, hle8, OwnL.nil _ 0, RowsAt.nil⟩ (by simp (disch := omega) only [subT, Int.natCast_add, Int.cast_ofNat_Int, go_sem] <;> (repeat' apply And.intro) <;> first | rfl | (congr 1; omega) | assumption) rfl ?_
 rintro ⟨t, q, sb, s, qs⟩ ⟨ht, g8, hle, ho1, hra⟩ ih
 dsimp only at ht g8 hle ho1 hra
 have g3' := ho1.get (hle _ _ g3)
 have g8' := ho1.get g8
 simp (disch := omega) only [g3', hlen, hlen2, go_sem]
 refine SRun.callQ (routesOf_lendO ha (hvr t) (frz_row g8' rfl (by rw [ints_len, hd8]) (ints_one _))) ⟨[], rfl, rfl⟩ rfl ?_
 have hst := hst t
 have hw := fun rs => routesO_w (rs := rs) hn (hvr t) (env := env) (down := down)
 have hsz : ((List.range t).filterMap (stQ n env down)).length ≤ 2401 := by
  have := List.length_filterMap_le (stQ n env down) (List.range t)
  rw [List.length_range] at this; omega
 have hfm : (List.range (t + 1)).filterMap (stQ n env down) = (List.range t).filterMap (stQ n env down) ++ [t].filterMap (stQ n env down) := by rw [List.range_succ, List.filterMap_append]
 rintro rr sx (⟨hro, rfl, hsx⟩ | ⟨rs, r', hro, rfl, hor⟩)
 ·obtain rfl := hsx.symm
  rw [hro, Option.bind_none] at hst
  have hno : [t].filterMap (stQ n env down) = [] := by rw [List.filterMap_cons, hst]; rfl
  rw [hno, List.append_nil] at hfm
  rw [← hfm] at hra
  simp (disch := omega) only [go_sem]
  have g8' := ho1.get g8
  refine W_loopC (α := Nat × Nat) (fun p => p.1 ≤ n.routers.length ∧ t + 1 = (p.2 + 1) * (n.routers.length + 3) ^ p.1) (fun p => [(1, .isl ex 1 (ints env)), (2, .isl ex2 1 (bools down)), (3, .ptr b3 0), (7, q), (8, .msl b8 1 0 n.routers.length cap), (11, .int .i64 ((n.routers.length : Int) - 1 - (p.1 : Nat)))]) (fun p => upd s b8 (ints (wnd (n.routers.length + 3) n.routers.length p.1 p.2))) (fun p => n.routers.length - p.1) (0, t) ⟨by simp, by simp⟩ (by simp (disch := omega) only [subT, Int.natCast_add, Int.cast_ofNat_Int, Int.natCast_zero, Int.sub_zero, go_sem] <;> (repeat' apply And.intro) <;> first | rfl | (congr 1; omega) | assumption) (by simp only [wnd, Nat.sub_zero, List.replicate_zero, List.append_nil]; exact upd_self s g8') ?_
  rintro ⟨j, qv⟩ ⟨hj, hq⟩ ih2
  dsimp only at hj hq
  have gw := upd_same s b8 (ints (wnd (n.routers.length + 3) n.routers.length j qv))
  have hwl := wnd_len (B := n.routers.length + 3) (q := qv) hj
  by_cases hjl : j < n.routers.length
  ·have dk : decide ((n.routers.length : Int) - 1 - j ≥ 0) = true := decide_eq_true (by omega)
   have hk : ((n.routers.length : Int) - 1 - j).toNat = n.routers.length - 1 - j := by omega
   have hat := wnd_at (B := n.routers.length + 3) (q := qv) hjl
   have hat2 : (ints (wnd (n.routers.length + 3) n.routers.length j qv))[n.routers.length - 1 - j]? = some (.int .i64 (((qv % (n.routers.length + 3) : Nat) : Int) - 3)) := ints_get (by rw [← hat]; exact getD_is (by omega))
   have hbk := wnd_back (B := n.routers.length + 3) (q := qv) hjl
   by_cases hmax : qv % (n.routers.length + 3) + 1 = n.routers.length + 3
   ·have dm : decide (((qv % (n.routers.length + 3) : Nat) : Int) - 3 = n.routers.length - 1) = true := decide_eq_true (by omega)
    simp (disch := omega) only [dk, gw, hk, hat2, dm, go_sem]
    rw [ints_setN, hbk, show (n.routers.length : Int) - 1 - j - 1 = (n.routers.length : Int) - 1 - ((j + 1 : Nat) : Int) by omega]
    exact ih2 (j + 1, qv / (n.routers.length + 3)) _ _ ⟨by simp only; omega, wnd_step hmax hq⟩ (by simp only; omega) (by simp (disch := omega) only [subT, Int.natCast_add, Int.cast_ofNat_Int, go_sem] <;> (repeat' apply And.intro) <;> first | rfl | (congr 1; omega) | assumption) rfl
   ·have dm : decide (((qv % (n.routers.length + 3) : Nat) : Int) - 3 = n.routers.length - 1) = false := decide_eq_false (by omega)
    have hml := Nat.mod_lt qv (by omega : 0 < n.routers.length + 3)
    simp (disch := omega) only [dk, gw, hk, hat2, dm, go_sem]
    rw [ints_setN, wnd_next (by omega) hjl (by omega) hq]
    have hlt := wnd_lt (by omega) hjl (by omega) hq
    rw [hMM] at hlt
    exact ih (t + 1, q, upd sb b8 (ints (dig (n.routers.length + 3) n.routers.length (t + 1))), upd s b8 (ints (dig (n.routers.length + 3) n.routers.length (t + 1))), qs) _ _ ⟨by simp only; omega, upd_same _ _ _, fun d x h => by
     have e : d ≠ b8 := fun e => by subst e; rw [hb8] at h; cases h
     simp only [upd_ne _ _ e]; exact hle _ _ h, ho1.upd g8, hra.to fun m hm b hb => upd_ne _ _ (fun e => by subst e; have := hra.new m hm _ hb; rw [upd_same] at this; cases this)⟩ (by simp only; omega) (by simp (disch := omega) only [subT, Int.natCast_add, Int.cast_ofNat_Int, go_sem] <;> (repeat' apply And.intro) <;> first | rfl | (congr 1; omega) | assumption) rfl
  ·have hjL : j = n.routers.length := by omega
   subst hjL
   have dk : decide ((n.routers.length : Int) - 1 - n.routers.length ≥ 0) = false := decide_eq_false (by omega)
   simp (disch := omega) only [dk, gw, go_sem]
   have htM : t + 1 = M := by
    rw [hMM] at hq
    have := Nat.le_mul_of_pos_left M (Nat.succ_pos qv)
    have e : (qv + 1) * M = qv.succ * M := rfl
    omega
   rw [htM, hall] at hra
   have hoU := ho1.upd (c' := ints (wnd (n.routers.length + 3) n.routers.length n.routers.length qv)) g8
   have hbase : ∀ d x, σ d = some x → upd sb b8 (ints (wnd (n.routers.length + 3) n.routers.length n.routers.length qv)) d = some x := fun d x h => by
    have e : d ≠ b8 := fun e => by subst e; have := hσ _ _ h; rw [hb8] at this; cases this
    rw [upd_ne _ _ e]; exact hle _ _ (hσ _ _ h)
   refine W_retR c72_ok rfl ⟨qs, _, hoU, hbase, (hra.to fun m hm b hb => upd_ne _ _ (fun e => by subst e; have := hra.new m hm _ hb; rw [upd_same] at this; cases this)).less fun b h => ?_⟩
   refine (upd_none.1 (none_of (s := upd s1 b8 (ints (dig (n.routers.length + 3) n.routers.length 0))) (t := upd s1 b8 (ints (dig (n.routers.length + 3) n.routers.length 0))) (fun _ _ h => h) b h)).2 |> none_of hσ b
 ·rw [hro, Option.bind_some] at hst
  obtain ⟨w1, w2⟩ := hw rs hro
  obtain ⟨br, capr, rfl, gr, _, hbr, rfl⟩ := hor.at (by rw [ne_eq, List.eq_nil_iff_length_eq_zero, rtsV_len]; omega)
  have hsb : sb br = none := none_of ho1.le _ hbr
  have hoE := ho1.ext (z := flat (rtsV rs)) hbr
  have g8E : upd sb br (flat (rtsV rs)) b8 = _ := le_upd hsb _ _ g8
  have hleE : ∀ d x, s1 d = some x → upd sb br (flat (rtsV rs)) d = some x := fun d x h => le_upd hsb _ _ (hle _ _ h)
  have hnew : upd s1 b8 (ints (dig (n.routers.length + 3) n.routers.length 0)) br = none := by
   rw [upd_ne _ _ (fun e => by subst e; rw [g8] at hsb; cases hsb)]
   exact none_of hle _ hsb
  rw [rtsV_len] at *
  have atr : At (upd sb br (flat (rtsV rs))) 4 (rtsV rs) (.msl br 4 0 rs.length capr) := ⟨rts_ok rs, .inr ⟨br, capr, by rw [rtsV_len], upd_same _ _ _⟩⟩
  have hraE := hra.mono (le_upd (cs := flat (rtsV rs)) hsb)
  have hrs2 := hra.snoc (le_upd (cs := flat (rtsV rs)) hsb) atr rfl hnew hsb
  have g3E := le_upd (cs := flat (rtsV rs)) hbr _ _ g3'
  have frR : Frz (upd s br (flat (rtsV rs))) emp (.msl br 4 0 rs.length capr) (.isl false 4 (rtsV rs)) := (atr.mono hoE.le).lend
  have hIS := fun Γ σ => isStable_ok (Γ := Γ) (σ := σ) (ex := ex) (ex2 := ex2) (ex3 := false) hn ha.do_ ha.orig ha.env1 ha.env2 ha.down w1 w2
  simp (disch := omega) only [g3E, hlen, hlen2, go_sem]
  refine SRun.callR (Ret.lendL (hIS _ _) (by exact ⟨.refl _, .refl _, .refl _, frR, trivial⟩) (Plain.bool _)) ⟨[], rfl, rfl⟩ rfl ?_
  clear ho1 hra g3' g8' hle g8 hor
  cases hsbl : stableB n env down rs with
  | false =>
   have hno : [t].filterMap (stQ n env down) = [] := by rw [List.filterMap_cons, hst]; simp [hsbl]
   rw [hno, List.append_nil] at hfm
   rw [← hfm] at hraE
   have ho1 := hoE
   have hra := hraE
   have g8 := g8E
   have hle := hleE
   clear hoE hraE g8E hleE hrs2 frR atr
   generalize upd sb br (flat (rtsV rs)) = sb at *
   generalize upd s br (flat (rtsV rs)) = s at *
   simp (disch := omega) only [go_sem]
   have g8' := ho1.get g8
   refine W_loopC (α := Nat × Nat) (fun p => p.1 ≤ n.routers.length ∧ t + 1 = (p.2 + 1) * (n.routers.length + 3) ^ p.1) (fun p => [(1, .isl ex 1 (ints env)), (2, .isl ex2 1 (bools down)), (3, .ptr b3 0), (7, q), (8, .msl b8 1 0 n.routers.length cap), (11, .int .i64 ((n.routers.length : Int) - 1 - (p.1 : Nat)))]) (fun p => upd s b8 (ints (wnd (n.routers.length + 3) n.routers.length p.1 p.2))) (fun p => n.routers.length - p.1) (0, t) ⟨by simp, by simp⟩ (by simp (disch := omega) only [subT, Int.natCast_add, Int.cast_ofNat_Int, Int.natCast_zero, Int.sub_zero, go_sem] <;> (repeat' apply And.intro) <;> first | rfl | (congr 1; omega) | assumption) (by simp only [wnd, Nat.sub_zero, List.replicate_zero, List.append_nil]; exact upd_self s g8') ?_
   rintro ⟨j, qv⟩ ⟨hj, hq⟩ ih2
   dsimp only at hj hq
   have gw := upd_same s b8 (ints (wnd (n.routers.length + 3) n.routers.length j qv))
   have hwl := wnd_len (B := n.routers.length + 3) (q := qv) hj
   by_cases hjl : j < n.routers.length
   ·have dk : decide ((n.routers.length : Int) - 1 - j ≥ 0) = true := decide_eq_true (by omega)
    have hk : ((n.routers.length : Int) - 1 - j).toNat = n.routers.length - 1 - j := by omega
    have hat := wnd_at (B := n.routers.length + 3) (q := qv) hjl
    have hat2 : (ints (wnd (n.routers.length + 3) n.routers.length j qv))[n.routers.length - 1 - j]? = some (.int .i64 (((qv % (n.routers.length + 3) : Nat) : Int) - 3)) := ints_get (by rw [← hat]; exact getD_is (by omega))
    have hbk := wnd_back (B := n.routers.length + 3) (q := qv) hjl
    by_cases hmax : qv % (n.routers.length + 3) + 1 = n.routers.length + 3
    ·have dm : decide (((qv % (n.routers.length + 3) : Nat) : Int) - 3 = n.routers.length - 1) = true := decide_eq_true (by omega)
     simp (disch := omega) only [dk, gw, hk, hat2, dm, go_sem]
     rw [ints_setN, hbk, show (n.routers.length : Int) - 1 - j - 1 = (n.routers.length : Int) - 1 - ((j + 1 : Nat) : Int) by omega]
     exact ih2 (j + 1, qv / (n.routers.length + 3)) _ _ ⟨by simp only; omega, wnd_step hmax hq⟩ (by simp only; omega) (by simp (disch := omega) only [subT, Int.natCast_add, Int.cast_ofNat_Int, go_sem] <;> (repeat' apply And.intro) <;> first | rfl | (congr 1; omega) | assumption) rfl
    ·have dm : decide (((qv % (n.routers.length + 3) : Nat) : Int) - 3 = n.routers.length - 1) = false := decide_eq_false (by omega)
     have hml := Nat.mod_lt qv (by omega : 0 < n.routers.length + 3)
     simp (disch := omega) only [dk, gw, hk, hat2, dm, go_sem]
     rw [ints_setN, wnd_next (by omega) hjl (by omega) hq]
     have hlt := wnd_lt (by omega) hjl (by omega) hq
     rw [hMM] at hlt
     exact ih (t + 1, q, upd sb b8 (ints (dig (n.routers.length + 3) n.routers.length (t + 1))), upd s b8 (ints (dig (n.routers.length + 3) n.routers.length (t + 1))), qs) _ _ ⟨by simp only; omega, upd_same _ _ _, fun d x h => by
      have e : d ≠ b8 := fun e => by subst e; rw [hb8] at h; cases h
      simp only [upd_ne _ _ e]; exact hle _ _ h, ho1.upd g8, hra.to fun m hm b hb => upd_ne _ _ (fun e => by subst e; have := hra.new m hm _ hb; rw [upd_same] at this; cases this)⟩ (by simp only; omega) (by simp (disch := omega) only [subT, Int.natCast_add, Int.cast_ofNat_Int, go_sem] <;> (repeat' apply And.intro) <;> first | rfl | (congr 1; omega) | assumption) rfl
   ·have hjL : j = n.routers.length := by omega
    subst hjL
    have dk : decide ((n.routers.length : Int) - 1 - n.routers.length ≥ 0) = false := decide_eq_false (by omega)
    simp (disch := omega) only [dk, gw, go_sem]
    have htM : t + 1 = M := by
     rw [hMM] at hq
     have := Nat.le_mul_of_pos_left M (Nat.succ_pos qv)
     have e : (qv + 1) * M = qv.succ * M := rfl
     omega
    rw [htM, hall] at hra
    have hoU := ho1.upd (c' := ints (wnd (n.routers.length + 3) n.routers.length n.routers.length qv)) g8
    have hbase : ∀ d x, σ d = some x → upd sb b8 (ints (wnd (n.routers.length + 3) n.routers.length n.routers.length qv)) d = some x := fun d x h => by
     have e : d ≠ b8 := fun e => by subst e; have := hσ _ _ h; rw [hb8] at this; cases this
     rw [upd_ne _ _ e]; exact hle _ _ (hσ _ _ h)
    refine W_retR c72_ok rfl ⟨qs, _, hoU, hbase, (hra.to fun m hm b hb => upd_ne _ _ (fun e => by subst e; have := hra.new m hm _ hb; rw [upd_same] at this; cases this)).less fun b h => ?_⟩
    refine (upd_none.1 (none_of (s := upd s1 b8 (ints (dig (n.routers.length + 3) n.routers.length 0))) (t := upd s1 b8 (ints (dig (n.routers.length + 3) n.routers.length 0))) (fun _ _ h => h) b h)).2 |> none_of hσ b
  | true =>
   have hno : [t].filterMap (stQ n env down) = [rs] := by rw [List.filterMap_cons, hst]; simp [hsbl]
   rw [hno] at hfm
   rw [← hfm] at hrs2
   have hql : qs.length ≤ 2401 := by rw [hraE.len]; exact hsz
   simp (disch := omega) only [go_sem]
   refine SRun.appL hoE rfl (fun y hy => by rw [List.mem_singleton.1 hy]; simp [V.cells, V.one]) (by simp only [List.length_singleton]; omega) ?_
   intro q s2 ho1
   have hra := hrs2
   have g8 := g8E
   have hle := hleE
   clear hoE hraE g8E hleE hrs2 frR atr
   generalize qs ++ [V.msl br 4 0 rs.length capr] = qs2 at *
   generalize upd sb br (flat (rtsV rs)) = sb at *
   simp (disch := omega) only [go_sem]
   have g8' := ho1.get g8
   refine W_loopC (α := Nat × Nat) (fun p => p.1 ≤ n.routers.length ∧ t + 1 = (p.2 + 1) * (n.routers.length + 3) ^ p.1) (fun p => [(1, .isl ex 1 (ints env)), (2, .isl ex2 1 (bools down)), (3, .ptr b3 0), (7, q), (8, .msl b8 1 0 n.routers.length cap), (11, .int .i64 ((n.routers.length : Int) - 1 - (p.1 : Nat)))]) (fun p => upd s2 b8 (ints (wnd (n.routers.length + 3) n.routers.length p.1 p.2))) (fun p => n.routers.length - p.1) (0, t) ⟨by simp, by simp⟩ (by simp (disch := omega) only [subT, Int.natCast_add, Int.cast_ofNat_Int, Int.natCast_zero, Int.sub_zero, go_sem] <;> (repeat' apply And.intro) <;> first | rfl | (congr 1; omega) | assumption) (by simp only [wnd, Nat.sub_zero, List.replicate_zero, List.append_nil]; exact upd_self s2 g8') ?_
   rintro ⟨j, qv⟩ ⟨hj, hq⟩ ih2
   dsimp only at hj hq
   have gw := upd_same s2 b8 (ints (wnd (n.routers.length + 3) n.routers.length j qv))
   have hwl := wnd_len (B := n.routers.length + 3) (q := qv) hj
   by_cases hjl : j < n.routers.length
   ·have dk : decide ((n.routers.length : Int) - 1 - j ≥ 0) = true := decide_eq_true (by omega)
    have hk : ((n.routers.length : Int) - 1 - j).toNat = n.routers.length - 1 - j := by omega
    have hat := wnd_at (B := n.routers.length + 3) (q := qv) hjl
    have hat2 : (ints (wnd (n.routers.length + 3) n.routers.length j qv))[n.routers.length - 1 - j]? = some (.int .i64 (((qv % (n.routers.length + 3) : Nat) : Int) - 3)) := ints_get (by rw [← hat]; exact getD_is (by omega))
    have hbk := wnd_back (B := n.routers.length + 3) (q := qv) hjl
    by_cases hmax : qv % (n.routers.length + 3) + 1 = n.routers.length + 3
    ·have dm : decide (((qv % (n.routers.length + 3) : Nat) : Int) - 3 = n.routers.length - 1) = true := decide_eq_true (by omega)
     simp (disch := omega) only [dk, gw, hk, hat2, dm, go_sem]
     rw [ints_setN, hbk, show (n.routers.length : Int) - 1 - j - 1 = (n.routers.length : Int) - 1 - ((j + 1 : Nat) : Int) by omega]
     exact ih2 (j + 1, qv / (n.routers.length + 3)) _ _ ⟨by simp only; omega, wnd_step hmax hq⟩ (by simp only; omega) (by simp (disch := omega) only [subT, Int.natCast_add, Int.cast_ofNat_Int, go_sem] <;> (repeat' apply And.intro) <;> first | rfl | (congr 1; omega) | assumption) rfl
    ·have dm : decide (((qv % (n.routers.length + 3) : Nat) : Int) - 3 = n.routers.length - 1) = false := decide_eq_false (by omega)
     have hml := Nat.mod_lt qv (by omega : 0 < n.routers.length + 3)
     simp (disch := omega) only [dk, gw, hk, hat2, dm, go_sem]
     rw [ints_setN, wnd_next (by omega) hjl (by omega) hq]
     have hlt := wnd_lt (by omega) hjl (by omega) hq
     rw [hMM] at hlt
     exact ih (t + 1, q, upd sb b8 (ints (dig (n.routers.length + 3) n.routers.length (t + 1))), upd s2 b8 (ints (dig (n.routers.length + 3) n.routers.length (t + 1))), qs2) _ _ ⟨by simp only; omega, upd_same _ _ _, fun d x h => by
      have e : d ≠ b8 := fun e => by subst e; rw [hb8] at h; cases h
      simp only [upd_ne _ _ e]; exact hle _ _ h, ho1.upd g8, hra.to fun m hm b hb => upd_ne _ _ (fun e => by subst e; have := hra.new m hm _ hb; rw [upd_same] at this; cases this)⟩ (by simp only; omega) (by simp (disch := omega) only [subT, Int.natCast_add, Int.cast_ofNat_Int, go_sem] <;> (repeat' apply And.intro) <;> first | rfl | (congr 1; omega) | assumption) rfl
   ·have hjL : j = n.routers.length := by omega
    subst hjL
    have dk : decide ((n.routers.length : Int) - 1 - n.routers.length ≥ 0) = false := decide_eq_false (by omega)
    simp (disch := omega) only [dk, gw, go_sem]
    have htM : t + 1 = M := by
     rw [hMM] at hq
     have := Nat.le_mul_of_pos_left M (Nat.succ_pos qv)
     have e : (qv + 1) * M = qv.succ * M := rfl
     omega
    rw [htM, hall] at hra
    have hoU := ho1.upd (c' := ints (wnd (n.routers.length + 3) n.routers.length n.routers.length qv)) g8
    have hbase : ∀ d x, σ d = some x → upd sb b8 (ints (wnd (n.routers.length + 3) n.routers.length n.routers.length qv)) d = some x := fun d x h => by
     have e : d ≠ b8 := fun e => by subst e; have := hσ _ _ h; rw [hb8] at this; cases this
     rw [upd_ne _ _ e]; exact hle _ _ (hσ _ _ h)
    refine W_retR c72_ok rfl ⟨qs2, _, hoU, hbase, (hra.to fun m hm b hb => upd_ne _ _ (fun e => by subst e; have := hra.new m hm _ hb; rw [upd_same] at this; cases this)).less fun b h => ?_⟩
    refine (upd_none.1 (none_of (s := upd s1 b8 (ints (dig (n.routers.length + 3) n.routers.length 0))) (t := upd s1 b8 (ints (dig (n.routers.length + 3) n.routers.length 0))) (fun _ _ h => h) b h)).2 |> none_of hσ b
end
section
attribute [local irreducible] SRun DS DRun
variable {Γ : St} {σ σ0 : St}
def markRt (k : Int) : Rt := ⟨k, k + 1, k + 2, decide ((k + 3).tmod 3 = 0)⟩
def markR (k : Int) (n : Nat) : List Rt := (List.range n).map fun i : Nat => markRt (k + 4 * i)
theorem markR_len (k : Int) (n : Nat) : (markR k n).length = n := by simp [markR]
theorem markR_at {k : Int} {n i : Nat} (h : i < n) : (markR k n).getD i default = markRt (k + 4 * i) := by simp [markR, List.getD, h]
theorem markR_succ (k : Int) (n : Nat) : markR k (n + 1) = markR k n ++ [markRt (k + 4 * n)] := by simp [markR, List.range_succ]
/-- The places ahead of a list. -/
def cntR (ls : List Nat) (i : Nat) : Nat := (ls.take i).sum
def markRS (k : Int) (ls : List Nat) : List (List Rt) := (List.range ls.length).map fun i => markR (k + 4 * (cntR ls i : Nat)) (ls.getD i 0)
theorem markRS_len (k : Int) (ls : List Nat) : (markRS k ls).length = ls.length := by simp [markRS]
theorem markRS_at {k : Int} {ls : List Nat} {i : Nat} (h : i < ls.length) : (markRS k ls).getD i [] = markR (k + 4 * (cntR ls i : Nat)) (ls.getD i 0) := by simp [markRS, List.getD, h]
theorem cntR_succ {ls : List Nat} {i : Nat} (h : i < ls.length) : cntR ls (i + 1) = cntR ls i + ls.getD i 0 := by
 unfold cntR
 rw [take_succ 0 h, List.sum_append]; simp
theorem cntR_le {ls : List Nat} {B : Nat} (hB : ∀ x ∈ ls, x ≤ B) : ∀ i, cntR ls i ≤ i * B := by
 intro i
 induction i with
 | zero => simp [cntR]
 | succ i ih =>
  rcases Nat.lt_or_ge i ls.length with h | h
  ·rw [cntR_succ h, Nat.succ_mul]
   have := hB _ (getD_mem 0 h)
   omega
  ·have e1 : cntR ls (i + 1) = cntR ls i := by
    unfold cntR
    rw [List.take_of_length_le (by omega), List.take_of_length_le h]
   rw [e1]; exact Nat.le_trans ih (Nat.mul_le_mul_right B (Nat.le_succ i))
/-- The cells of routes, the first i marked. -/
def partRt (k : Int) (rs : List Rt) (i : Nat) : List Rt := markR k i ++ rs.drop i
theorem partRt_len {k : Int} {rs : List Rt} {i : Nat} (h : i ≤ rs.length) : (partRt k rs i).length = rs.length := by simp [partRt, markR_len]; omega
theorem flat_rts4 (rs : List Rt) : (flat (rtsV rs)).length = rs.length * 4 := by
 rw [flat_length (es := 4) fun x hx => (rts_ok rs x hx).1, rtsV_len]
theorem partRt_set {k : Int} {rs : List Rt} {i : Nat} (h : i < rs.length) :
  (((((flat (rtsV (partRt k rs i))).set (i * 4) (.int .i64 (k + 4 * i))).set (i * 4 + 1) (.int .i64 (k + 4 * i + 1))).set (i * 4 + 2) (.int .i64 (k + 4 * i + 1 + 1))).set (i * 4 + 3) (.bool (decide ((k + 4 * i + 1 + 1 + 1).tmod 3 = 0)))) = flat (rtsV (partRt k rs (i + 1))) := by
 have e0 : partRt k rs i = markR k i ++ rs.getD i default :: rs.drop (i + 1) := by
  unfold partRt; rw [drop_cons default h]
 have e1 : partRt k rs (i + 1) = markR k i ++ markRt (k + 4 * i) :: rs.drop (i + 1) := by
  unfold partRt; rw [markR_succ, List.append_assoc]; rfl
 have ha : ∀ a b : List Rt, flat (rtsV (a ++ b)) = flat (rtsV a) ++ flat (rtsV b) := fun a b => by simp [flat, rtsV]
 have hc : ∀ (r : Rt) (l : List Rt), flat (rtsV (r :: l)) = .int .i64 r.via :: .int .i64 r.pref :: .int .i64 r.len :: .bool r.mark :: flat (rtsV l) := fun r l => by simp [flat, rtsV, rtC, V.cells]
 have hl : (flat (rtsV (markR k i))).length = i * 4 := by rw [flat_rts4, markR_len]
 have s : ∀ (j : Nat) (x : V) (l : List V), (flat (rtsV (markR k i)) ++ l).set (i * 4 + j) x = flat (rtsV (markR k i)) ++ l.set j x := fun j x l => by
  rw [List.set_append_right _ _ (by rw [hl]; omega), hl, Nat.add_sub_cancel_left]
 have s0 := s 0
 rw [Nat.add_zero] at s0
 rw [e0, e1, ha, ha, hc, hc, s0, s, s, s]
 simp only [List.set_cons_zero, List.set_cons_succ, markRt]
 congr 1
 congr 2
 ·rw [show k + 4 * (i : Int) + 1 + 1 + 1 = k + 4 * i + 3 by omega, show k + 4 * (i : Int) + 1 + 1 = k + 4 * i + 2 by omega]
set_option maxHeartbeats 1000000 in
theorem markRouteS_at {rs : List Rt} {q : V} {k : Int} (h : At σ 4 (rtsV rs) q) (hl : rs.length ≤ 1048576) (hk : 0 ≤ k ∧ k ≤ 900000000) : ACalls Tryz.prog Γ 82 [q, .int .i64 k] σ fun r s => r = .int .i64 (k + 4 * rs.length) ∧ s = wrt σ q (flat (rtsV (markR k rs.length))) := by
 rcases h.2 with ⟨h0, es', rfl⟩ | ⟨b, cap, rfl, hb⟩
 ·have hx : rs = [] := by simpa [rtsV] using h0
  subst hx
  refine acalls_W c82_ok rfl ?_
  simp (disch := omega) only [c82, go_sem]
  refine W_loopC (α := Unit) (fun _ => True) (fun _ => [(0, .isl true es' []), (1, .int .i64 k), (5, .int .i64 0)]) (fun _ => σ) (fun _ => 0) () trivial (by simp (disch := omega) only [subT, Int.natCast_add, Int.cast_ofNat_Int, go_sem] <;> (repeat' apply And.intro) <;> first | rfl | (congr 1; omega) | assumption) rfl ?_
  intro _ _ _
  simp (disch := omega) only [List.length_nil, go_sem]
  exact W_retR c82_ok rfl ⟨by simp [look], rfl⟩
 ·rw [rtsV_len, wrt_msl]
  refine acalls_W c82_ok rfl ?_
  simp (disch := omega) only [c82, go_sem]
  refine W_loopC (α := Nat) (fun i => i ≤ rs.length) (fun i => [(0, .msl b 4 0 rs.length cap), (1, .int .i64 (k + 4 * i)), (5, .int .i64 (i : Nat))]) (fun i => upd σ b (flat (rtsV (partRt k rs i)))) (fun i => rs.length - i) 0 (by omega) (by simp (disch := omega) only [subT, Int.natCast_add, Int.cast_ofNat_Int, Int.natCast_zero, Int.mul_zero, Int.add_zero, go_sem] <;> (repeat' apply And.intro) <;> first | rfl | (congr 1; omega) | assumption) (by
   have : partRt k rs 0 = rs := by simp [partRt, markR]
   rw [this]; exact upd_self _ hb) ?_
  intro i hi ih
  have g := fun x => upd_same σ b x
  have hpl : (flat (rtsV (partRt k rs i))).length = rs.length * 4 := by rw [flat_rts4, partRt_len hi]
  simp (disch := omega) only [go_sem]
  first | refine iteW_dec (fun h1 => ?_) (fun h1 => ?_) | refine iteW_of (fun h1 => ?_) (fun h1 => ?_)
  ·have hps := partRt_set (k := k) (rs := rs) (i := i) (by omega)
   simp (disch := omega) only [g, List.length_set, hpl, go_sem]
   rw [hps]
   exact ih (i + 1) _ _ (by omega) (by omega) (by simp (disch := omega) only [subT, Int.natCast_add, Int.cast_ofNat_Int, go_sem] <;> (repeat' apply And.intro) <;> first | rfl | (congr 1; omega) | assumption) rfl
  ·have hil : i = rs.length := by omega
   subst hil
   have : partRt k rs rs.length = markR k rs.length := by simp [partRt]
   rw [this]
   simp (disch := omega) only [go_sem]
   exact W_retR c82_ok rfl ⟨rfl, rfl⟩
set_option maxHeartbeats 1000000 in
theorem heldRouteS_ok {ex : Bool} {n : Nat} {k : Int} (hl : n ≤ 1048576) (hk : 0 ≤ k ∧ k ≤ 900000000) : Ret Tryz.prog Γ 83 [.isl ex 4 (rtsV (markR k n)), .int .i64 k] σ (.int .i64 (k + 4 * n)) σ := by
 have hul := markR_len k n
 refine ret_of c83_ok rfl ?_
 simp (disch := omega) only [c83, go_sem]
 refine W_loopC (α := Nat) (fun i => i ≤ n) (fun i => [(0, .isl ex 4 (rtsV (markR k n))), (1, .int .i64 (k + 4 * i)), (5, .int .i64 (i : Nat))]) (fun _ => σ) (fun i => n - i) 0 (by omega) (by simp (disch := omega) only [subT, Int.natCast_add, Int.cast_ofNat_Int, Int.natCast_zero, Int.mul_zero, Int.add_zero, go_sem] <;> (repeat' apply And.intro) <;> first | rfl | (congr 1; omega) | assumption) rfl ?_
 intro i hi ih
 simp (disch := omega) only [hul, go_sem]
 first | refine iteW_dec (fun h1 => ?_) (fun h1 => ?_) | refine iteW_of (fun h1 => ?_) (fun h1 => ?_)
 ·have hat := markR_at (k := k) (n := n) (i := i) (by omega)
  have hbb : ∀ b : Bool, (b == b) = true := fun b => by simp
  have hnt : (!true) = false := rfl
  have hrc : rtC (markRt (k + 4 * i)) = [.int .i64 (k + 4 * i), .int .i64 (k + 4 * i + 1), .int .i64 (k + 4 * i + 2), .bool (decide ((k + 4 * i + 3).tmod 3 = 0))] := rfl
  have h0 : (decide ¬ (k + 4 * (i : Int)) = k + 4 * i) = false := by simp
  have h1 : (decide ¬ (k + 4 * (i : Int) + 1) = k + 4 * i + 1) = false := by simp
  have h2 : (decide ¬ (k + 4 * (i : Int) + 2) = k + 4 * i + 1 + 1) = false := decide_eq_false (fun h => h (by omega))
  have h3 : k + 4 * (i : Int) + 1 + 1 + 1 = k + 4 * i + 3 := by omega
  simp (disch := omega) only [hul, hat, hrc, h0, h1, h2, h3, hbb, hnt, go_sem]
  exact ih (i + 1) _ _ (by omega) (by omega) (by simp (disch := omega) only [subT, Int.natCast_add, Int.cast_ofNat_Int, go_sem] <;> (repeat' apply And.intro) <;> first | rfl | (congr 1; omega) | assumption) rfl
 ·have hil : i = n := by omega
  subst hil
  simp (disch := omega) only [go_sem]
  exact W_retR c83_ok rfl ⟨rfl, rfl⟩
theorem eqRouteSS_ok {ex ex2 : Bool} {ss : List (List Rt)} (h1 : ss.length ≤ 1048576) (h2 : ∀ rs ∈ ss, rs.length ≤ 1048576) : Ret Tryz.prog Γ 23 [.isl ex 1 (staV ss), .isl ex2 1 (staV ss)] σ (.bool true) σ := by
 refine ret_of c23_ok rfl ?_
 simp (disch := omega) only [c23, dec_same, go_sem]
 refine W_loopC (α := Nat) (fun i => i ≤ ss.length) (fun i => [(0, .isl ex 1 (staV ss)), (1, .isl ex2 1 (staV ss)), (5, .int .i64 (i : Nat))]) (fun i => σ) (fun i => ss.length - i) 0 (by omega) (by simp (disch := omega) only [subT, Int.natCast_add, Int.cast_ofNat_Int, go_sem] <;> (repeat' apply And.intro) <;> first | rfl | (congr 1; omega) | assumption) rfl ?_
 intro i hi ih
 simp (disch := omega) only [go_sem]
 first | refine iteW_dec (fun hq => ?_) (fun hq => ?_) | refine iteW_of (fun hq => ?_) (fun hq => ?_)
 ·have hr := h2 _ (getD_mem [] (by omega : i < ss.length))
  simp (disch := omega) only [go_sem]
  refine W_drawW ?_
  simp (disch := omega) only [go_sem]
  refine DRun.callQ (eqRouteS_ok hr) ⟨[], rfl, rfl⟩ ?_
  rintro r s ⟨rfl, hs⟩
  obtain rfl := hs.symm
  simp (disch := omega) only [go_sem]
  exact ih (i + 1) _ _ (by omega) (by omega) (by simp (disch := omega) only [subT, Int.natCast_add, Int.cast_ofNat_Int, go_sem] <;> (repeat' apply And.intro) <;> first | rfl | (congr 1; omega) | assumption) rfl
 ·simp (disch := omega) only [go_sem]
  exact W_retR c23_ok rfl ⟨rfl, rfl⟩
set_option maxHeartbeats 1000000 in
theorem heldRouteSS_ok {ex : Bool} {ls : List Nat} (hl : ls.length ≤ 3000) (hB : ∀ x ∈ ls, x ≤ 4) : Ret Tryz.prog Γ 31 [.isl ex 1 (staV (markRS 1 ls)), .int .i64 1] σ (.int .i64 (1 + 4 * (cntR ls ls.length : Nat))) σ := by
 have hul := markRS_len 1 ls
 have hc := cntR_le hB
 refine ret_of c31_ok rfl ?_
 simp (disch := omega) only [c31, go_sem]
 refine W_loopC (α := Nat) (fun i => i ≤ ls.length) (fun i => [(0, .isl ex 1 (staV (markRS 1 ls))), (1, .int .i64 (1 + 4 * (cntR ls i : Nat))), (5, .int .i64 (i : Nat))]) (fun _ => σ) (fun i => ls.length - i) 0 (by omega) (by simp (disch := omega) only [subT, cntR, List.take_zero, List.sum_nil, Int.natCast_zero, Int.mul_zero, Int.add_zero, go_sem] <;> (repeat' apply And.intro) <;> first | rfl | assumption) rfl ?_
 intro i hi ih
 simp (disch := omega) only [hul, go_sem]
 first | refine iteW_dec (fun h1 => ?_) (fun h1 => ?_) | refine iteW_of (fun h1 => ?_) (fun h1 => ?_)
 ·have hi' : i < ls.length := by omega
  have hat := markRS_at (k := 1) hi'
  have hx := hB _ (getD_mem 0 hi')
  have hci := hc i
  have hcs := cntR_succ hi'
  simp (disch := omega) only [hul, hat, go_sem]
  refine SRun.callR (heldRouteS_ok (n := ls.getD i 0) (k := 1 + 4 * (cntR ls i : Nat)) (by omega) (by omega)) ⟨[], rfl, rfl⟩ rfl ?_
  simp (disch := omega) only [go_sem]
  refine ih (i + 1) _ _ (by omega) (by omega) ?_ rfl
  simp only [hcs]
  exact (by simp (disch := omega) only [subT, Int.natCast_add, Int.cast_ofNat_Int, go_sem] <;> (repeat' apply And.intro) <;> first | rfl | (congr 1; omega) | assumption)
 ·have hil : i = ls.length := by omega
  subst hil
  simp (disch := omega) only [go_sem]
  exact W_retR c31_ok rfl ⟨rfl, rfl⟩
set_option maxHeartbeats 1000000 in
theorem markRouteSS_at {ss : List (List Rt)} {q : V} {qs : List V} {s0 : St} (ho : At σ 1 qs q) (hr : RowsAt s0 σ ss qs) (ha : ∀ m ∈ qs, Ap m q) (hl : ss.length ≤ 3000) (hB : ∀ rs ∈ ss, rs.length ≤ 4) :
  ACalls Tryz.prog Γ 30 [q, .int .i64 1] σ fun r s => r = .int .i64 (1 + 4 * (cntR (ss.map List.length) ss.length : Nat)) ∧ At s 1 qs q ∧ RowsAt s0 s (markRS 1 (ss.map List.length)) qs ∧ ∀ b, Off qs b → s b = σ b := by
 have hln := hr.len
 have hc := cntR_le (ls := ss.map List.length) (B := 4) (fun x hx => by obtain ⟨rs, h, rfl⟩ := List.mem_map.1 hx; exact hB rs h)
 have hqm : ∀ i, i < qs.length → qs.getD i .undef ∈ qs := fun i hi => getD_mem _ hi
 rcases ho.2 with ⟨h0, es', rfl⟩ | ⟨bq, cap, rfl, hbq⟩
 ·have hx : ss = [] := List.eq_nil_of_length_eq_zero (by rw [← hln, h0]; rfl)
  subst hx
  refine acalls_W c30_ok rfl ?_
  simp (disch := omega) only [c30, go_sem]
  refine W_loopC (α := Unit) (fun _ => True) (fun _ => [(0, .isl true es' []), (1, .int .i64 1), (5, .int .i64 0)]) (fun _ => σ) (fun _ => 0) () trivial (by simp (disch := omega) only [subT, Int.natCast_add, Int.cast_ofNat_Int, go_sem] <;> (repeat' apply And.intro) <;> first | rfl | (congr 1; omega) | assumption) rfl ?_
  intro _ _ _
  simp (disch := omega) only [List.length_nil, go_sem]
  exact W_retR c30_ok rfl ⟨by simp [look, cntR], ho, hr, fun _ _ => rfl⟩
 ·have hfl : flat qs = qs := flat_one fun x hx => by
   obtain ⟨rs, hat⟩ := hr.has hx
   exact hat.one
  rw [hfl] at hbq
  refine acalls_W c30_ok rfl ?_
  simp (disch := omega) only [c30, go_sem]
  refine W_loopC (α := Nat × St) (fun p => p.1 ≤ ss.length ∧ p.2 bq = some qs ∧ (∀ j, p.1 ≤ j → j < ss.length → At p.2 4 (rtsV (ss.getD j [])) (qs.getD j .undef)) ∧ (∀ j, j < p.1 → At p.2 4 (rtsV ((markRS 1 (ss.map List.length)).getD j [])) (qs.getD j .undef)) ∧ ∀ b, Off qs b → p.2 b = σ b) (fun p => [(0, .msl bq 1 0 qs.length cap), (1, .int .i64 (1 + 4 * (cntR (ss.map List.length) p.1 : Nat))), (5, .int .i64 (p.1 : Nat))]) (fun p => p.2) (fun p => ss.length - p.1) (0, σ) ⟨by simp, hbq, fun j _ hj => hr.at_ j hj, fun j hj => by simp at hj, fun _ _ => rfl⟩ (by simp (disch := omega) only [subT, cntR, List.take_zero, List.sum_nil, Int.natCast_zero, Int.mul_zero, Int.add_zero, go_sem] <;> (repeat' apply And.intro) <;> first | rfl | assumption) rfl ?_
  rintro ⟨i, s⟩ ⟨hi, hb, hun, hmk, hfr⟩ ih
  dsimp only at hi hb hun hmk hfr
  simp (disch := omega) only [go_sem]
  first | refine iteW_dec (fun h1 => ?_) (fun h1 => ?_) | refine iteW_of (fun h1 => ?_) (fun h1 => ?_)
  ·have hi' : i < ss.length := by omega
   have hat := hun i (Nat.le_refl _) hi'
   have hlen := hB _ (getD_mem [] hi')
   have hci := hc i
   have hmi : i < (ss.map List.length).length := by rw [List.length_map]; exact hi'
   have hcs := cntR_succ hmi
   have hgl : (ss.map List.length).getD i 0 = (ss.getD i []).length := by simp [List.getD, hi']
   have hg : qs[i]? = some (qs.getD i .undef) := by simp [List.getD, show i < qs.length by omega]
   simp (disch := omega) only [hb, hg, go_sem]
   refine SRun.callQ (markRouteS_at (k := 1 + 4 * (cntR (ss.map List.length) i : Nat)) hat (by omega) (by omega)) ⟨[], rfl, rfl⟩ rfl ?_
   rintro r s2 ⟨rfl, e2⟩
   simp (disch := omega) only [go_sem]
   refine ih (i + 1, s2) _ _ ⟨by simp only; omega, ?_, fun j hj hjl => ?_, fun j hj => ?_, fun b ho => ?_⟩ (by simp only; omega) ?_ rfl
   ·dsimp only
    rw [e2, wrt_ne]
    ·exact hb
    ·intro e; exact ha _ (hqm i (by omega)) bq e rfl
   ·simp only at hj
    refine (hun j (by omega) hjl).to fun b hb => ?_
    rw [e2]; exact wrt_ne (hr.ap i j (by omega) (by omega) |>.symm b hb)
   ·simp only at hj
    by_cases e : j = i
    ·subst e
     have hm := markRS_at (k := 1) hmi
     rw [hm, hgl, e2]
     have := hat.wrt (ys := rtsV (markR (1 + 4 * (cntR (ss.map List.length) j : Nat)) (ss.getD j []).length)) (by rw [rtsV_len, rtsV_len, markR_len]) (rts_ok _)
     exact this
    ·refine (hmk j (by omega)).to fun b hb => ?_
     rw [e2]; exact wrt_ne (hr.ap j i (by omega) (by omega) b hb)
   ·dsimp only
    rw [e2, wrt_ne (ho _ (hqm i (by omega)))]; exact hfr b ho
   ·simp only [hcs, hgl]
    exact (by simp (disch := omega) only [subT, Int.natCast_add, Int.cast_ofNat_Int, go_sem] <;> (repeat' apply And.intro) <;> first | rfl | (congr 1; omega) | assumption)
  ·have hil : i = ss.length := by omega
   subst hil
   simp (disch := omega) only [go_sem]
   refine W_retR c30_ok rfl ⟨rfl, ⟨ho.1, .inr ⟨bq, cap, rfl, by rw [hfl]; exact hb⟩⟩, ⟨by rw [markRS_len, List.length_map]; exact hln, fun j hj => hmk j (by rw [markRS_len, List.length_map] at hj; exact hj), hr.new, hr.ap⟩, hfr⟩
end
section
attribute [local irreducible] SRun DS DRun
variable {Γ : St} {σ σ0 : St}
/-- Lists of routes in place, all new, apart. -/
structure LLAt (σ0 : St) (rss : List (List Rt)) (q : V) (qs : List V) (s : St) : Prop where
 at_ : At s 1 qs q
 rows : RowsAt σ0 s rss qs
 new : ∀ b, blk q = some b → σ0 b = none
 ap : ∀ m ∈ qs, Ap m q
def LLIn (σ0 : St) (rss : List (List Rt)) (q : V) (s : St) : Prop := ∃ qs, LLAt σ0 rss q qs s ∧ (∀ b c, σ0 b = some c → s b = some c) ∧ ∀ b c, s b = some c → σ0 b = some c ∨ c = flat qs ∨ ∃ rs, c = flat (rtsV rs)
theorem LLIn.nil {es : Nat} : LLIn σ [] (.isl true es []) σ :=
 ⟨[], ⟨⟨fun x hx => (by cases hx), .inl ⟨rfl, es, rfl⟩⟩, RowsAt.nil, fun b hb => (by cases hb), fun m hm => (by cases hm)⟩, fun _ _ h => h, fun _ _ h => .inl h⟩
theorem LLOwn.trim {s1 s : St} {rss : List (List Rt)} {r : V} (hle : ∀ b c, σ b = some c → s1 b = some c) (h : LLOwn s1 rss r s) : ∃ s2, (∀ b c, s2 b = some c → s b = some c) ∧ LLIn σ rss r s2 := by
 classical
 obtain ⟨qs, sb, ho, hsb, hr⟩ := h
 obtain ⟨a, f⟩ := ho.atQ
 have hs : ∀ b c, s1 b = some c → s b = some c := fun b c h => ho.le _ _ (hsb _ _ h)
 have key : ∀ K : Nat → Prop, (∀ b, σ b ≠ none → K b) → (∀ b, blk r = some b → K b) → (∀ m ∈ qs, ∀ b, blk m = some b → K b) → (∀ b, K b → σ b ≠ none ∨ blk r = some b ∨ ∃ m ∈ qs, blk m = some b) →
   ∃ s2, (∀ b c, s2 b = some c → s b = some c) ∧ LLIn σ rss r s2 := fun K k1 k2 k3 k4 => by
  refine ⟨fun b => if K b then s b else none, fun b c h => ?_, qs, ⟨?_, ?_, fun b hb => none_of hle _ (none_of hsb _ (f b hb)), fun m hm b hb e => ?_⟩, fun b c h => ?_, fun b c h => ?_⟩
  ·by_cases k : K b
   ·simpa only [if_pos k] using h
   ·simp only [if_neg k] at h; cases h
  ·exact a.to fun b hb => if_pos (k2 b hb)
  ·exact ((hr.mono ho.le).to fun m hm b hb => if_pos (k3 m hm b hb)).less (none_of hle)
  ·obtain ⟨rs, hat⟩ := hr.has hm
   have := hat.has hb
   rw [f b e] at this; cases this
  ·exact (if_pos (k1 b (by rw [h]; simp))).trans (hs _ _ (hle _ _ h))
  ·by_cases k : K b
   ·simp only [if_pos k] at h
    rcases k4 b k with k | k | ⟨m, hm, k⟩
    ·cases e : σ b with
     | none => exact absurd e k
     | some d => left; rw [← h, hs _ _ (hle _ _ e)]
    ·right; left
     rw [a.has k] at h; exact (Option.some.inj h).symm
    ·right; right
     obtain ⟨rs, hat⟩ := hr.has hm
     rw [ho.le _ _ (hat.has k)] at h; exact ⟨rs, (Option.some.inj h).symm⟩
   ·simp only [if_neg k] at h; cases h
 exact key (fun b => σ b ≠ none ∨ blk r = some b ∨ ∃ m ∈ qs, blk m = some b) (fun b h => .inl h) (fun b h => .inr (.inl h)) (fun m hm b h => .inr (.inr ⟨m, hm, h⟩)) fun b h => h
theorem At.plain {es : Nat} {xs : List V} {q : V} (h : At σ es xs q) : Plain q := by
 rcases h.2 with ⟨_, _, rfl⟩ | ⟨_, _, rfl, _⟩
 ·exact .isl0 _ _
 ·exact .msl _ _ _ _ _
theorem LLAt.flat {s : St} {rss : List (List Rt)} {q : V} {qs : List V} (h : LLAt σ0 rss q qs s) : Lg.flat qs = qs := flat_one fun x hx => by
 obtain ⟨rs, hat⟩ := h.rows.has hx
 exact hat.one
theorem LLIn.plain {s : St} {rss : List (List Rt)} {q : V} (h : LLIn emp rss q s) : Plain q ∧ ∀ b cs, s b = some cs → ∀ c ∈ cs, Plain c := by
 obtain ⟨qs, h1, _, h2⟩ := h
 refine ⟨h1.at_.plain, fun b cs hb c hc => ?_⟩
 rcases h2 b cs hb with h | rfl | ⟨rs, rfl⟩
 ·cases h
 ·rw [h1.flat] at hc
  obtain ⟨rs, hat⟩ := h1.rows.has hc
  exact hat.plain
 ·exact rts_plain rs c hc
theorem cup_le {s' : St} (hd : disj s' σ) : ∀ b c, σ b = some c → cup s' σ b = some c := fun b c h => by
 rcases hd b with e | e
 ·simp only [cup, e, h]
 ·rw [h] at e; cases e
theorem LLIn.join {s' : St} {rss : List (List Rt)} {q : V} (h : LLIn emp rss q s') (hd : disj s' σ) : ∃ qs, LLAt σ rss q qs (cup s' σ) := by
 obtain ⟨qs, h1, _, _⟩ := h
 have hl : ∀ b c, s' b = some c → cup s' σ b = some c := fun b c h => cup_of_some h
 have hn : ∀ b c, s' b = some c → σ b = none := fun b c h => (hd b).resolve_left (by rw [h]; simp)
 have h2 := h1.rows.mono hl
 refine ⟨qs, h1.at_.mono hl, ⟨h2.len, h2.at_, fun m hm b hb => ?_, h2.ap⟩, fun b hb => hn _ _ (h1.at_.has hb), h1.ap⟩
 obtain ⟨rs, hat⟩ := h1.rows.has hm
 exact hn _ _ (hat.has hb)
theorem LLAt.frz {s t : St} {rss : List (List Rt)} {q : V} {qs : List V} (h : LLAt σ0 rss q qs s) (h1 : ∀ b, blk q = some b → t b = none) (h2 : ∀ m ∈ qs, ∀ b, blk m = some b → t b = none) : Frz s t q (.isl false 1 (staV rss)) := by
 have hl := h.rows.len
 have hfl := h.flat
 have hso : ∀ x ∈ staV rss, x.one = true := fun x hx => by obtain ⟨rs, _, rfl⟩ := List.mem_map.1 hx; rfl
 have hsf : Lg.flat (staV rss) = staV rss := flat_one hso
 rcases h.at_.2 with ⟨h0, es', rfl⟩ | ⟨b, cap, rfl, hb⟩
 ·have hx : rss = [] := List.eq_nil_of_length_eq_zero (by rw [← hl, h0]; rfl)
  subst hx
  exact .isl0 _ _ _ _ fun h => by cases h
 ·rw [hfl] at hb
  refine .msl b 1 0 qs.length cap qs (staV rss) hb (h1 b rfl) (by omega) (by rw [staV_len, hl]) (fun x hx => by obtain ⟨rs, _, rfl⟩ := List.mem_map.1 hx; rfl) (by rw [hsf, staV_len, hl]; omega) (fun i x hx => by rw [hsf] at hx; exact hso x (List.mem_of_getElem? hx)) fun i x y hy hx => ?_
  rw [hsf] at hx
  rw [Nat.zero_add] at hy
  obtain ⟨hi, rfl⟩ := List.getElem?_eq_some_iff.1 hx
  obtain ⟨hj, rfl⟩ := List.getElem?_eq_some_iff.1 hy
  have hi' : i < rss.length := by rwa [staV_len] at hi
  have e1 : qs.getD i V.undef = qs[i] := by simp [List.getD, hj]
  have e2 : (staV rss)[i] = .isl false 4 (rtsV (rss.getD i [])) := by simp [staV, List.getD, hi']
  have := (h.rows.at_ i hi').frz (s := t) fun b hb => h2 _ (getD_mem V.undef hj) b hb
  rw [e1] at this
  rw [e2]; exact this
theorem LLIn.conv {s : St} {rss : List (List Rt)} {q : V} (h : LLIn σ rss q s) : Conv s q σ (.isl false 1 (staV rss)) := by
 obtain ⟨qs, h1, h2, _⟩ := h
 exact ⟨h2, h1.frz h1.new h1.rows.new⟩
theorem code_zero {n : Net} {env : List Int} {down : List Bool} (h : envCode n env down = 0) : netB n = true ∧ envB n env down = true := by
 unfold envCode at h
 split at h
 ·exact absurd h (by decide)
 split at h
 ·exact absurd h (by decide)
 split at h
 ·exact ⟨by simp_all, by assumption⟩
 ·exact absurd h (by decide)
theorem env_around {n : Net} {env : List Int} {down : List Bool} (hN : NetLen n) (h : envCode n env down = 0) : Around n env down := by
 obtain ⟨hB, h2⟩ := code_zero h
 simp only [envB, Bool.and_eq_true, decide_eq_true_eq] at h2
 exact ⟨netR_of hB, net_do hB, hN.origins, h2.1.1, h2.2, h2.1.2⟩
def staA (n : Net) (env : List Int) (down : List Bool) : List (List Rt) := if envCode n env down = 0 then statesP n env down else []
theorem statesQ_len {n : Net} {env : List Int} {down : List Bool} (hn : NetR n) : (statesP n env down).length ≤ 2401 := by
 have hM : (n.routers.length + 3) ^ n.routers.length ≤ 2401 := by
  have r1 := hn.r1
  have r4 := hn.r4
  rcases (by omega : n.routers.length = 1 ∨ n.routers.length = 2 ∨ n.routers.length = 3 ∨ n.routers.length = 4) with h | h | h | h <;> rw [h] <;> decide
 have := List.length_filterMap_le (stQ n env down) (List.range ((n.routers.length + 3) ^ n.routers.length))
 rw [List.length_range, states_all] at this
 omega
theorem staA_few {n : Net} {env : List Int} {down : List Bool} (hN : NetLen n) : (staA n env down).length ≤ 2401 ∧ ∀ rs ∈ staA n env down, rs.length ≤ 4 := by
 unfold staA
 by_cases h : envCode n env down = 0
 ·have hR := netR_of (code_zero h).1
  rw [if_pos h]
  exact ⟨statesQ_len hR, fun rs hrs => by have := (statesP_fine hR hrs).len; have := hR.r4; omega⟩
 ·rw [if_neg h]
  exact ⟨by simp, fun rs hrs => by cases hrs⟩
theorem StableStates_own {n : Net} {ex ex2 : Bool} {env : List Int} {down : List Bool} (hN : NetLen n) (he : env.length ≤ 1000000000000) (hd : down.length ≤ 1000000000000) :
  ACalls Tryz.prog Γ 22 [netV n, .isl ex 1 (ints env), .isl ex2 1 (bools down)] σ fun r s => ∃ r', r = .tup [r', .int .i64 (envCode n env down)] ∧ LLIn σ (staA n env down) r' s := by
 have hlen : (netC n).take 6 = netC n := rfl
 have hlen2 : (netC n).length = 6 := rfl
 have hC := fun Γ σ => routesCode_ok (Γ := Γ) (σ := σ) (ex := ex) (ex2 := ex2) (env := env) (down := down) hN he hd
 have hA : staA n env down = if envCode n env down = 0 then statesP n env down else [] := rfl
 have hAr := env_around (env := env) (down := down) hN
 by_cases h0 : envCode n env down = 0
 ·have a := hAr h0
  rw [if_pos h0] at hA
  rw [hA, h0]
  rw [h0] at hC
  refine acalls_W c22_ok rfl ?_
  simp (disch := omega) only [c22, netV, go_sem]
  refine SRun.boxR (net_one n) ?_
  intro b3 hb3
  have g3 := upd_same σ b3 (netC n)
  have hσ : ∀ d x, σ d = some x → upd σ b3 (netC n) d = some x := le_upd hb3
  simp (disch := omega) only [go_sem]
  generalize upd σ b3 (netC n) = s1 at *
  simp (disch := omega) only [g3, hlen, hlen2, go_sem]
  refine SRun.callR (hC _ _) ⟨[], rfl, rfl⟩ rfl ?_
  simp (disch := omega) only [g3, hlen, hlen2, go_sem]
  refine SRun.callQ (stableStates_own (ex := ex) (ex2 := ex2) a) ⟨[], rfl, rfl⟩ rfl ?_
  intro r s ho
  obtain ⟨s2, h1, h2⟩ := ho.trim hσ
  simp (disch := omega) only [go_sem]
  exact W_retC c22_ok (r := .tup [r, .int .i64 0]) (σ' := s2) rfl (Conv.drop _ h1) ⟨r, rfl, h2⟩
 ·rw [if_neg h0] at hA
  rw [hA]
  clear hA hAr
  generalize envCode n env down = c at *
  have dn : (decide ¬ c = 0) = true := decide_eq_true h0
  refine acalls_W c22_ok rfl ?_
  simp (disch := omega) only [c22, netV, go_sem]
  refine SRun.boxR (net_one n) ?_
  intro b3 hb3
  have g3 := upd_same σ b3 (netC n)
  have hσ : ∀ d x, σ d = some x → upd σ b3 (netC n) d = some x := le_upd hb3
  simp (disch := omega) only [go_sem]
  generalize upd σ b3 (netC n) = s1 at *
  simp (disch := omega) only [g3, hlen, hlen2, go_sem]
  refine SRun.callR (hC _ _) ⟨[], rfl, rfl⟩ rfl ?_
  simp (disch := omega) only [dn, go_sem]
  exact W_retC c22_ok (r := .tup [.isl true 0 [], .int .i64 c]) (σ' := σ) rfl (Conv.drop _ hσ) ⟨_, rfl, LLIn.nil⟩
theorem StableStates_any {n : Net} {ex ex2 : Bool} {env : List Int} {down : List Bool} (hN : NetLen n) (he : env.length ≤ 1000000000000) (hd : down.length ≤ 1000000000000) :
  Ret Tryz.prog Γ 22 [netV n, .isl ex 1 (ints env), .isl ex2 1 (bools down)] σ (.tup [.isl false 1 (staV (staA n env down)), .int .i64 (envCode n env down)]) σ :=
 (StableStates_own hN he hd).conv fun r s ⟨r', e, h⟩ => by
  subst e
  exact ⟨_, _, ⟨h.conv.1, frz_tup (by exact ⟨h.conv.2, .refl _, trivial⟩)⟩, rfl, rfl⟩
theorem StableStatess_any {n : Net} {ex ex2 : Bool} {env : List Int} {down : List Bool} (hN : NetLen n) (he : env.length ≤ 1000000000000) (hd : down.length ≤ 1000000000000) :
  Ret Tryz.prog Γ 15 [netV n, .isl ex 1 (ints env), .isl ex2 1 (bools down)] σ (.tup [.isl false 1 (staV (staA n env down)), .int .i64 (envCode n env down)]) σ := by
 have hA : staA n env down = if envCode n env down = 0 then statesP n env down else [] := rfl
 by_cases h0 : envCode n env down = 0
 ·rw [if_pos h0] at hA
  rw [hA, h0]
  obtain ⟨hB, hE⟩ := code_zero h0
  exact StableStatess_ok hN hB hE
 ·have hlen : (netC n).take 6 = netC n := rfl
  have hlen2 : (netC n).length = 6 := rfl
  have hC := fun Γ σ => l07Env_ok (Γ := Γ) (σ := σ) (ex := ex) (ex2 := ex2) (env := env) (down := down) hN he hd
  rw [if_neg h0] at hA
  rw [hA]
  clear hA
  generalize envCode n env down = c at *
  have dn : (decide ¬ c = 0) = true := decide_eq_true h0
  refine ret_of c15_ok rfl ?_
  simp (disch := omega) only [c15, netV, go_sem]
  refine SRun.boxR (net_one n) ?_
  intro b3 hb3
  have g3 := upd_same σ b3 (netC n)
  have hσ : ∀ d x, σ d = some x → upd σ b3 (netC n) d = some x := le_upd hb3
  simp (disch := omega) only [go_sem]
  generalize upd σ b3 (netC n) = s1 at *
  simp (disch := omega) only [g3, hlen, hlen2, go_sem]
  refine SRun.callR (hC _ _) ⟨[], rfl, rfl⟩ rfl ?_
  simp (disch := omega) only [dn, go_sem]
  exact W_retC c15_ok (r := .tup [.isl true 1 [], .int .i64 c]) (σ' := σ) rfl ⟨hσ, frz_tup (by exact ⟨.isl0 _ _ _ _ (fun h => by cases h), .refl _, trivial⟩)⟩ ⟨rfl, rfl⟩
theorem toBoolS_ok {ex : Bool} {xs : List Bool} (h : xs.length ≤ 1048576) : Ret Tryz.prog Γ 21 [.isl ex 1 (bools xs)] σ (.isl false 1 (bools xs)) σ := (toBoolS_own h).conv fun r s ho => ⟨_, _, ho.conv, rfl, rfl⟩
theorem NetAt.ats {n : Net} {qs : List V} {s : St} (h : NetAt σ0 n qs s) : ∀ m ∈ qs, ∃ es xs, At s es xs m := by
 obtain ⟨q0, q1, q2, q3, q4, q5, rfl, _, _, a0, a1, a2, a3, a4, a5⟩ := h
 intro m hm
 simp only [List.mem_cons, List.not_mem_nil, or_false] at hm
 rcases hm with rfl | rfl | rfl | rfl | rfl | rfl
 ·exact ⟨_, _, a0⟩
 ·exact ⟨_, _, a1⟩
 ·exact ⟨_, _, a2⟩
 ·exact ⟨_, _, a3⟩
 ·exact ⟨_, _, a4⟩
 ·exact ⟨_, _, a5⟩
theorem Rooms.shape {n : Net} {qs : List V} {s : St} (h : Rooms σ n qs) (hs : Shape σ s) : Rooms s n qs := by
 obtain ⟨q0, q1, q2, q3, q4, q5, rfl, r0, r1, r2, r3, r4, r5⟩ := h
 exact ⟨q0, q1, q2, q3, q4, q5, rfl, r0.shape hs, r1.shape hs, r2.shape hs, r3.shape hs, r4.shape hs, r5.shape hs⟩
theorem Shape.le {s t : St} (h : ∀ b c, s b = some c → t b = some c) : Shape s t := fun b c hb => ⟨c, h b c hb, rfl⟩
/-- What is asked to stay: it is off a list that is written over. -/
theorem off_two {m : V} {B0 S : St} {K G : Nat → Prop} (h0 : ∀ b, blk m = some b → B0 b = none) (hK : ∀ b, K b → B0 b ≠ none) (h1 : ∀ b, blk m = some b → S b ≠ none) (hG : ∀ b, G b → S b = none) : ∀ b, K b ∨ G b → blk m ≠ some b := by
 intro b hb e
 rcases hb with hb | hb
 ·exact hK b hb (h0 b e)
 ·exact h1 _ e (hG b hb)
set_option maxHeartbeats 4000000 in
set_option maxRecDepth 100000 in
theorem fnExactStableStates_ok {n : Net} {env : List Int} {down : List Bool} (hn : NetIn n) (he : env.length ≤ 9223372036854775807) (hd : down.length ≤ 9223372036854775807) : Ret Tryz.prog Γ 4 [netV n, .isl false 1 (ints env), .isl false 1 (bools down)] σ (.bool true) σ := by
 have hlen : (netC n).take 6 = netC n := rfl
 have hlen2 : (netC n).length = 6 := rfl
 refine ret_of c4_ok rfl ?_
 simp (disch := omega) only [c4, netV, go_sem]
 refine SRun.boxR (net_one n) ?_
 intro b3 hb3
 have g3 := upd_same σ b3 (netC n)
 have hσ : ∀ d y, σ d = some y → upd σ b3 (netC n) d = some y := le_upd hb3
 simp (disch := omega) only [go_sem]
 generalize upd σ b3 (netC n) = s2 at *
 first | refine iteW_dec (fun h1 => ?_) (fun h1 => ?_) | refine iteW_of (fun h1 => ?_) (fun h1 => ?_)
 ·simp (disch := omega) only [go_sem]
  exact W_retC c4_ok rfl (Conv.drop _ hσ) ⟨rfl, rfl⟩
 simp (disch := omega) only [go_sem]
 first | refine iteW_dec (fun h2 => ?_) (fun h2 => ?_) | refine iteW_of (fun h2 => ?_) (fun h2 => ?_)
 ·simp (disch := omega) only [go_sem]
  exact W_retC c4_ok rfl (Conv.drop _ hσ) ⟨rfl, rfl⟩
 have he1 : env.length ≤ 1048576 := by omega
 have hd1 : down.length ≤ 1048576 := by omega
 simp (disch := omega) only [g3, hlen, hlen2, go_sem]
 refine SRun.callQ (szNet_ok hn ⟨by omega, by omega⟩) ⟨[], rfl, rfl⟩ rfl ?_
 rintro r s ⟨hs, x1, rfl, h2, h2', k1⟩
 obtain rfl := hs.symm
 simp (disch := omega) only [go_sem]
 first | refine iteW_dec (fun q1 => ?_) (fun q1 => ?_) | refine iteW_of (fun q1 => ?_) (fun q1 => ?_)
 ·simp (disch := omega) only [go_sem]
  exact W_retC c4_ok rfl (Conv.drop _ hσ) ⟨rfl, rfl⟩
 have hf := k1 (by omega)
 have hN := hf.len
 have F1 := fun Γ σ => StableStatess_any (Γ := Γ) (σ := σ) (ex := false) (ex2 := false) (env := env) (down := down) hN (by omega) (by omega)
 have F2 := fun Γ σ => StableStates_any (Γ := Γ) (σ := σ) (ex := false) (ex2 := false) (env := env) (down := down) hN (by omega) (by omega)
 have F3 := fun Γ => StableStates_own (Γ := Γ) (σ := emp) (ex := false) (ex2 := false) (env := env) (down := down) hN (by omega) (by omega)
 obtain ⟨hL, hB4⟩ := staA_few (env := env) (down := down) hN
 have hB5 : ∀ rs ∈ staA n env down, rs.length ≤ 1048576 := fun rs h => Nat.le_trans (hB4 rs h) (by decide)
 generalize staA n env down = A at *
 generalize envCode n env down = code at *
 have hcc : (decide ¬ code = code) = false := by simp
 simp (disch := omega) only [g3, hlen, hlen2, go_sem]
 refine SRun.callR (toNet_ok hf) ⟨[], rfl, rfl⟩ rfl ?_
 simp (disch := omega) only [go_sem]
 refine SRun.callR (toIntS_ok he1) ⟨[], rfl, rfl⟩ rfl ?_
 simp (disch := omega) only [go_sem]
 refine SRun.callR (toBoolS_ok hd1) ⟨[], rfl, rfl⟩ rfl ?_
 simp (disch := omega) only [go_sem]
 refine SRun.callR (F1 _ _) ⟨[], rfl, rfl⟩ rfl ?_
 simp (disch := omega) only [g3, hlen, hlen2, go_sem]
 refine SRun.callQ (toNet_own hf) ⟨[], rfl, rfl⟩ rfl ?_
 rintro r s3 ⟨qs, rfl, ha⟩
 have hqs := ha.one
 have hfr : ∀ q ∈ qs, ∀ b, blk q = some b → s2 b = none := by obtain ⟨_, _, _, _, _, _, _, _, h, _⟩ := ha; exact h
 have hle3 : ∀ b c, s2 b = some c → s3 b = some c := by obtain ⟨_, _, _, _, _, _, _, h, _⟩ := ha; exact h
 have hqone : (∀ c, c ∈ qs → c.one = true) = True := eq_true hqs.1
 have hqt : qs.take 6 = qs := List.take_of_length_le (by omega)
 have hql := hqs.2
 have hqset : sets [V.isl true 0 [], V.isl true 0 [], V.isl true 0 [], V.isl true 0 [], V.isl true 0 [], V.isl true 0 []] 0 qs = qs := by
  obtain ⟨_, _, _, _, _, _, rfl, _⟩ := ha; rfl
 simp (disch := omega) only [go_sem]
 refine SRun.allocR ?_
 intro b14 hb14
 simp (disch := omega) only [hql, hqone, hqset, go_sem]
 have g14 := upd_same s3 b14 qs
 have hle4 := le_upd (cs := qs) hb14
 have g3c := hle4 _ _ (hle3 _ _ g3)
 generalize upd s3 b14 qs = s4 at *
 refine SRun.callQ (toIntS_own he1) ⟨[], rfl, rfl⟩ rfl ?_
 intro q15 s5 o15
 simp (disch := omega) only [go_sem]
 refine SRun.callQ (toBoolS_own hd1) ⟨[], rfl, rfl⟩ rfl ?_
 intro q16 s6 o16
 have h46 : ∀ b c, s4 b = some c → s6 b = some c := fun b c h => o16.le _ _ (o15.le _ _ h)
 have g14c := h46 _ _ g14
 obtain ⟨a15, f15⟩ := o15.atQ
 have a15 := a15.mono o16.le
 obtain ⟨a16, f16⟩ := o16.atQ
 have ha6 : Frz s6 emp (.agg qs) (netV n) := ha.lend.more fun b c h => h46 _ _ (hle4 _ _ h)
 simp (disch := omega) only [g14c, hqt, hql, go_sem]
 refine SRun.callQ (ACalls.lend (F3 _) (args := [.agg qs, q15, q16]) rfl (frzL_get (by exact ⟨ha6, a15.lend, a16.lend, trivial⟩)) ?_) ⟨[], rfl, rfl⟩ rfl ?_
 ·rintro r s ⟨q, rfl, ho⟩
  refine ⟨Plain.tup fun x hx => ?_, ho.plain.2⟩
  simp only [List.mem_cons, List.not_mem_nil, or_false] at hx
  rcases hx with rfl | rfl
  ·exact ho.plain.1
  ·exact Plain.int _ _
 rintro r s8 ⟨s', rfl, hdj, q, rfl, ho⟩
 obtain ⟨ms, ll⟩ := ho.join hdj
 have le78 := cup_le hdj
 generalize hs7 : cup s' s6 = s8 at *
 have le26 : ∀ b c, s2 b = some c → s6 b = some c := fun b c h => h46 _ _ (hle4 _ _ (hle3 _ _ h))
 have le28 : ∀ b c, s2 b = some c → s8 b = some c := fun b c h => le78 _ _ (le26 _ _ h)
 have g3d := le28 _ _ g3
 have g14d := le78 _ _ g14c
 have ha8 := ha6.more fun b c h => le78 _ _ h
 have a15d := a15.mono fun b c h => le78 _ _ h
 have a16d := a16.mono fun b c h => le78 _ _ h
 have rm := ha.rooms.shape (Shape.le fun b c h => le78 _ _ (h46 _ _ (hle4 _ _ h)))
 -- what stays
 have hK2 : ∀ b, (σ b ≠ none ∨ b = b3) → s2 b ≠ none := fun b hb => by
  rcases hb with hb | rfl
  ·cases e : σ b with
   | none => exact absurd e hb
   | some c => rw [hσ _ _ e]; simp
  ·rw [g3]; simp
 have hKle : ∀ {s : St}, (∀ b c, s2 b = some c → s b = some c) → ∀ b, (σ b ≠ none ∨ b = b3) → s b ≠ none := fun hl b hb => by
  cases e : s2 b with
  | none => exact absurd e (hK2 b hb)
  | some c => rw [hl _ _ e]; simp
 have hG : ∀ b, (blk q = some b ∨ ∃ m ∈ ms, blk m = some b) → s6 b = none := fun b hb => by
  rcases hb with hb | ⟨m, hm, hb⟩
  ·exact ll.new b hb
  ·exact ll.rows.new m hm b hb
 have offN : ∀ m ∈ qs, ∀ b, (σ b ≠ none ∨ b = b3) ∨ (blk q = some b ∨ ∃ m ∈ ms, blk m = some b) → blk m ≠ some b := fun m hm => by
  obtain ⟨es, xs, hat⟩ := ha.ats m hm
  exact off_two (hfr m hm) hK2 (fun b hb => by rw [h46 _ _ (hle4 _ _ (hat.has hb))]; simp) hG
 have off15 : ∀ b, (σ b ≠ none ∨ b = b3) ∨ (blk q = some b ∨ ∃ m ∈ ms, blk m = some b) → blk q15 ≠ some b :=
  off_two f15 (hKle fun b c h => hle4 _ _ (hle3 _ _ h)) (fun b hb => by rw [a15.has hb]; simp) hG
 have off16 : ∀ b, (σ b ≠ none ∨ b = b3) ∨ (blk q = some b ∨ ∃ m ∈ ms, blk m = some b) → blk q16 ≠ some b :=
  off_two f16 (hKle fun b c h => o15.le _ _ (hle4 _ _ (hle3 _ _ h))) (fun b hb => by rw [a16.has hb]; simp) hG
 have hσ8 : ∀ d y, σ d = some y → s8 d = some y := fun d y h => le28 _ _ (hσ _ _ h)
 have frW : Frz s8 emp q (.isl false 1 (staV A)) := ll.frz (fun _ _ => rfl) fun _ _ _ _ => rfl
 simp (disch := omega) only [go_sem]
 refine SRun.callR (Ret.lendL (eqRouteSS_ok (ex := false) (ex2 := false) (by omega) hB5) (by exact ⟨frW, .refl _, trivial⟩) (Plain.bool _)) ⟨[], rfl, rfl⟩ rfl ?_
 simp (disch := omega) only [hcc, go_sem]
 refine W_drawW ?_
 refine DRun.mixE rfl ?_
 simp (disch := omega) only [g14d, g3d, hlen, hlen2, hqt, hql, go_sem]
 refine DS.callB (toNet_ok hf) ⟨[], rfl, rfl⟩ rfl rfl ?_
 simp (disch := omega) only [go_sem]
 refine DRun.callQ (Ret.lendL (eqNet_ok hf) (by exact ⟨ha8, .refl _, trivial⟩) (Plain.bool _)) ⟨[], rfl, rfl⟩ ?_
 rintro r s ⟨rfl, hs⟩
 obtain rfl := hs.symm
 simp (disch := omega) only [go_sem]
 refine SRun.callR (toIntS_ok he1) ⟨[], rfl, rfl⟩ rfl ?_
 simp (disch := omega) only [go_sem]
 refine SRun.callR (Ret.lendL (eqIntS_ok (ex := false) (ex2 := false) he1) (by exact ⟨a15d.lend, .refl _, trivial⟩) (Plain.bool _)) ⟨[], rfl, rfl⟩ rfl ?_
 simp (disch := omega) only [go_sem]
 refine SRun.callR (toBoolS_ok hd1) ⟨[], rfl, rfl⟩ rfl ?_
 simp (disch := omega) only [go_sem]
 refine SRun.callR (Ret.lendL (eqBoolS_ok (ex := false) (ex2 := false) hd1) (by exact ⟨a16d.lend, .refl _, trivial⟩) (Plain.bool _)) ⟨[], rfl, rfl⟩ rfl ?_
 simp (disch := omega) only [g14d, hqt, hql, go_sem]
 refine SRun.callQ (markNet_ok hf rm) ⟨[], rfl, rfl⟩ rfl ?_
 rintro r s9 ⟨⟨k9, rfl, ka9, kb9⟩, sh9, fr9⟩
 simp (disch := omega) only [go_sem]
 have r15 := (a15d.room).shape sh9
 have r16 := (a16d.room).shape sh9
 rw [ints_len] at r15
 rw [bools_len] at r16
 refine SRun.callQ (markIntR_ok r15 he1 (by omega)) ⟨[], rfl, rfl⟩ rfl ?_
 rintro r s10 ⟨⟨k10, rfl, ka10, kb10⟩, sh10, fr10⟩
 simp (disch := omega) only [go_sem]
 refine SRun.callQ (markBoolR_ok (r16.shape sh10) hd1 (by omega)) ⟨[], rfl, rfl⟩ rfl ?_
 rintro r s11 ⟨⟨k11, rfl, ka11, kb11⟩, sh11, fr11⟩
 have keep : ∀ b, (σ b ≠ none ∨ b = b3) ∨ (blk q = some b ∨ ∃ m ∈ ms, blk m = some b) → s11 b = s8 b := fun b hb =>
  (fr11 b (off16 b hb)).trans ((fr10 b (off15 b hb)).trans (fr9 b fun m hm => offN m hm b hb))
 have g3e := (keep b3 (.inl (.inr rfl))).trans g3d
 have lle : LLAt s6 A q ms s11 := ⟨ll.at_.to fun b hb => keep b (.inr (.inl hb)), ll.rows.to fun m hm b hb => keep b (.inr (.inr ⟨m, hm, hb⟩)), ll.new, ll.ap⟩
 have hσ11 : ∀ d y, σ d = some y → s11 d = some y := fun d y h => (keep d (.inl (.inl (by rw [h]; simp)))).trans (hσ8 _ _ h)
 have frE : Frz s11 emp q (.isl false 1 (staV A)) := lle.frz (fun _ _ => rfl) fun _ _ _ _ => rfl
 clear keep fr9 fr10 fr11 sh9 sh10 sh11 r15 r16 offN off15 off16
 have hk11 : decide (k11 < 0) = false := decide_eq_false (by omega)
 simp (disch := omega) only [hk11, go_sem]
 refine SRun.callR (Ret.lendL (eqRouteSS_ok (ex := false) (ex2 := false) (by omega) hB5) (by exact ⟨frE, .refl _, trivial⟩) (Plain.bool _)) ⟨[], rfl, rfl⟩ rfl ?_
 simp (disch := omega) only [hcc, go_sem]
 refine SRun.callQ (markRouteSS_at lle.at_ lle.rows lle.ap (by omega) hB4) ⟨[], rfl, rfl⟩ rfl ?_
 rintro r s12 ⟨rfl, m1, m2, fr12⟩
 have llf : LLAt s6 (markRS 1 (A.map List.length)) q ms s12 := ⟨m1, m2, ll.new, ll.ap⟩
 have frF : Frz s12 emp q (.isl false 1 (staV (markRS 1 (A.map List.length)))) := llf.frz (fun _ _ => rfl) fun _ _ _ _ => rfl
 have keep2 : ∀ b, (σ b ≠ none ∨ b = b3) → s12 b = s11 b := fun b hb => fr12 b fun m hm e => hKle le26 b hb (ll.rows.new m hm b e)
 have g3f := (keep2 b3 (.inr rfl)).trans g3e
 have hσ12 : ∀ d y, σ d = some y → s12 d = some y := fun d y h => (keep2 d (.inl (by rw [h]; simp))).trans (hσ11 _ _ h)
 have hcl := cntR_le (ls := A.map List.length) (B := 4) (fun x hx => by obtain ⟨rs, h, rfl⟩ := List.mem_map.1 hx; exact hB4 rs h) A.length
 have H1 := fun Γ σ => heldRouteSS_ok (Γ := Γ) (σ := σ) (ex := false) (ls := A.map List.length) (by rw [List.length_map]; omega) (fun x hx => by obtain ⟨rs, h, rfl⟩ := List.mem_map.1 hx; exact hB4 rs h)
 rw [List.length_map] at H1
 clear keep2 fr12 m1 m2
 generalize markRS 1 (A.map List.length) = M at *
 generalize cntR (A.map List.length) A.length = c at *
 have hne2 : (decide ¬ (1 + 4 * (c : Int) = 1 + 4 * c)) = false := by simp
 simp (disch := omega) only [go_sem]
 refine SRun.callR (Ret.lendL (H1 _ _) (by exact ⟨frF, .refl _, trivial⟩) (Plain.int _ _)) ⟨[], rfl, rfl⟩ rfl ?_
 simp (disch := omega) only [hne2, g3f, hlen, hlen2, go_sem]
 refine SRun.callR (toNet_ok hf) ⟨[], rfl, rfl⟩ rfl ?_
 simp (disch := omega) only [go_sem]
 refine SRun.callR (toIntS_ok he1) ⟨[], rfl, rfl⟩ rfl ?_
 simp (disch := omega) only [go_sem]
 refine SRun.callR (toBoolS_ok hd1) ⟨[], rfl, rfl⟩ rfl ?_
 simp (disch := omega) only [go_sem]
 refine SRun.callR (F2 _ _) ⟨[], rfl, rfl⟩ rfl ?_
 simp (disch := omega) only [go_sem]
 refine SRun.callR (eqRouteSS_ok (ex := false) (ex2 := false) (by omega) hB5) ⟨[], rfl, rfl⟩ rfl ?_
 simp (disch := omega) only [hcc, go_sem]
 refine SRun.callR (Ret.lendL (H1 _ _) (by exact ⟨frF, .refl _, trivial⟩) (Plain.int _ _)) ⟨[], rfl, rfl⟩ rfl ?_
 simp (disch := omega) only [hne2, go_sem]
 exact W_retC c4_ok rfl (Conv.drop _ hσ12) ⟨rfl, rfl⟩
end
end Go.Proofs.YtabelcohkpmpnaaGreat.Lg
