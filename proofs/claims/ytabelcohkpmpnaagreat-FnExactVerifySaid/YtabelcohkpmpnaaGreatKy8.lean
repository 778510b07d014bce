/- What is told of the functions that are reached, as far as it is asked here. -/
import Derived.Test.YtabelcohkpmpnaaGreatKy7
import Derived.KernelRfl
set_option linter.unusedSimpArgs false
set_option linter.unusedVariables false
namespace Go.Proofs.YtabelcohkpmpnaaGreat.Lg
open Go
section
attribute [local irreducible] SRun DS DRun
variable {Γ : St} {σ σ0 : St}
theorem eqBoolS_ok {ex ex2 : Bool} {xs : List Bool} (h1 : xs.length ≤ 1048576) : Ret Tryz.prog Γ 26 [.isl ex 1 (bools xs), .isl ex2 1 (bools xs)] σ (.bool true) σ := by
 refine ret_of c26_ok rfl ?_
 simp (disch := omega) only [c26, dec_same, go_sem]
 refine W_loopC (α := Nat) (fun i => i ≤ xs.length) (fun i => [(0, .isl ex 1 (bools xs)), (1, .isl ex2 1 (bools xs)), (5, .int .i64 (i : Nat))]) (fun i => σ) (fun i => xs.length - i) 0 (by omega) (by simp (disch := omega) only [subT, Int.natCast_add, Int.cast_ofNat_Int, go_sem] <;> (repeat' apply And.intro) <;> first | rfl | (congr 1; omega) | assumption) rfl ?_
 intro i hi ih
 have hbb : ∀ b : Bool, (b == b) = true := fun b => by simp
 have hnt : (!true) = false := rfl
 simp (disch := omega) only [go_sem]
 first | refine iteW_dec (fun hq => ?_) (fun hq => ?_) | refine iteW_of (fun hq => ?_) (fun hq => ?_)
 ·simp (disch := omega) only [go_sem]
  refine W_drawW ?_
  simp (disch := omega) only [dec_same, hbb, hnt, go_sem]
  exact ih (i + 1) _ _ (by omega) (by omega) (by simp (disch := omega) only [subT, Int.natCast_add, Int.cast_ofNat_Int, go_sem] <;> (repeat' apply And.intro) <;> first | rfl | (congr 1; omega) | assumption) rfl
 ·simp (disch := omega) only [go_sem]
  exact W_retR c26_ok rfl ⟨rfl, rfl⟩
set_option maxHeartbeats 1000000 in
theorem markIntR_ok {n : Nat} {q : V} {k : Int} (h : Room σ 1 n q) (hl : n ≤ 1048576) (hk : 0 ≤ k ∧ k ≤ 900000000) : ACalls Tryz.prog Γ 28 [q, .int .i64 k] σ fun r s => Marked σ q k (1 * n) r s := by
 rcases h with ⟨rfl, es', rfl⟩ | ⟨b, cap, cs, rfl, hb, hcs⟩
 ·refine acalls_W c28_ok rfl ?_
  simp (disch := omega) only [c28, go_sem]
  refine W_loopC (α := Unit) (fun _ => True) (fun _ => [(0, .isl true es' []), (1, .int .i64 k), (5, .int .i64 0)]) (fun _ => σ) (fun _ => 0) () trivial (by simp (disch := omega) only [subT, Int.natCast_add, Int.cast_ofNat_Int, go_sem] <;> (repeat' apply And.intro) <;> first | rfl | (congr 1; omega) | assumption) rfl ?_
  intro _ _ _
  simp (disch := omega) only [List.length_nil, go_sem]
  exact W_retR c28_ok rfl ⟨⟨k, rfl, by omega, by omega⟩, Shape.refl _, fun _ _ => rfl⟩
 ·refine acalls_W c28_ok rfl ?_
  simp (disch := omega) only [c28, go_sem]
  refine W_loopC (α := Nat × List V) (fun p => p.1 ≤ n ∧ p.2.length = cs.length) (fun p => [(0, .msl b 1 0 n cap), (1, .int .i64 (k + 1 * p.1)), (5, .int .i64 (p.1 : Nat))]) (fun p => upd σ b p.2) (fun p => n - p.1) (0, cs) ⟨by simp, rfl⟩ (by simp (disch := omega) only [subT, Int.natCast_add, Int.cast_ofNat_Int, Int.natCast_zero, Int.mul_zero, Int.add_zero, go_sem] <;> (repeat' apply And.intro) <;> first | rfl | (congr 1; omega) | assumption) (upd_self _ hb) ?_
  rintro ⟨i, c⟩ ⟨hi, hc⟩ ih
  dsimp only at hi hc
  have g := fun x => upd_same σ b x
  simp (disch := omega) only [go_sem]
  first | refine iteW_dec (fun h1 => ?_) (fun h1 => ?_) | refine iteW_of (fun h1 => ?_) (fun h1 => ?_)
  ·simp (disch := omega) only [g, List.length_set, go_sem]
   exact ih (i + 1, _) _ _ ⟨by simp only; omega, by simp only [List.length_set]; exact hc⟩ (by simp only; omega) (by simp (disch := omega) only [subT, Int.natCast_add, Int.cast_ofNat_Int, go_sem] <;> (repeat' apply And.intro) <;> first | rfl | (congr 1; omega) | assumption) rfl
  ·have hil : i = n := by omega
   subst hil
   simp (disch := omega) only [go_sem]
   exact W_retR c28_ok rfl ⟨⟨k + 1 * i, rfl, by omega, by omega⟩, Shape.upd hb hc, fun d hd => upd_ne _ _ (fun e => hd (by rw [e]; rfl))⟩
def Rooms (σ : St) (n : Net) (qs : List V) : Prop := ∃ q0 q1 q2 q3 q4 q5, qs = [q0, q1, q2, q3, q4, q5] ∧ Room σ 1 n.routers.length q0 ∧ Room σ 3 n.links.length q1 ∧ Room σ 1 n.origins.length q2 ∧ Room σ 1 n.externals.length q3 ∧ Room σ 5 n.imports.length q4 ∧ Room σ 4 n.filters.length q5
theorem NetAt.rooms {n : Net} {qs : List V} {s : St} (h : NetAt σ0 n qs s) : Rooms s n qs := by
 obtain ⟨q0, q1, q2, q3, q4, q5, rfl, _, _, a0, a1, a2, a3, a4, a5⟩ := h
 have r0 := a0.room
 have r1 := a1.room
 have r2 := a2.room
 have r3 := a3.room
 have r4 := a4.room
 have r5 := a5.room
 rw [strsV_len] at r0
 rw [linksV_len] at r1
 rw [ints_len] at r2 r3
 rw [impsV_len] at r4
 rw [filsV_len] at r5
 exact ⟨q0, q1, q2, q3, q4, q5, rfl, r0, r1, r2, r3, r4, r5⟩
theorem Room.blk {es len : Nat} {q : V} (h : Room σ es len q) {b : Nat} (hb : σ b = none) : Lg.blk q ≠ some b := by
 rcases h with ⟨_, es', rfl⟩ | ⟨b', cap, cs, rfl, h1, h2⟩
 ·intro e; cases e
 ·intro e
  simp only [Lg.blk, Option.some.injEq] at e
  subst e; rw [hb] at h1; cases h1
theorem Room.one {es len : Nat} {q : V} (h : Room σ es len q) : q.one = true ∧ q.cells = [q] := by
 rcases h with ⟨_, es', rfl⟩ | ⟨b', cap, cs, rfl, h1, h2⟩ <;> exact ⟨rfl, rfl⟩
theorem Shape.new {b : Nat} {c : List V} (hb : σ b = none) : Shape σ (Lg.upd σ b c) := fun d x h => ⟨x, le_upd hb _ _ h, rfl⟩
def Off (qs : List V) (b : Nat) : Prop := ∀ q ∈ qs, Lg.blk q ≠ some b
set_option maxHeartbeats 1000000 in
theorem markNet_ok {n : Net} (hn : NetFew n) {qs : List V} (h : Rooms σ n qs) : ACalls Tryz.prog Γ 27 [.agg qs, .int .i64 1] σ fun r s => (∃ k', r = .int .i64 k' ∧ 1 ≤ k' ∧ k' ≤ 100000000) ∧ Shape σ s ∧ ∀ b, Off qs b → s b = σ b := by
 obtain ⟨q0, q1, q2, q3, q4, q5, rfl, r0, r1, r2, r3, r4, r5⟩ := h
 have l0 := hn.routers
 have l1 := hn.links
 have l2 := hn.origins
 have l3 := hn.externals
 have l4 := hn.imports
 have l5 := hn.filters
 refine acalls_W c27_ok rfl ?_
 simp (disch := omega) only [c27, go_sem]
 refine SRun.boxR (by
  intro c hc
  simp only [ev, look, V.cells, if_true, List.mem_cons, List.not_mem_nil, or_false] at hc
  rcases hc with rfl | rfl | rfl | rfl | rfl | rfl
  ·exact r0.one.1
  ·exact r1.one.1
  ·exact r2.one.1
  ·exact r3.one.1
  ·exact r4.one.1
  ·exact r5.one.1) ?_
 intro b2 hb2
 have m0 := r0.blk hb2
 have m1 := r1.blk hb2
 have m2 := r2.blk hb2
 have m3 := r3.blk hb2
 have m4 := r4.blk hb2
 have m5 := r5.blk hb2
 have sh : Shape σ (upd σ b2 [q0, q1, q2, q3, q4, q5]) := Shape.new hb2
 have g2 := upd_same σ b2 [q0, q1, q2, q3, q4, q5]
 have fr : ∀ b, (∀ q ∈ [q0, q1, q2, q3, q4, q5], blk q ≠ some b) → b ≠ b2 → upd σ b2 [q0, q1, q2, q3, q4, q5] b = σ b := fun b _ hb => upd_ne _ _ hb
 simp (disch := omega) only [go_sem]
 generalize upd σ b2 [q0, q1, q2, q3, q4, q5] = s0 at *
 refine SRun.callQ (markStringS_ok (r0.shape sh) l0 (by omega)) ⟨[], rfl, rfl⟩ rfl ?_
 rintro r t0 ⟨⟨k0, rfl, ka0, kb0⟩, sh0, fr0⟩
 have sh := sh.trans sh0
 have g2 := (fr0 b2 m0).trans g2
 have fr : ∀ b, (∀ q ∈ [q0, q1, q2, q3, q4, q5], blk q ≠ some b) → b ≠ b2 → t0 b = σ b := fun b hb he => (fr0 b (hb q0 (by simp))).trans (fr b hb he)
 simp (disch := omega) only [g2, go_sem]
 refine SRun.callQ (markLinkS_ok (r1.shape sh) l1 (by omega)) ⟨[], rfl, rfl⟩ rfl ?_
 rintro r t1 ⟨⟨k1, rfl, ka1, kb1⟩, sh1, fr1⟩
 have sh := sh.trans sh1
 have g2 := (fr1 b2 m1).trans g2
 have fr : ∀ b, (∀ q ∈ [q0, q1, q2, q3, q4, q5], blk q ≠ some b) → b ≠ b2 → t1 b = σ b := fun b hb he => (fr1 b (hb q1 (by simp))).trans (fr b hb he)
 simp (disch := omega) only [g2, go_sem]
 refine SRun.callQ (markIntR_ok (r2.shape sh) l2 (by omega)) ⟨[], rfl, rfl⟩ rfl ?_
 rintro r t2 ⟨⟨k2, rfl, ka2, kb2⟩, sh2, fr2⟩
 have sh := sh.trans sh2
 have g2 := (fr2 b2 m2).trans g2
 have fr : ∀ b, (∀ q ∈ [q0, q1, q2, q3, q4, q5], blk q ≠ some b) → b ≠ b2 → t2 b = σ b := fun b hb he => (fr2 b (hb q2 (by simp))).trans (fr b hb he)
 simp (disch := omega) only [g2, go_sem]
 refine SRun.callQ (markIntR_ok (r3.shape sh) l3 (by omega)) ⟨[], rfl, rfl⟩ rfl ?_
 rintro r t3 ⟨⟨k3, rfl, ka3, kb3⟩, sh3, fr3⟩
 have sh := sh.trans sh3
 have g2 := (fr3 b2 m3).trans g2
 have fr : ∀ b, (∀ q ∈ [q0, q1, q2, q3, q4, q5], blk q ≠ some b) → b ≠ b2 → t3 b = σ b := fun b hb he => (fr3 b (hb q3 (by simp))).trans (fr b hb he)
 simp (disch := omega) only [g2, go_sem]
 refine SRun.callQ (markImportS_ok (r4.shape sh) l4 (by omega)) ⟨[], rfl, rfl⟩ rfl ?_
 rintro r t4 ⟨⟨k4, rfl, ka4, kb4⟩, sh4, fr4⟩
 have sh := sh.trans sh4
 have g2 := (fr4 b2 m4).trans g2
 have fr : ∀ b, (∀ q ∈ [q0, q1, q2, q3, q4, q5], blk q ≠ some b) → b ≠ b2 → t4 b = σ b := fun b hb he => (fr4 b (hb q4 (by simp))).trans (fr b hb he)
 simp (disch := omega) only [g2, go_sem]
 refine SRun.callQ (markFilterS_ok (r5.shape sh) l5 (by omega)) ⟨[], rfl, rfl⟩ rfl ?_
 rintro r t5 ⟨⟨k5, rfl, ka5, kb5⟩, sh5, fr5⟩
 have sh := sh.trans sh5
 have g2 := (fr5 b2 m5).trans g2
 have fr : ∀ b, (∀ q ∈ [q0, q1, q2, q3, q4, q5], blk q ≠ some b) → b ≠ b2 → t5 b = σ b := fun b hb he => (fr5 b (hb q5 (by simp))).trans (fr b hb he)
 simp (disch := omega) only [g2, go_sem]
 have hkk : k5 ≤ 100000000 := by omega
 refine W_retC c27_ok rfl (σ' := del t5 b2) (Conv.drop _ fun d x hd => ?_) ⟨⟨k5, rfl, by omega, hkk⟩, fun d x hd => ?_, fun b hb => ?_⟩
 ·by_cases e : d = b2
  ·subst e; rw [del_same] at hd; cases hd
  ·rwa [del_ne _ e] at hd
 ·obtain ⟨c', h1, h2⟩ := sh d x hd
  have e : d ≠ b2 := fun e => by subst e; rw [hb2] at hd; cases hd
  exact ⟨c', by rw [del_ne _ e]; exact h1, h2⟩
 ·by_cases e : b = b2
  ·subst e; rw [del_same, hb2]
  ·rw [del_ne _ e]; exact fr b hb e
end
section
attribute [local irreducible] SRun DS DRun
variable {Γ : St} {σ σ0 : St}
def markB (k : Int) (n : Nat) : List Bool := (List.range n).map fun i : Nat => decide ((k + i).tmod 3 = 0)
theorem markB_len (k : Int) (n : Nat) : (markB k n).length = n := by simp [markB]
theorem markB_at {k : Int} {n i : Nat} (h : i < n) : (markB k n).getD i false = decide ((k + i).tmod 3 = 0) := by simp [markB, List.getD, h]
def partB (k : Int) (xs : List Bool) (i : Nat) : List Bool := markB k i ++ xs.drop i
theorem partB_len {k : Int} {xs : List Bool} {i : Nat} (h : i ≤ xs.length) : (partB k xs i).length = xs.length := by simp [partB, markB_len]; omega
theorem partB_zero (k : Int) (xs : List Bool) : partB k xs 0 = xs := by simp [partB, markB]
theorem partB_all (k : Int) (xs : List Bool) : partB k xs xs.length = markB k xs.length := by simp [partB]
theorem partB_set {k : Int} {xs : List Bool} {i : Nat} (h : i < xs.length) : (partB k xs i).set i (decide ((k + i).tmod 3 = 0)) = partB k xs (i + 1) := by
 unfold partB
 rw [List.set_append_right _ _ (by rw [markB_len]; exact Nat.le_refl _), markB_len, Nat.sub_self, List.drop_eq_getElem_cons h, List.set_cons_zero]
 simp [markB, List.range_succ]
theorem bools_setB (xs : List Bool) (i : Nat) (x : Bool) : (bools xs).set i (.bool x) = bools (xs.set i x) := by simp [bools, List.map_set]
theorem flat_boolsB (d : List Bool) : flat (bools d) = bools d := flat_one fun x hx => by obtain ⟨y, _, rfl⟩ := List.mem_map.1 hx; rfl
theorem bools_okB (xs : List Bool) : ∀ y ∈ bools xs, y.cells.length = 1 ∧ ∀ c ∈ y.cells, c.one = true := one_cell fun x hx => by obtain ⟨y, _, rfl⟩ := List.mem_map.1 hx; rfl
theorem markBoolS_at {xs : List Bool} {q : V} {k : Int} (h : At σ 1 (bools xs) q) (hl : xs.length ≤ 1048576) (hk : 0 ≤ k ∧ k ≤ 1000000000) : ACalls Tryz.prog Γ 29 [q, .int .i64 k] σ fun r s => r = .int .i64 (k + xs.length) ∧ s = wrt σ q (bools (markB k xs.length)) := by
 rcases h.2 with ⟨h0, es', rfl⟩ | ⟨b, cap, rfl, hb⟩
 ·have hx : xs = [] := by simpa [bools] using h0
  subst hx
  refine acalls_W c29_ok rfl ?_
  simp (disch := omega) only [c29, go_sem]
  refine W_loopC (α := Unit) (fun _ => True) (fun _ => [(0, .isl true es' []), (1, .int .i64 k), (5, .int .i64 0)]) (fun _ => σ) (fun _ => 0) () trivial (by simp (disch := omega) only [subT, Int.natCast_add, Int.cast_ofNat_Int, go_sem] <;> (repeat' apply And.intro) <;> first | rfl | (congr 1; omega) | assumption) rfl ?_
  intro _ _ _
  simp (disch := omega) only [List.length_nil, go_sem]
  exact W_retR c29_ok rfl ⟨by simp [look], rfl⟩
 ·rw [bools_len, wrt_msl]
  rw [flat_boolsB] at hb
  refine acalls_W c29_ok rfl ?_
  simp (disch := omega) only [c29, go_sem]
  refine W_loopC (α := Nat) (fun i => i ≤ xs.length) (fun i => [(0, .msl b 1 0 xs.length cap), (1, .int .i64 (k + i)), (5, .int .i64 (i : Nat))]) (fun i => upd σ b (bools (partB k xs i))) (fun i => xs.length - i) 0 (by omega) (by simp (disch := omega) only [subT, Int.natCast_add, Int.cast_ofNat_Int, Int.natCast_zero, Int.add_zero, go_sem] <;> (repeat' apply And.intro) <;> first | rfl | (congr 1; omega) | assumption) (by rw [partB_zero]; exact upd_self _ hb) ?_
  intro i hi ih
  have g := upd_same σ b (bools (partB k xs i))
  have hpl := partB_len (k := k) hi
  simp (disch := omega) only [go_sem]
  first | refine iteW_dec (fun h1 => ?_) (fun h1 => ?_) | refine iteW_of (fun h1 => ?_) (fun h1 => ?_)
  ·simp (disch := omega) only [g, bools_len, hpl, go_sem]
   rw [bools_setB, partB_set (by omega)]
   exact ih (i + 1) _ _ (by omega) (by omega) (by simp (disch := omega) only [subT, Int.natCast_add, Int.cast_ofNat_Int, go_sem] <;> (repeat' apply And.intro) <;> first | rfl | (congr 1; omega) | assumption) rfl
  ·have hil : i = xs.length := by omega
   subst hil
   rw [partB_all]
   simp (disch := omega) only [go_sem]
   exact W_retR c29_ok rfl ⟨rfl, rfl⟩
theorem heldBoolS_ok {ex : Bool} {n : Nat} {k : Int} (hl : n ≤ 1048576) (hk : 0 ≤ k ∧ k ≤ 1000000000) : Ret Tryz.prog Γ 84 [.isl ex 1 (bools (markB k n)), .int .i64 k] σ (.int .i64 (k + n)) σ := by
 have hul := markB_len k n
 refine ret_of c84_ok rfl ?_
 simp (disch := omega) only [c84, go_sem]
 refine W_loopC (α := Nat) (fun i => i ≤ n) (fun i => [(0, .isl ex 1 (bools (markB k n))), (1, .int .i64 (k + i)), (5, .int .i64 (i : Nat))]) (fun _ => σ) (fun i => n - i) 0 (by omega) (by simp (disch := omega) only [subT, Int.natCast_add, Int.cast_ofNat_Int, Int.natCast_zero, Int.add_zero, go_sem] <;> (repeat' apply And.intro) <;> first | rfl | (congr 1; omega) | assumption) rfl ?_
 intro i hi ih
 simp (disch := omega) only [bools_len, hul, go_sem]
 first | refine iteW_dec (fun h1 => ?_) (fun h1 => ?_) | refine iteW_of (fun h1 => ?_) (fun h1 => ?_)
 ·have hat := markB_at (k := k) (n := n) (i := i) (by omega)
  have hbb : ∀ b : Bool, (b == b) = true := fun b => by simp
  have hnt : (!true) = false := rfl
  simp (disch := omega) only [bools_len, hul, hat, hbb, hnt, go_sem]
  exact ih (i + 1) _ _ (by omega) (by omega) (by simp (disch := omega) only [subT, Int.natCast_add, Int.cast_ofNat_Int, go_sem] <;> (repeat' apply And.intro) <;> first | rfl | (congr 1; omega) | assumption) rfl
 ·have hil : i = n := by omega
  subst hil
  simp (disch := omega) only [go_sem]
  exact W_retR c84_ok rfl ⟨rfl, rfl⟩
def VdAt (s : St) (v : Vd) (q1 q2 q3 : V) : Prop := At s 1 (bools v.down) q1 ∧ At s 1 (ints v.env) q2 ∧ At s 1 (ints v.vias) q3
def Ap (q q' : V) : Prop := ∀ b, blk q = some b → blk q' ≠ some b
theorem Ap.symm {q q' : V} (h : Ap q q') : Ap q' q := fun b hb e => h b e hb
theorem OwnVd.at {v : Vd} {r : V} {s : St} (h : OwnVd σ v r s) : ∃ q1 q2 q3, r = .agg [.bool v.holds, .int .i64 v.states, q1, q2, q3, .int .i64 v.port] ∧ VdAt s v q1 q2 q3 ∧ Ap q1 q2 ∧ Ap q1 q3 ∧ Ap q2 q3 ∧ (Plain q1 ∧ Plain q2 ∧ Plain q3) ∧ ∀ b c, s b = some c → σ b = some c ∨ c = bools v.down ∨ c = ints v.env ∨ c = ints v.vias := by
 obtain ⟨q1, q2, q3, sA, sB, rfl, o1, o2, o3⟩ := h
 obtain ⟨a1, f1⟩ := o1.atQ
 obtain ⟨a2, f2⟩ := o2.atQ
 obtain ⟨a3, f3⟩ := o3.atQ
 have new : ∀ {s0 s1 : St} {es : Nat} {xs : List V} {q : V}, OwnL s0 es xs q s1 → ∀ b c, s1 b = some c → s0 b = some c ∨ c = flat xs := fun ho b c hb => by
  rcases ho.1 with ⟨_, _, rfl, _⟩ | ⟨b2, cap, _, _, rfl, _⟩
  ·exact .inl hb
  ·by_cases e : b = b2
   ·subst e; rw [upd_same] at hb; cases hb; exact .inr rfl
   ·rw [upd_ne _ _ e] at hb; exact .inl hb
 refine ⟨q1, q2, q3, rfl, ⟨a1.mono fun b c h => o3.le _ _ (o2.le _ _ h), a2.mono o3.le, a3⟩, fun b hb e => ?_, fun b hb e => ?_, fun b hb e => ?_, ⟨o1.plain, o2.plain, o3.plain⟩, fun b c hb => ?_⟩
 ·have := a1.has hb; rw [f2 b e] at this; cases this
 ·have := o2.le _ _ (a1.has hb); rw [f3 b e] at this; cases this
 ·have := a2.has hb; rw [f3 b e] at this; cases this
 ·rcases new o3 b c hb with h | h
  ·rcases new o2 b c h with h | h
   ·rcases new o1 b c h with h | h
    ·exact .inl h
    ·exact .inr (.inl (by rw [h, flat_boolsB]))
   ·exact .inr (.inr (.inl (by rw [h, flat_ints])))
  ·exact .inr (.inr (.inr (by rw [h, flat_ints])))
theorem VdAt.mono {v : Vd} {q1 q2 q3 : V} {s t : St} (h : VdAt s v q1 q2 q3) (hl : ∀ b c, s b = some c → t b = some c) : VdAt t v q1 q2 q3 := ⟨h.1.mono hl, h.2.1.mono hl, h.2.2.mono hl⟩
theorem VdAt.to {v : Vd} {q1 q2 q3 : V} {s t : St} (h : VdAt s v q1 q2 q3) (hl : ∀ q ∈ [q1, q2, q3], ∀ b, blk q = some b → t b = s b) : VdAt t v q1 q2 q3 := ⟨h.1.to (hl q1 (by simp)), h.2.1.to (hl q2 (by simp)), h.2.2.to (hl q3 (by simp))⟩
theorem VdAt.lend {v : Vd} {q1 q2 q3 : V} {s : St} (h : VdAt s v q1 q2 q3) : Frz s emp (.agg [.bool v.holds, .int .i64 v.states, q1, q2, q3, .int .i64 v.port]) (vdV v) := frz_agg (by exact ⟨.refl _, .refl _, h.1.lend, h.2.1.lend, h.2.2.lend, .refl _, trivial⟩) (vd_one v)
theorem VdAt.ones {v : Vd} {q1 q2 q3 : V} {s : St} (h : VdAt s v q1 q2 q3) : ∀ c ∈ [V.bool v.holds, .int .i64 v.states, q1, q2, q3, .int .i64 v.port], c.one = true := by
 intro c hc
 simp only [List.mem_cons, List.not_mem_nil, or_false] at hc
 rcases hc with rfl | rfl | rfl | rfl | rfl | rfl
 ·rfl
 ·rfl
 ·exact h.1.one
 ·exact h.2.1.one
 ·exact h.2.2.one
 ·rfl
structure VdFew (v : Vd) : Prop where
 down : v.down.length ≤ 1048576
 env : v.env.length ≤ 1048576
 vias : v.vias.length ≤ 1048576
theorem eqVerdict_ok {v : Vd} (h : VdFew v) : Ret Tryz.prog Γ 33 [vdV v, vdV v] σ (.bool true) σ := by
 have p0 : (vdC v)[0]? = some (.bool v.holds) := rfl
 have p1 : (vdC v)[1]? = some (.int .i64 v.states) := rfl
 have p2 : (vdC v)[2]? = some (.isl false 1 (bools v.down)) := rfl
 have p3 : (vdC v)[3]? = some (.isl false 1 (ints v.env)) := rfl
 have p4 : (vdC v)[4]? = some (.isl false 1 (ints v.vias)) := rfl
 have p5 : (vdC v)[5]? = some (.int .i64 v.port) := rfl
 refine ret_of c33_ok rfl ?_
 simp (disch := omega) only [c33, vdV, go_sem]
 refine SRun.boxR (vd_one v) ?_
 intro b2 hb2
 simp (disch := omega) only [go_sem]
 refine SRun.boxR (vd_one v) ?_
 intro b3 hb3
 have n3 := upd_none.1 hb3
 have g3 := upd_same (upd σ b2 (vdC v)) b3 (vdC v)
 have g2 : upd (upd σ b2 (vdC v)) b3 (vdC v) b2 = some (vdC v) := by rw [upd_ne _ _ n3.1.symm, upd_same]
 have hσ := le_two hb2 n3.2 (vdC v) (vdC v)
 simp (disch := omega) only [go_sem]
 generalize upd (upd σ b2 (vdC v)) b3 (vdC v) = s1 at *
 have hbb : (v.holds == v.holds) = true := by simp
 have hnt : (!true) = false := rfl
 have hdd : ∀ k : Int, (decide ¬ k = k) = false := fun k => by simp
 simp (disch := omega) only [g2, g3, p0, p1, hbb, hdd, hnt, p2, go_sem]
 refine SRun.callR (eqBoolS_ok h.down) ⟨[], rfl, rfl⟩ rfl ?_
 simp (disch := omega) only [g2, g3, p3, go_sem]
 refine SRun.callR (eqIntS_ok h.env) ⟨[], rfl, rfl⟩ rfl ?_
 simp (disch := omega) only [g2, g3, p4, go_sem]
 refine SRun.callR (eqIntS_ok h.vias) ⟨[], rfl, rfl⟩ rfl ?_
 simp (disch := omega) only [g2, g3, p5, hdd, go_sem]
 exact W_retC c33_ok rfl (Conv.drop _ hσ) ⟨rfl, rfl⟩
/-- A verdict whose lists bear the marks. -/
def markVd (v : Vd) : Vd := { v with down := markB 1 v.down.length, env := upFrom (1 + v.down.length) v.env.length, vias := upFrom (1 + v.down.length + v.env.length) v.vias.length }
set_option maxHeartbeats 1000000 in
theorem markVerdict_at {v : Vd} {q1 q2 q3 : V} (hv : VdFew v) (h : VdAt σ v q1 q2 q3) (a12 : Ap q1 q2) (a13 : Ap q1 q3) (a23 : Ap q2 q3) :
  ACalls Tryz.prog Γ 34 [.agg [.bool v.holds, .int .i64 v.states, q1, q2, q3, .int .i64 v.port], .int .i64 1] σ fun r s => r = .int .i64 (1 + v.down.length + v.env.length + v.vias.length) ∧ VdAt s (markVd v) q1 q2 q3 ∧ ∀ b, Off [q1, q2, q3] b → s b = σ b := by
 have l1 := hv.down
 have l2 := hv.env
 have l3 := hv.vias
 refine acalls_W c34_ok rfl ?_
 simp (disch := omega) only [c34, go_sem]
 refine SRun.boxR h.ones ?_
 intro b2 hb2
 have m1 : blk q1 ≠ some b2 := fun e => by have := h.1.has e; rw [hb2] at this; cases this
 have m2 : blk q2 ≠ some b2 := fun e => by have := h.2.1.has e; rw [hb2] at this; cases this
 have m3 : blk q3 ≠ some b2 := fun e => by have := h.2.2.has e; rw [hb2] at this; cases this
 have h' := h.mono (le_upd (cs := [V.bool v.holds, .int .i64 v.states, q1, q2, q3, .int .i64 v.port]) hb2)
 have g2 := upd_same σ b2 [V.bool v.holds, .int .i64 v.states, q1, q2, q3, .int .i64 v.port]
 have fr : ∀ b, b ≠ b2 → upd σ b2 [V.bool v.holds, .int .i64 v.states, q1, q2, q3, .int .i64 v.port] b = σ b := fun b hb => upd_ne _ _ hb
 simp (disch := omega) only [go_sem]
 generalize upd σ b2 [V.bool v.holds, .int .i64 v.states, q1, q2, q3, .int .i64 v.port] = s0 at *
 refine SRun.callQ (markBoolS_at h'.1 l1 (by omega)) ⟨[], rfl, rfl⟩ rfl ?_
 rintro r s1 ⟨rfl, e1⟩
 have g2a : s1 b2 = some [V.bool v.holds, .int .i64 v.states, q1, q2, q3, .int .i64 v.port] := by rw [e1, wrt_ne m1]; exact g2
 have x1 : At s1 1 (bools (markB 1 v.down.length)) q1 := by
  have h := h'.1.wrt (ys := bools (markB 1 v.down.length)) (by rw [bools_len, bools_len, markB_len]) (bools_okB _)
  rw [flat_boolsB] at h
  rw [e1]; exact h
 have x2 : At s1 1 (ints v.env) q2 := h'.2.1.to fun b hb => by rw [e1]; exact wrt_ne (a12.symm b hb)
 have x3 : At s1 1 (ints v.vias) q3 := h'.2.2.to fun b hb => by rw [e1]; exact wrt_ne (a13.symm b hb)
 simp (disch := omega) only [g2a, go_sem]
 refine SRun.callQ (markIntS_at x2 l2 (by omega)) ⟨[], rfl, rfl⟩ rfl ?_
 rintro r s2 ⟨rfl, e2⟩
 have g2b : s2 b2 = some [V.bool v.holds, .int .i64 v.states, q1, q2, q3, .int .i64 v.port] := by rw [e2, wrt_ne m2]; exact g2a
 have y1 := x1.to (s := s2) fun b hb => by rw [e2]; exact wrt_ne (a12 b hb)
 have y2 : At s2 1 (ints (upFrom (1 + v.down.length) v.env.length)) q2 := by
  have h := x2.wrt (ys := ints (upFrom (1 + v.down.length) v.env.length)) (by rw [ints_len, ints_len, upFrom_len]) (ints_ok _)
  rw [flat_ints] at h
  rw [e2]; exact h
 have y3 := x3.to (s := s2) fun b hb => by rw [e2]; exact wrt_ne (a23.symm b hb)
 simp (disch := omega) only [g2b, go_sem]
 refine SRun.callQ (markIntS_at y3 l3 (by omega)) ⟨[], rfl, rfl⟩ rfl ?_
 rintro r s3 ⟨rfl, e3⟩
 have z1 := y1.to (s := s3) fun b hb => by rw [e3]; exact wrt_ne (a13 b hb)
 have z2 := y2.to (s := s3) fun b hb => by rw [e3]; exact wrt_ne (a23 b hb)
 have z3 : At s3 1 (ints (upFrom (1 + v.down.length + v.env.length) v.vias.length)) q3 := by
  have h := y3.wrt (ys := ints (upFrom (1 + v.down.length + v.env.length) v.vias.length)) (by rw [ints_len, ints_len, upFrom_len]) (ints_ok _)
  rw [flat_ints] at h
  rw [e3]; exact h
 have fr3 : ∀ b, Off [q1, q2, q3] b → b ≠ b2 → s3 b = σ b := fun b hb he => by
  have o1 := hb q1 (by simp)
  have o2 := hb q2 (by simp)
  have o3 := hb q3 (by simp)
  rw [e3, wrt_ne o3, e2, wrt_ne o2, e1, wrt_ne o1]; exact fr b he
 clear e1 e2 e3
 have hdel : ∀ q, blk q ≠ some b2 → ∀ b, blk q = some b → del s3 b2 b = s3 b := fun q hq b hb => del_ne _ (fun e => hq (by rw [← e]; exact hb))
 simp (disch := omega) only [go_sem]
 refine W_retC c34_ok rfl (σ' := del s3 b2) (Conv.drop _ fun d x hd => ?_) ⟨rfl, ⟨z1.to (hdel q1 m1), z2.to (hdel q2 m2), z3.to (hdel q3 m3)⟩, fun b hb => ?_⟩
 ·by_cases e : d = b2
  ·subst e; rw [del_same] at hd; cases hd
  ·rwa [del_ne _ e] at hd
 ·by_cases e : b = b2
  ·subst e; rw [del_same, hb2]
  ·rw [del_ne _ e]; exact fr3 b hb e
theorem heldVerdict_ok {v : Vd} (h : VdFew v) : Ret Tryz.prog Γ 35 [vdV (markVd v), .int .i64 1] σ (.int .i64 (1 + v.down.length + v.env.length + v.vias.length)) σ := by
 have l1 := h.down
 have l2 := h.env
 have l3 := h.vias
 have p2 : (vdC (markVd v))[2]? = some (.isl false 1 (bools (markB 1 v.down.length))) := rfl
 have p3 : (vdC (markVd v))[3]? = some (.isl false 1 (ints (upFrom (1 + v.down.length) v.env.length))) := rfl
 have p4 : (vdC (markVd v))[4]? = some (.isl false 1 (ints (upFrom (1 + v.down.length + v.env.length) v.vias.length))) := rfl
 refine ret_of c35_ok rfl ?_
 simp (disch := omega) only [c35, vdV, go_sem]
 refine SRun.boxR (vd_one _) ?_
 intro b2 hb2
 have g2 := upd_same σ b2 (vdC (markVd v))
 have hσ : ∀ d y, σ d = some y → upd σ b2 (vdC (markVd v)) d = some y := le_upd hb2
 simp (disch := omega) only [go_sem]
 generalize upd σ b2 (vdC (markVd v)) = s1 at *
 simp (disch := omega) only [g2, p2, go_sem]
 refine SRun.callR (heldBoolS_ok l1 (by omega)) ⟨[], rfl, rfl⟩ rfl ?_
 simp (disch := omega) only [g2, p3, go_sem]
 refine SRun.callR (heldIntS_ok l2 (by omega)) ⟨[], rfl, rfl⟩ rfl ?_
 simp (disch := omega) only [g2, p4, go_sem]
 refine SRun.callR (heldIntS_ok l3 (by omega)) ⟨[], rfl, rfl⟩ rfl ?_
 simp (disch := omega) only [go_sem]
 exact W_retC c35_ok rfl (Conv.drop _ hσ) ⟨rfl, rfl⟩
end
section
attribute [local irreducible] SRun DS DRun
variable {Γ : St} {σ σ0 : St}
theorem cup_some_r {s t : St} (hd : disj s t) {b : Nat} {c : List V} (h : t b = some c) : cup s t b = some c := by
 have : s b = none := (hd b).resolve_right (by rw [h]; simp)
 simp [cup, this, h]
theorem none_cup {s : St} {b : Nat} {z : List V} (h : disj s (upd emp b z)) : s b = none := (h b).resolve_right (by rw [upd_same]; simp)
theorem cup_new_at {s : St} {b : Nat} {z : List V} (h : s b = none) : cup s (upd emp b z) b = some z := by simp [cup, h, upd_same]
theorem cup_new_upd {s : St} {b : Nat} {z c : List V} : upd (cup s (upd emp b z)) b c = upd s b c := by
 funext d
 by_cases e : d = b
 ·subst e; rw [upd_same, upd_same]
 ·rw [upd_ne _ _ e, upd_ne _ _ e]
  unfold cup
  rw [upd_ne _ _ e]
  cases s d <;> rfl
theorem NetAt.ats {n : Net} {qs : List V} {s : St} (h : NetAt σ0 n qs s) : ∀ m ∈ qs, ∃ es xs, At s es xs m := by
 obtain ⟨q0, q1, q2, q3, q4, q5, rfl, _, _, a0, a1, a2, a3, a4, a5⟩ := h
 intro m hm
 simp only [List.mem_cons, List.not_mem_nil, or_false] at hm
 rcases hm with rfl | rfl | rfl | rfl | rfl | rfl
 ·exact ⟨_, _, a0⟩
 ·exact ⟨_, _, a1⟩
 ·exact ⟨_, _, a2⟩
 ·exact ⟨_, _, a3⟩
 ·exact ⟨_, _, a4⟩
 ·exact ⟨_, _, a5⟩
theorem Rooms.shape {n : Net} {qs : List V} {s : St} (h : Rooms σ n qs) (hs : Shape σ s) : Rooms s n qs := by
 obtain ⟨q0, q1, q2, q3, q4, q5, rfl, r0, r1, r2, r3, r4, r5⟩ := h
 exact ⟨q0, q1, q2, q3, q4, q5, rfl, r0.shape hs, r1.shape hs, r2.shape hs, r3.shape hs, r4.shape hs, r5.shape hs⟩
theorem Shape.le {s t : St} (h : ∀ b c, s b = some c → t b = some c) : Shape s t := fun b c hb => ⟨c, h b c hb, rfl⟩
theorem g0_fin {v : Vd} {q1 q2 q3 : V} {sv L S : St} {b11 : Nat} {R : Prop} (hva : VdAt sv v q1 q2 q3) (ap1 : Ap q1 q2) (ap2 : Ap q1 q3) (ap3 : Ap q2 q3) (hb : sv b11 = none) (hd : disj L S) (hL : L = upd sv b11 [V.bool v.holds, .int .i64 v.states, q1, q2, q3, .int .i64 v.port]) (hR : R) :
  L b11 = some [V.bool v.holds, .int .i64 v.states, q1, q2, q3, .int .i64 v.port] ∧ VdAt L v q1 q2 q3 ∧ (Ap q1 q2 ∧ Ap q1 q3 ∧ Ap q2 q3) ∧ Off [q1, q2, q3] b11 ∧ disj L S ∧ R := by
 subst hL
 refine ⟨upd_same _ _ _, hva.mono (le_upd hb), ⟨ap1, ap2, ap3⟩, fun q hq e => ?_, hd, hR⟩
 simp only [List.mem_cons, List.not_mem_nil, or_false] at hq
 rcases hq with rfl | rfl | rfl
 ·have := hva.1.has e; rw [hb] at this; cases this
 ·have := hva.2.1.has e; rw [hb] at this; cases this
 ·have := hva.2.2.has e; rw [hb] at this; cases this
theorem PropertyOKs_any {n : Net} (hn : NetLen n) {kd f p w : Int} : Ret Tryz.prog Γ 42 [netV n, .agg (propC kd f p w)] σ (.bool (propB n kd f p w)) σ := by
 have hlen : (netC n).take 6 = netC n := rfl
 have hlen2 : (netC n).length = 6 := rfl
 have hr1 := hn.routers
 have e0 : (netC n)[0]? = some (.isl false 1 (strsV n.routers)) := rfl
 have hin : ∀ a b c, (decide (b ≤ a) && decide (a ≤ c)) = inB a b c := fun _ _ _ => rfl
 have hrt : ∀ x : Int, (decide (0 ≤ x) && decide (x ≤ (n.routers.length : Int) - 1)) = routerB n.routers.length x := fun _ => rfl
 refine ret_of c42_ok rfl ?_
 simp (disch := omega) only [c42, netV, go_sem]
 refine SRun.boxR (net_one n) ?_
 intro b1 hb1
 have g1 := upd_same σ b1 (netC n)
 have hσ : ∀ d y, σ d = some y → upd σ b1 (netC n) d = some y := le_upd hb1
 simp (disch := omega) only [go_sem]
 generalize upd σ b1 (netC n) = s1 at *
 refine SRun.boxR (prop_one kd f p w) ?_
 intro b2 hb2
 have f1 := le_upd (cs := propC kd f p w) hb2 _ _ g1
 have f2 := upd_same s1 b2 (propC kd f p w)
 have hσ2 : ∀ d y, σ d = some y → upd s1 b2 (propC kd f p w) d = some y := fun d y h => le_upd hb2 _ _ (hσ d y h)
 have p0 : (propC kd f p w)[0]? = some (.int .i64 kd) := rfl
 have p1 : (propC kd f p w)[1]? = some (.int .i64 f) := rfl
 have p2 : (propC kd f p w)[2]? = some (.int .i64 p) := rfl
 have p3 : (propC kd f p w)[3]? = some (.int .i64 w) := rfl
 simp (disch := omega) only [go_sem]
 generalize upd s1 b2 (propC kd f p w) = s2 at *
 simp (disch := omega) only [f1, hlen, hlen2, go_sem]
 refine SRun.callR (NetOK_ok hn) ⟨[], rfl, rfl⟩ rfl ?_
 have hd1 : propB n kd f p w = (netB n && inB kd 1 4 && routerB n.routers.length f && inB p (-1) 15 && (if kd = 3 then routerB n.routers.length w else decide (w = 0))) := rfl
 generalize netB n = q1 at *
 cases q1
 ·simp (disch := omega) only [go_sem]
  exact W_retC c42_ok rfl (Conv.drop _ hσ2) ⟨by rw [hd1]; simp [look], rfl⟩
 simp (disch := omega) only [f2, p0, go_sem]
 refine SRun.callR (l01In_ok _ _ _) ⟨[], rfl, rfl⟩ rfl ?_
 rw [hin]
 generalize inB kd 1 4 = q2 at *
 cases q2
 ·simp (disch := omega) only [go_sem]
  exact W_retC c42_ok rfl (Conv.drop _ hσ2) ⟨by rw [hd1]; simp [look], rfl⟩
 simp (disch := omega) only [f1, f2, p1, e0, hlen, hlen2, go_sem]
 refine SRun.callR (l01In_ok _ _ _) ⟨[], rfl, rfl⟩ rfl ?_
 rw [hrt]
 generalize routerB n.routers.length f = q3 at *
 cases q3
 ·simp (disch := omega) only [go_sem]
  exact W_retC c42_ok rfl (Conv.drop _ hσ2) ⟨by rw [hd1]; simp [look], rfl⟩
 simp (disch := omega) only [f2, p2, go_sem]
 refine SRun.callR (l01In_ok _ _ _) ⟨[], rfl, rfl⟩ rfl ?_
 rw [hin]
 generalize inB p (-1) 15 = q4 at *
 cases q4
 ·simp (disch := omega) only [go_sem]
  exact W_retC c42_ok rfl (Conv.drop _ hσ2) ⟨by rw [hd1]; simp [look], rfl⟩
 simp (disch := omega) only [f2, p0, go_sem]
 first | refine iteW_dec (fun h3 => ?_) (fun h3 => ?_) | refine iteW_of (fun h3 => ?_) (fun h3 => ?_)
 ·simp (disch := omega) only [f1, f2, p3, e0, hlen, hlen2, go_sem]
  refine SRun.callR (l01In_ok _ _ _) ⟨[], rfl, rfl⟩ rfl ?_
  rw [hrt]
  simp (disch := omega) only [go_sem]
  exact W_retC c42_ok rfl (Conv.drop _ hσ2) ⟨by rw [hd1, if_pos h3]; simp [look], rfl⟩
 ·simp (disch := omega) only [f2, p3, go_sem]
  exact W_retC c42_ok rfl (Conv.drop _ hσ2) ⟨by rw [hd1, if_neg h3]; simp [look], rfl⟩
theorem toProperty_ok {k f p w : Int} : Ret Tryz.prog Γ 32 [.agg (propC k f p w)] σ (.agg (propC k f p w)) σ := by
 have hone : ∀ c ∈ (V.agg (propC k f p w)).cells, c.one = true := by simp [propC, V.cells, V.one]
 refine ret_of c32_ok rfl ?_
 simp (disch := omega) only [c32, go_sem]
 refine SRun.boxR hone ?_
 intro b1 hb1
 have g1 := upd_same σ b1 (propC k f p w)
 have hσ : ∀ d y, σ d = some y → upd σ b1 (propC k f p w) d = some y := le_upd hb1
 simp (disch := omega) only [go_sem]
 generalize upd σ b1 (propC k f p w) = s1 at *
 refine SRun.allocR ?_
 intro b2 hb2
 have g1' := le_upd (cs := [.int .i64 0, .int .i64 0, .int .i64 0, .int .i64 0]) hb2 _ _ g1
 have g2 := upd_same s1 b2 [.int .i64 0, .int .i64 0, .int .i64 0, .int .i64 0]
 have hσ2 : ∀ d y, σ d = some y → upd s1 b2 [.int .i64 0, .int .i64 0, .int .i64 0, .int .i64 0] d = some y := fun d y h => le_upd hb2 _ _ (hσ d y h)
 simp (disch := omega) only [go_sem]
 generalize upd s1 b2 [.int .i64 0, .int .i64 0, .int .i64 0, .int .i64 0] = s2 at *
 refine SRun.allocR ?_
 intro b3 hb3
 have n31 : b3 ≠ b1 := fun e => by subst e; rw [g1'] at hb3; cases hb3
 have n32 : b3 ≠ b2 := fun e => by subst e; rw [g2] at hb3; cases hb3
 have f1 : ∀ c, upd s2 b3 c b1 = some (propC k f p w) := fun c => by rw [upd_ne _ _ n31.symm]; exact g1'
 have f2 : ∀ c, upd s2 b3 c b2 = some [.int .i64 0, .int .i64 0, .int .i64 0, .int .i64 0] := fun c => by rw [upd_ne _ _ n32.symm]; exact g2
 simp (disch := omega) only [f1, f2, propC, go_sem]
 refine W_retC c32_ok (resV_cellA rfl (upd_same _ _ _) rfl) (Conv.drop _ fun d y hd => ?_) ⟨rfl, rfl⟩
 have hd2 : d ≠ b2 := fun e => by subst e; rw [hσ d y hd] at hb2; cases hb2
 have hd3 : d ≠ b3 := fun e => by subst e; rw [hσ2 d y hd] at hb3; cases hb3
 rw [upd_ne _ _ hd2, upd_ne _ _ hd3]
 exact hσ2 d y hd
theorem noVd_frz {s s' : St} : Frz s s' (.agg [V.bool false, .int .i64 0, .isl true 0 [], .isl true 0 [], .isl true 0 [], .int .i64 0]) (vdV noVd) := frz_agg (by exact ⟨.refl _, .refl _, .isl0 _ _ _ _ (fun h => by cases h), .isl0 _ _ _ _ (fun h => by cases h), .isl0 _ _ _ _ (fun h => by cases h), .refl _, trivial⟩) (vd_one _)
theorem Verifys_any {n : Net} {kd f p w k : Int} (hN : NetLen n) : Ret Tryz.prog Γ 10 [netV n, .agg (propC kd f p w), .int .i64 k] σ (.tup [vdV (verA n kd f p w k), .int .i64 (verCode n kd f p w k)]) σ := by
 have hc : verCode n kd f p w k = if propB n kd f p w = false then 1 else if inB k 0 2 = false then 5 else 0 := rfl
 have hA : verA n kd f p w k = if verCode n kd f p w k = 0 then verP n (failP n kd f p w) k.toNat else noVd := rfl
 by_cases hall : propB n kd f p w = true ∧ inB k 0 2 = true
 ·obtain ⟨hP, hk⟩ := hall
  rw [if_neg (by rw [hP]; simp), if_neg (by rw [hk]; simp)] at hc
  rw [if_pos hc] at hA
  have hk2 := hk
  simp only [inB, Bool.and_eq_true, decide_eq_true_eq] at hk2
  obtain ⟨kn, rfl⟩ : ∃ m : Nat, k = m := ⟨k.toNat, by omega⟩
  rw [Int.toNat_natCast] at hA
  rw [hA, hc]
  exact Verifys_ok hN hP (by omega)
 have hlen : (netC n).take 6 = netC n := rfl
 have hlen2 : (netC n).length = 6 := rfl
 have hpt : (propC kd f p w).take 4 = propC kd f p w := rfl
 have hpl4 : (propC kd f p w).length = 4 := rfl
 have hin : ∀ a b c, (decide (b ≤ a) && decide (a ≤ c)) = inB a b c := fun _ _ _ => rfl
 refine ret_of c10_ok rfl ?_
 simp (disch := omega) only [c10, netV, go_sem]
 refine SRun.boxR (net_one n) ?_
 intro b3 hb3
 simp (disch := omega) only [go_sem]
 refine SRun.boxR (prop_one kd f p w) ?_
 intro b4 hb4
 have n4 := upd_none.1 hb4
 have g4 := upd_same (upd σ b3 (netC n)) b4 (propC kd f p w)
 have g3 : upd (upd σ b3 (netC n)) b4 (propC kd f p w) b3 = some (netC n) := by rw [upd_ne _ _ n4.1.symm, upd_same]
 have hσ := le_two hb3 n4.2 (netC n) (propC kd f p w)
 simp (disch := omega) only [go_sem]
 generalize upd (upd σ b3 (netC n)) b4 (propC kd f p w) = s1 at *
 refine SRun.allocR ?_
 intro b6 hb6
 have g6 := fun z => upd_same s1 b6 z
 have g36 : ∀ z, upd s1 b6 z b3 = some (netC n) := fun z => le_upd hb6 _ _ g3
 have g46 : ∀ z, upd s1 b6 z b4 = some (propC kd f p w) := fun z => le_upd hb6 _ _ g4
 have hσ6 : ∀ z d x, σ d = some x → upd s1 b6 z d = some x := fun z d x h => le_upd hb6 _ _ (hσ _ _ h)
 have bad : ∀ c : Int, verCode n kd f p w k = c → c ≠ 0 → ∀ z, Conv (upd s1 b6 z) (.tup [.agg [V.bool false, .int .i64 0, .isl true 0 [], .isl true 0 [], .isl true 0 [], .int .i64 0], .int .i64 c]) σ (.tup [vdV (verA n kd f p w k), .int .i64 (verCode n kd f p w k)]) := fun c h1 h2 z => by
  rw [if_neg (by rw [h1]; exact h2)] at hA
  rw [hA, h1]
  exact ⟨hσ6 z, frz_tup (by exact ⟨noVd_frz, .refl _, trivial⟩)⟩
 simp (disch := omega) only [g36, g46, hlen, hlen2, hpt, hpl4, go_sem]
 refine SRun.callR (PropertyOKs_any hN) ⟨[], rfl, rfl⟩ rfl ?_
 cases hP : propB n kd f p w with
 | false =>
  rw [if_pos hP] at hc
  simp (disch := omega) only [g6, go_sem]
  exact W_retC c10_ok (r := .tup [.agg [V.bool false, .int .i64 0, .isl true 0 [], .isl true 0 [], .isl true 0 [], .int .i64 0], .int .i64 1]) (σ' := σ) (resV_cellT rfl (upd_same _ _ _) rfl rfl) (bad 1 hc (by decide) _) ⟨rfl, rfl⟩
 | true =>
  rw [if_neg (by rw [hP]; simp)] at hc
  simp (disch := omega) only [go_sem]
  refine SRun.callR (l01In_ok k 0 2) ⟨[], rfl, rfl⟩ rfl ?_
  rw [hin]
  cases hk : inB k 0 2 with
  | false =>
   rw [if_pos hk] at hc
   simp (disch := omega) only [g6, go_sem]
   exact W_retC c10_ok (r := .tup [.agg [V.bool false, .int .i64 0, .isl true 0 [], .isl true 0 [], .isl true 0 [], .int .i64 0], .int .i64 5]) (σ' := σ) (resV_cellT rfl (upd_same _ _ _) rfl rfl) (bad 5 hc (by decide) _) ⟨rfl, rfl⟩
  | true => exact absurd ⟨hP, hk⟩ hall
theorem ver_few {n : Net} {kd f p w k : Int} : VdFew (verA n kd f p w k) := by
 unfold verA
 split
 ·rename_i h
  have hP : propB n kd f p w = true := by
   cases e : propB n kd f p w with
   | true => rfl
   | false => unfold verCode at h; rw [if_pos e] at h; omega
  have hB : netB n = true := by unfold propB at hP; simp only [Bool.and_eq_true] at hP; exact hP.1.1.1.1
  have hn := netR_of hB
  have r4 := hn.r4
  have l6 := hn.l6
  have x2 := hn.x2
  have key : ∀ (l : List (List Bool × List Int × List Rt)) (c : Int), (∀ x ∈ l, x.1.length ≤ 6 ∧ x.2.1.length ≤ 2 ∧ x.2.2.length ≤ 4) → (verGo (failP n kd f p w) l c).down.length ≤ 6 ∧ (verGo (failP n kd f p w) l c).env.length ≤ 2 ∧ (verGo (failP n kd f p w) l c).vias.length ≤ 4 := by
   intro l
   induction l with
   | nil => intro c _; exact ⟨Nat.zero_le _, Nat.zero_le _, Nat.zero_le _⟩
   | cons x l ih =>
    obtain ⟨d, e, rs⟩ := x
    intro c h
    have h1 := h _ (List.mem_cons_self ..)
    cases hf : failP n kd f p w rs with
    | some port => rw [verGo_some hf]; exact ⟨h1.1, h1.2.1, by simpa using h1.2.2⟩
    | none => rw [verGo_none hf]; exact ih _ fun x hx => h x (List.mem_cons_of_mem _ hx)
  have h3 := key (itemsP n (downsP n.links.length k.toNat)) 0 fun x hx => by
   simp only [itemsP, List.mem_flatMap, List.mem_map] at hx
   obtain ⟨d, hd, e, he, rs, hr, rfl⟩ := hx
   have h1 := downs_len hd
   have h2 := (envs_fine he).1
   have h3 := (statesP_fine hn hr).len
   exact ⟨by simp only; omega, by simp only; omega, by simp only; omega⟩
  unfold verP
  exact ⟨by omega, by omega, by omega⟩
 ·exact ⟨Nat.zero_le _, Nat.zero_le _, Nat.zero_le _⟩
set_option maxHeartbeats 4000000 in
set_option maxRecDepth 100000 in
theorem fnExactVerify_ok {n : Net} {kd f p w k : Int} (hn : NetIn n) : Ret Tryz.prog Γ 5 [netV n, .agg (propC kd f p w), .int .i64 k] σ (.bool true) σ := by
 have hlen : (netC n).take 6 = netC n := rfl
 have hlen2 : (netC n).length = 6 := rfl
 have hpt : (propC kd f p w).take 4 = propC kd f p w := rfl
 have hpl4 : (propC kd f p w).length = 4 := rfl
 have hvl : ∀ v, (vdC v).length = 6 := fun _ => rfl
 have hvt : ∀ v, (vdC v).take 6 = vdC v := fun _ => rfl
 have hvo : ∀ v, (∀ c, c ∈ vdC v → c.one = true) = True := fun v => eq_true (vd_one v)
 have hvs : ∀ v, sets [V.bool false, .int .i64 0, .isl true 0 [], .isl true 0 [], .isl true 0 [], .int .i64 0] 0 (vdC v) = vdC v := fun _ => rfl
 have hvv : ∀ v, vdV v = .agg (vdC v) := fun _ => rfl
 refine ret_of c5_ok rfl ?_
 simp (disch := omega) only [c5, netV, go_sem]
 refine SRun.boxR (net_one n) ?_
 intro b3 hb3
 have g3 := upd_same σ b3 (netC n)
 have hσ : ∀ d y, σ d = some y → upd σ b3 (netC n) d = some y := le_upd hb3
 simp (disch := omega) only [go_sem]
 generalize upd σ b3 (netC n) = s1 at *
 refine SRun.boxR (prop_one kd f p w) ?_
 intro b4 hb4
 have g3a := le_upd (cs := propC kd f p w) hb4 _ _ g3
 have g4 := upd_same s1 b4 (propC kd f p w)
 have hσ1 : ∀ d y, σ d = some y → upd s1 b4 (propC kd f p w) d = some y := fun d y h => le_upd hb4 _ _ (hσ d y h)
 simp (disch := omega) only [go_sem]
 generalize upd s1 b4 (propC kd f p w) = s2 at *
 simp (disch := omega) only [g3a, hlen, hlen2, go_sem]
 refine SRun.callQ (szNet_ok hn ⟨by omega, by omega⟩) ⟨[], rfl, rfl⟩ rfl ?_
 rintro r s ⟨hs, x1, rfl, h2, h2', k1⟩
 obtain rfl := hs.symm
 simp (disch := omega) only [go_sem]
 first | refine iteW_dec (fun q1 => ?_) (fun q1 => ?_) | refine iteW_of (fun q1 => ?_) (fun q1 => ?_)
 ·simp (disch := omega) only [go_sem]
  exact W_retC c5_ok rfl (Conv.drop _ hσ1) ⟨rfl, rfl⟩
 have hf := k1 (by omega)
 have hN := hf.len
 have F1 := fun Γ σ => Verifys_any (Γ := Γ) (σ := σ) (n := n) (kd := kd) (f := f) (p := p) (w := w) (k := k) hN
 have F2 := fun Γ σ => Verify_ok (Γ := Γ) (σ := σ) (n := n) (kd := kd) (f := f) (p := p) (w := w) (k := k) hN
 have F3 := fun Γ => Verify_own (Γ := Γ) (σ := emp) (n := n) (kd := kd) (f := f) (p := p) (w := w) (k := k) hN
 have hfew : VdFew (verA n kd f p w k) := ver_few
 generalize verA n kd f p w k = v at *
 generalize verCode n kd f p w k = code at *
 have hcc : (decide ¬ code = code) = false := by simp
 have TN := fun Γ σ => toNet_ok (Γ := Γ) (σ := σ) hf
 have TP := fun Γ σ => toProperty_ok (Γ := Γ) (σ := σ) (k := kd) (f := f) (p := p) (w := w)
 simp (disch := omega) only [go_sem]
 rw [W_draw]
 refine DRun.start (DRun.mixNR (fun T s' => ∃ b8, s2 b8 = none ∧ s' = upd emp b8 (vdC v) ∧ look T 2 = .int .i64 k ∧ look T 3 = .ptr b3 0 ∧ look T 4 = .ptr b4 0 ∧ look T 8 = .ptr b8 0 ∧ look T 31 = .int .i64 code) rfl ?_ ?_)
 ·simp (disch := omega) only [g3a, g4, hlen, hlen2, hpt, hpl4, go_sem]
  refine DS.wr2 (WrF.call (TN _ _) ⟨[], rfl, rfl⟩) rfl ?_ ?_
  ·rintro r sx ⟨rfl, hs'⟩ hd
   obtain rfl := hs'.symm
   simp (disch := omega) only [go_sem]
   refine DS.wr2 (WrF.call (TP _ _) ⟨[], rfl, rfl⟩) rfl ?_ ?_
   ·rintro r sx ⟨rfl, hs'⟩ hd
    obtain rfl := hs'.symm
    simp (disch := omega) only [go_sem]
    refine DS.wr2 (WrF.call (F1 _ _) ⟨[], rfl, rfl⟩) rfl ?_ ?_
    ·rintro r sx ⟨rfl, hs'⟩ hd
     obtain rfl := hs'.symm
     rw [hvv]
     simp (disch := omega) only [go_sem]
     refine DS.wrQ WrF.alloc rfl ?_
     rintro _ s3 ⟨b8, hb8, rfl, rfl⟩ hd2
     simp (disch := omega) only [go_sem]
     refine DS.wrQ (WrF.store rfl (upd_same _ b8 _) rfl (vd_one _) (by simp)) rfl ?_
     rintro _ s4 ⟨_, rfl⟩ hd3
     rw [upd_upd]
     refine ⟨b8, disj_new hd2, rfl, ?_⟩
     (repeat' apply And.intro) <;> first | rfl | assumption
    ·refine DS.wrQ WrF.alloc rfl ?_
     rintro _ s3 ⟨b8, hb8, rfl, rfl⟩ hd2
     simp (disch := omega) only [go_sem]
     refine DS.wrQ (WrF.call (F1 _ _) ⟨[], rfl, rfl⟩) rfl ?_
     rintro r sx ⟨rfl, hs'⟩ hd
     obtain rfl := hs'.symm
     rw [hvv]
     simp (disch := omega) only [go_sem]
     refine DS.wrQ (WrF.store rfl (upd_same _ b8 _) rfl (vd_one _) (by simp)) rfl ?_
     rintro _ s4 ⟨_, rfl⟩ hd3
     rw [upd_upd]
     refine ⟨b8, disj_new hd2, rfl, ?_⟩
     (repeat' apply And.intro) <;> first | rfl | assumption
   ·refine DS.wrQ WrF.alloc rfl ?_
    rintro _ s3 ⟨b8, hb8, rfl, rfl⟩ hd2
    simp (disch := omega) only [go_sem]
    refine DS.wrQ (WrF.call (TP _ _) ⟨[], rfl, rfl⟩) rfl ?_
    rintro r sx ⟨rfl, hs'⟩ hd
    obtain rfl := hs'.symm
    simp (disch := omega) only [go_sem]
    refine DS.wrQ (WrF.call (F1 _ _) ⟨[], rfl, rfl⟩) rfl ?_
    rintro r sx ⟨rfl, hs'⟩ hd
    obtain rfl := hs'.symm
    rw [hvv]
    simp (disch := omega) only [go_sem]
    refine DS.wrQ (WrF.store rfl (upd_same _ b8 _) rfl (vd_one _) (by simp)) rfl ?_
    rintro _ s4 ⟨_, rfl⟩ hd3
    rw [upd_upd]
    refine ⟨b8, disj_new hd2, rfl, ?_⟩
    (repeat' apply And.intro) <;> first | rfl | assumption
  ·refine DS.wrQ WrF.alloc rfl ?_
   rintro _ s3 ⟨b8, hb8, rfl, rfl⟩ hd2
   simp (disch := omega) only [go_sem]
   refine DS.wrQ (WrF.call (TN _ _) ⟨[], rfl, rfl⟩) rfl ?_
   rintro r sx ⟨rfl, hs'⟩ hd
   obtain rfl := hs'.symm
   simp (disch := omega) only [go_sem]
   refine DS.wrQ (WrF.call (TP _ _) ⟨[], rfl, rfl⟩) rfl ?_
   rintro r sx ⟨rfl, hs'⟩ hd
   obtain rfl := hs'.symm
   simp (disch := omega) only [go_sem]
   refine DS.wrQ (WrF.call (F1 _ _) ⟨[], rfl, rfl⟩) rfl ?_
   rintro r sx ⟨rfl, hs'⟩ hd
   obtain rfl := hs'.symm
   rw [hvv]
   simp (disch := omega) only [go_sem]
   refine DS.wrQ (WrF.store rfl (upd_same _ b8 _) rfl (vd_one _) (by simp)) rfl ?_
   rintro _ s4 ⟨_, rfl⟩ hd3
   rw [upd_upd]
   refine ⟨b8, disj_new hd2, rfl, ?_⟩
   (repeat' apply And.intro) <;> first | rfl | assumption
 rintro T sx ⟨b8, hb8, rfl, t2, t3, t4, t8, t31⟩
 rw [cup_new]
 have g3b := le_upd (cs := vdC v) hb8 _ _ g3a
 have g4b := le_upd (cs := vdC v) hb8 _ _ g4
 have g8 := upd_same s2 b8 (vdC v)
 have hσ2 : ∀ d y, σ d = some y → upd s2 b8 (vdC v) d = some y := fun d y h => le_upd hb8 _ _ (hσ1 d y h)
 generalize upd s2 b8 (vdC v) = s3 at *
 simp (disch := omega) only [t31, t3, g3b, hlen, hlen2, go_sem]
 refine SRun.callQ (toNet_own hf) ⟨[], rfl, rfl⟩ rfl ?_
 rintro r s4 ⟨qs, rfl, ha⟩
 have hqs := ha.one
 have hfr : ∀ q ∈ qs, ∀ b, blk q = some b → s3 b = none := by obtain ⟨_, _, _, _, _, _, _, _, h, _⟩ := ha; exact h
 have hle4 : ∀ b c, s3 b = some c → s4 b = some c := by obtain ⟨_, _, _, _, _, _, _, h, _⟩ := ha; exact h
 have hqone : (∀ c, c ∈ qs → c.one = true) = True := eq_true hqs.1
 have hqt : qs.take 6 = qs := List.take_of_length_le (by omega)
 have hql := hqs.2
 have hqset : sets [V.isl true 0 [], V.isl true 0 [], V.isl true 0 [], V.isl true 0 [], V.isl true 0 [], V.isl true 0 []] 0 qs = qs := by
  obtain ⟨_, _, _, _, _, _, rfl, _⟩ := ha; rfl
 simp (disch := omega) only [go_sem]
 refine SRun.allocR ?_
 intro b10 hb10
 simp (disch := omega) only [hql, hqone, hqset, go_sem]
 have g10 := upd_same s4 b10 qs
 have hle5 := le_upd (cs := qs) hb10
 have le35 : ∀ b c, s3 b = some c → upd s4 b10 qs b = some c := fun b c h => hle5 _ _ (hle4 _ _ h)
 have g4c := le35 _ _ g4b
 generalize upd s4 b10 qs = s5 at *
 have ha5 : Frz s5 emp (.agg qs) (netV n) := ha.lend.more hle5
 have hPl : ∀ r s, (∃ r', r = V.tup [r', .int .i64 code] ∧ OwnVd emp v r' s) → Plain r ∧ ∀ b cs, s b = some cs → ∀ c ∈ cs, Plain c := by
  rintro r s ⟨r', rfl, ho⟩
  obtain ⟨q1, q2, q3, rfl, _, _, _, _, ⟨pl1, pl2, pl3⟩, hcs⟩ := ho.at
  refine ⟨Plain.tup fun x hx => ?_, fun b cs hb c hc => ?_⟩
  ·simp only [List.mem_cons, List.not_mem_nil, or_false] at hx
   rcases hx with rfl | rfl
   ·refine Plain.agg fun x hx => ?_
    simp only [List.mem_cons, List.not_mem_nil, or_false] at hx
    rcases hx with rfl | rfl | rfl | rfl | rfl | rfl
    ·exact Plain.bool _
    ·exact Plain.int _ _
    ·exact pl1
    ·exact pl2
    ·exact pl3
    ·exact Plain.int _ _
   ·exact Plain.int _ _
  ·rcases hcs b cs hb with h | rfl | rfl | rfl
   ·cases h
   ·obtain ⟨y, _, rfl⟩ := List.mem_map.1 hc; exact Plain.bool _
   ·exact Plain.ints _ hc
   ·exact Plain.ints _ hc
 rw [W_draw]
 refine DRun.start (DRun.mixNR (fun T L => ∃ b11 q1 q2 q3, L b11 = some [V.bool v.holds, .int .i64 v.states, q1, q2, q3, .int .i64 v.port] ∧ VdAt L v q1 q2 q3 ∧ (Ap q1 q2 ∧ Ap q1 q3 ∧ Ap q2 q3) ∧ Off [q1, q2, q3] b11 ∧ disj L s5 ∧ look T 2 = .int .i64 k ∧ look T 3 = .ptr b3 0 ∧ look T 4 = .ptr b4 0 ∧ look T 8 = .ptr b8 0 ∧ look T 9 = .int .i64 code ∧ look T 10 = .ptr b10 0 ∧ look T 11 = .ptr b11 0 ∧ look T 41 = .int .i64 code) rfl ?_ ?_)
 ·simp (disch := omega) only [g10, g4c, hqt, hql, hpt, hpl4, t2, t3, t4, t8, go_sem]
  refine DS.wr2 (WrF.call (TP _ _) ⟨[], rfl, rfl⟩) rfl ?_ ?_
  ·rintro r sx ⟨rfl, hs'⟩ hd
   obtain rfl := hs'.symm
   simp (disch := omega) only [go_sem]
   refine DS.lend2 (F3 _) (fun hd0 => by exact ⟨ha5.more (fun b c h => cup_some_r hd0 h), .refl _, .refl _, trivial⟩) hPl ⟨[], rfl, rfl⟩ rfl ?_ ?_
   ·rintro r sv ⟨r', rfl, ho⟩ hdl hdr
    obtain ⟨q1, q2, q3, rfl, hva, ap1, ap2, ap3, _, _⟩ := ho.at
    simp (disch := omega) only [go_sem]
    rw [cup_emp]
    refine DS.wrQ WrF.alloc rfl ?_
    rintro _ s3 ⟨b11, hb11, rfl, rfl⟩ hd2
    simp (disch := omega) only [go_sem]
    refine DS.wrQ (WrF.store rfl (upd_same _ b11 _) rfl hva.ones (by simp)) rfl ?_
    rintro _ s4 ⟨_, rfl⟩ hd3
    rw [upd_upd] at hd3 ⊢
    generalize hLe : upd sv b11 _ = L at hd3 ⊢
    have hL : L = upd sv b11 [V.bool v.holds, .int .i64 v.states, q1, q2, q3, .int .i64 v.port] := hLe.symm
    refine ⟨b11, q1, q2, q3, ?_⟩
    refine g0_fin hva ap1 ap2 ap3 hb11 hd3 hL (by (repeat' apply And.intro) <;> first | rfl | assumption)
   ·refine DS.wrQ WrF.alloc rfl ?_
    rintro _ s3 ⟨b11, hb11, rfl, rfl⟩ hd2
    simp (disch := omega) only [go_sem]
    refine DS.lend2 (F3 _) (fun hd0 => by exact ⟨ha5.more (fun b c h => cup_some_r hd0 h), .refl _, .refl _, trivial⟩) hPl ⟨[], rfl, rfl⟩ rfl ?_ ?_
    ·rintro r sv ⟨r', rfl, ho⟩ hdl hdr
     obtain ⟨q1, q2, q3, rfl, hva, ap1, ap2, ap3, _, _⟩ := ho.at
     simp (disch := omega) only [go_sem]
     have hs11 : sv b11 = none := none_cup hdl
     refine DS.wrQ (WrF.store rfl (cup_new_at hs11) rfl hva.ones (by simp)) rfl ?_
     rintro _ s4 ⟨_, rfl⟩ hd3
     rw [cup_new_upd] at hd3 ⊢
     generalize hLe : upd sv b11 _ = L at hd3 ⊢
     have hL : L = upd sv b11 [V.bool v.holds, .int .i64 v.states, q1, q2, q3, .int .i64 v.port] := hLe.symm
     refine ⟨b11, q1, q2, q3, ?_⟩
     refine g0_fin hva ap1 ap2 ap3 hs11 hd3 hL (by (repeat' apply And.intro) <;> first | rfl | assumption)
    ·exact DS.no
  ·refine DS.wrQ WrF.alloc rfl ?_
   rintro _ s3 ⟨b11, hb11, rfl, rfl⟩ hd2
   simp (disch := omega) only [go_sem]
   refine DS.wrQ (WrF.call (TP _ _) ⟨[], rfl, rfl⟩) rfl ?_
   rintro r sx ⟨rfl, hs'⟩ hd
   obtain rfl := hs'.symm
   simp (disch := omega) only [go_sem]
   refine DS.lend2 (F3 _) (fun hd0 => by exact ⟨ha5.more (fun b c h => cup_some_r hd0 h), .refl _, .refl _, trivial⟩) hPl ⟨[], rfl, rfl⟩ rfl ?_ ?_
   ·rintro r sv ⟨r', rfl, ho⟩ hdl hdr
    obtain ⟨q1, q2, q3, rfl, hva, ap1, ap2, ap3, _, _⟩ := ho.at
    simp (disch := omega) only [go_sem]
    have hs11 : sv b11 = none := none_cup hdl
    refine DS.wrQ (WrF.store rfl (cup_new_at hs11) rfl hva.ones (by simp)) rfl ?_
    rintro _ s4 ⟨_, rfl⟩ hd3
    rw [cup_new_upd] at hd3 ⊢
    generalize hLe : upd sv b11 _ = L at hd3 ⊢
    have hL : L = upd sv b11 [V.bool v.holds, .int .i64 v.states, q1, q2, q3, .int .i64 v.port] := hLe.symm
    refine ⟨b11, q1, q2, q3, ?_⟩
    refine g0_fin hva ap1 ap2 ap3 hs11 hd3 hL (by (repeat' apply And.intro) <;> first | rfl | assumption)
   ·exact DS.no
 clear t2 t3 t4 t8 t31 T
 rintro T L ⟨b11, q1, q2, q3, gL, vL, ⟨ap1, ap2, ap3⟩, off11, hdL, t2, t3, t4, t8, t9, t10, t11, t41⟩
 have hK : ∀ b, (σ b ≠ none ∨ b = b3 ∨ b = b4 ∨ b = b8) → s3 b ≠ none := fun b hb => by
  rcases hb with hb | rfl | rfl | rfl
  ·cases e : σ b with
   | none => exact absurd e hb
   | some c => rw [hσ2 _ _ e]; simp
  ·rw [g3b]; simp
  ·rw [g4b]; simp
  ·rw [g8]; simp
 have leS : ∀ b c, s5 b = some c → cup L s5 b = some c := fun b c h => cup_some_r hdL h
 have leL : ∀ b c, L b = some c → cup L s5 b = some c := fun b c h => cup_of_some h
 have le36 : ∀ b c, s3 b = some c → cup L s5 b = some c := fun b c h => leS _ _ (le35 _ _ h)
 have v6 := vL.mono leL
 have g11 := leL _ _ gL
 have hLn : ∀ b c, L b = some c → s5 b = none := fun b c h => (hdL b).resolve_left (by rw [h]; simp)
 have fq : ∀ q ∈ [q1, q2, q3], ∀ b, blk q = some b → s5 b = none := fun q hq b hb => by
  simp only [List.mem_cons, List.not_mem_nil, or_false] at hq
  rcases hq with rfl | rfl | rfl
  ·exact hLn _ _ (vL.1.has hb)
  ·exact hLn _ _ (vL.2.1.has hb)
  ·exact hLn _ _ (vL.2.2.has hb)
 have offN : ∀ m ∈ qs, ∀ b, ((σ b ≠ none ∨ b = b3 ∨ b = b4 ∨ b = b8) ∨ b = b11 ∨ ∃ q ∈ [q1, q2, q3], blk q = some b) → blk m ≠ some b := fun m hm b hb e => by
  obtain ⟨es, xs, hat⟩ := ha.ats m hm
  have hs5 := hle5 _ _ (hat.has e)
  rcases hb with hb | rfl | ⟨q, hq, hb⟩
  ·exact hK b hb (hfr m hm b e)
  ·rw [hLn _ _ gL] at hs5; cases hs5
  ·rw [fq q hq b hb] at hs5; cases hs5
 have offq : ∀ b, (σ b ≠ none ∨ b = b3 ∨ b = b4 ∨ b = b8 ∨ b = b11) → Off [q1, q2, q3] b := fun b hb q hq e => by
  by_cases e11 : b = b11
  ·subst e11; exact off11 q hq e
  ·have h5 := fq q hq b e
   have h3 : s3 b ≠ none := hK b (by
    rcases hb with h | h | h | h | h
    ·exact .inl h
    ·exact .inr (.inl h)
    ·exact .inr (.inr (.inl h))
    ·exact .inr (.inr (.inr h))
    ·exact absurd h e11)
   cases e3 : s3 b with
   | none => exact h3 e3
   | some c => rw [le35 _ _ e3] at h5; cases h5
 have g3c := le36 _ _ g3b
 have g4d := le36 _ _ g4b
 have g8c := le36 _ _ g8
 have g10c := leS _ _ g10
 have hσ6 : ∀ d y, σ d = some y → cup L s5 d = some y := fun d y h => le36 _ _ (hσ2 _ _ h)
 have rm := ha.rooms.shape (Shape.le fun b c h => leS _ _ (hle5 _ _ h))
 have ha6 := ha5.more leS
 have hat6 : (∀ c, c ∈ [V.bool v.holds, .int .i64 v.states, q1, q2, q3, .int .i64 v.port] → c.one = true) = True := eq_true v6.ones
 generalize cup L s5 = s6 at *
 have fr6 := v6.lend
 simp (disch := omega) only [t41, t11, t8, g11, g8c, hvl, hvt, go_sem]
 refine SRun.callR (Ret.lendL (eqVerdict_ok hfew) (by exact ⟨fr6, .refl _, trivial⟩) (Plain.bool _)) ⟨[], rfl, rfl⟩ rfl ?_
 simp (disch := omega) only [t9, hcc, go_sem]
 refine W_drawW ?_
 refine DRun.mixE rfl ?_
 simp (disch := omega) only [t10, t3, g10c, g3c, hlen, hlen2, hqt, hql, go_sem]
 refine DS.callB (TN _ _) ⟨[], rfl, rfl⟩ rfl rfl ?_
 simp (disch := omega) only [go_sem]
 refine DRun.callQ (Ret.lendL (eqNet_ok hf) (by exact ⟨ha6, .refl _, trivial⟩) (Plain.bool _)) ⟨[], rfl, rfl⟩ ?_
 rintro r s ⟨rfl, hs⟩
 obtain rfl := hs.symm
 simp (disch := omega) only [t10, g10c, hqt, hql, go_sem]
 refine SRun.callQ (markNet_ok hf rm) ⟨[], rfl, rfl⟩ rfl ?_
 rintro r s7 ⟨⟨k7, rfl, ka7, kb7⟩, sh7, fr7⟩
 have keep : ∀ b, ((σ b ≠ none ∨ b = b3 ∨ b = b4 ∨ b = b8) ∨ b = b11 ∨ ∃ q ∈ [q1, q2, q3], blk q = some b) → s7 b = s6 b := fun b hb => fr7 b fun m hm => offN m hm b hb
 have g3e := (keep b3 (.inl (.inr (.inl rfl)))).trans g3c
 have g4e := (keep b4 (.inl (.inr (.inr (.inl rfl))))).trans g4d
 have g8e := (keep b8 (.inl (.inr (.inr (.inr rfl))))).trans g8c
 have g11e := (keep b11 (.inr (.inl rfl))).trans g11
 have v7 := v6.to (t := s7) fun q hq b hb => keep b (.inr (.inr ⟨q, hq, hb⟩))
 have hσ7 : ∀ d y, σ d = some y → s7 d = some y := fun d y h => (keep d (.inl (.inl (by rw [h]; simp)))).trans (hσ6 _ _ h)
 clear keep fr7 sh7 offN
 have fr7 := v7.lend
 have hk7 : decide (k7 < 0) = false := decide_eq_false (by omega)
 simp (disch := omega) only [hk7, t11, t8, g11e, g8e, hvl, hvt, go_sem]
 refine SRun.callR (Ret.lendL (eqVerdict_ok hfew) (by exact ⟨fr7, .refl _, trivial⟩) (Plain.bool _)) ⟨[], rfl, rfl⟩ rfl ?_
 simp (disch := omega) only [t9, hcc, t11, g11e, go_sem]
 refine SRun.callQ (markVerdict_at hfew v7 ap1 ap2 ap3) ⟨[], rfl, rfl⟩ rfl ?_
 rintro r s8 ⟨rfl, v8, fr8⟩
 have keep2 : ∀ b, (σ b ≠ none ∨ b = b3 ∨ b = b4 ∨ b = b8 ∨ b = b11) → s8 b = s7 b := fun b hb => fr8 b (offq b hb)
 have g3f := (keep2 b3 (.inr (.inl rfl))).trans g3e
 have g4f := (keep2 b4 (.inr (.inr (.inl rfl)))).trans g4e
 have g8f := (keep2 b8 (.inr (.inr (.inr (.inl rfl))))).trans g8e
 have g11f := (keep2 b11 (.inr (.inr (.inr (.inr rfl))))).trans g11e
 have hσ8 : ∀ d y, σ d = some y → s8 d = some y := fun d y h => (keep2 d (.inl (by rw [h]; simp))).trans (hσ7 _ _ h)
 clear keep2 fr8
 have fr8 := v8.lend
 have hm1 : (markVd v).holds = v.holds := rfl
 have hm2 : (markVd v).states = v.states := rfl
 have hm3 : (markVd v).port = v.port := rfl
 rw [hm1, hm2, hm3] at fr8
 have hne2 : (decide ¬ (1 + (v.down.length : Int) + v.env.length + v.vias.length = 1 + v.down.length + v.env.length + v.vias.length)) = false := by simp
 simp (disch := omega) only [t11, g11f, go_sem]
 refine SRun.callR (Ret.lendL (heldVerdict_ok hfew) (by exact ⟨fr8, .refl _, trivial⟩) (Plain.int _ _)) ⟨[], rfl, rfl⟩ rfl ?_
 simp (disch := omega) only [hne2, go_sem]
 rw [W_draw]
 refine DRun.start (DRun.mixNR (fun T s' => ∃ b16, s8 b16 = none ∧ s' = upd emp b16 (vdC v) ∧ look T 8 = .ptr b8 0 ∧ look T 9 = .int .i64 code ∧ look T 11 = .ptr b11 0 ∧ look T 14 = .int .i64 (1 + v.down.length + v.env.length + v.vias.length) ∧ look T 16 = .ptr b16 0 ∧ look T 91 = .int .i64 code) rfl ?_ ?_)
 ·simp (disch := omega) only [t2, t3, t4, g3f, g4f, hlen, hlen2, hpt, hpl4, go_sem]
  refine DS.wr2 (WrF.call (TN _ _) ⟨[], rfl, rfl⟩) rfl ?_ ?_
  ·rintro r sx ⟨rfl, hs'⟩ hd
   obtain rfl := hs'.symm
   simp (disch := omega) only [go_sem]
   refine DS.wr2 (WrF.call (TP _ _) ⟨[], rfl, rfl⟩) rfl ?_ ?_
   ·rintro r sx ⟨rfl, hs'⟩ hd
    obtain rfl := hs'.symm
    simp (disch := omega) only [go_sem]
    refine DS.wr2 (WrF.call (F2 _ _) ⟨[], rfl, rfl⟩) rfl ?_ ?_
    ·rintro r sx ⟨rfl, hs'⟩ hd
     obtain rfl := hs'.symm
     rw [hvv]
     simp (disch := omega) only [go_sem]
     refine DS.wrQ WrF.alloc rfl ?_
     rintro _ s3 ⟨b16, hb16, rfl, rfl⟩ hd2
     simp (disch := omega) only [go_sem]
     refine DS.wrQ (WrF.store rfl (upd_same _ b16 _) rfl (vd_one _) (by simp)) rfl ?_
     rintro _ s4 ⟨_, rfl⟩ hd3
     rw [upd_upd]
     refine ⟨b16, disj_new hd2, rfl, ?_⟩
     (repeat' apply And.intro) <;> first | rfl | assumption
    ·refine DS.wrQ WrF.alloc rfl ?_
     rintro _ s3 ⟨b16, hb16, rfl, rfl⟩ hd2
     simp (disch := omega) only [go_sem]
     refine DS.wrQ (WrF.call (F2 _ _) ⟨[], rfl, rfl⟩) rfl ?_
     rintro r sx ⟨rfl, hs'⟩ hd
     obtain rfl := hs'.symm
     rw [hvv]
     simp (disch := omega) only [go_sem]
     refine DS.wrQ (WrF.store rfl (upd_same _ b16 _) rfl (vd_one _) (by simp)) rfl ?_
     rintro _ s4 ⟨_, rfl⟩ hd3
     rw [upd_upd]
     refine ⟨b16, disj_new hd2, rfl, ?_⟩
     (repeat' apply And.intro) <;> first | rfl | assumption
   ·refine DS.wrQ WrF.alloc rfl ?_
    rintro _ s3 ⟨b16, hb16, rfl, rfl⟩ hd2
    simp (disch := omega) only [go_sem]
    refine DS.wrQ (WrF.call (TP _ _) ⟨[], rfl, rfl⟩) rfl ?_
    rintro r sx ⟨rfl, hs'⟩ hd
    obtain rfl := hs'.symm
    simp (disch := omega) only [go_sem]
    refine DS.wrQ (WrF.call (F2 _ _) ⟨[], rfl, rfl⟩) rfl ?_
    rintro r sx ⟨rfl, hs'⟩ hd
    obtain rfl := hs'.symm
    rw [hvv]
    simp (disch := omega) only [go_sem]
    refine DS.wrQ (WrF.store rfl (upd_same _ b16 _) rfl (vd_one _) (by simp)) rfl ?_
    rintro _ s4 ⟨_, rfl⟩ hd3
    rw [upd_upd]
    refine ⟨b16, disj_new hd2, rfl, ?_⟩
    (repeat' apply And.intro) <;> first | rfl | assumption
  ·refine DS.wrQ WrF.alloc rfl ?_
   rintro _ s3 ⟨b16, hb16, rfl, rfl⟩ hd2
   simp (disch := omega) only [go_sem]
   refine DS.wrQ (WrF.call (TN _ _) ⟨[], rfl, rfl⟩) rfl ?_
   rintro r sx ⟨rfl, hs'⟩ hd
   obtain rfl := hs'.symm
   simp (disch := omega) only [go_sem]
   refine DS.wrQ (WrF.call (TP _ _) ⟨[], rfl, rfl⟩) rfl ?_
   rintro r sx ⟨rfl, hs'⟩ hd
   obtain rfl := hs'.symm
   simp (disch := omega) only [go_sem]
   refine DS.wrQ (WrF.call (F2 _ _) ⟨[], rfl, rfl⟩) rfl ?_
   rintro r sx ⟨rfl, hs'⟩ hd
   obtain rfl := hs'.symm
   rw [hvv]
   simp (disch := omega) only [go_sem]
   refine DS.wrQ (WrF.store rfl (upd_same _ b16 _) rfl (vd_one _) (by simp)) rfl ?_
   rintro _ s4 ⟨_, rfl⟩ hd3
   rw [upd_upd]
   refine ⟨b16, disj_new hd2, rfl, ?_⟩
   (repeat' apply And.intro) <;> first | rfl | assumption
 clear t2 t3 t4 t8 t9 t10 t11 t41 T
 rintro T sx ⟨b16, hb16, rfl, t8, t9, t11, t14, t16, t91⟩
 rw [cup_new]
 have le9 := le_upd (cs := vdC v) hb16
 have g8g := le9 _ _ g8f
 have g11g := le9 _ _ g11f
 have g16 := upd_same s8 b16 (vdC v)
 have v9 := v8.mono le9
 generalize upd s8 b16 (vdC v) = s9 at *
 have fr9 := v9.lend
 rw [hm1, hm2, hm3] at fr9
 simp (disch := omega) only [t91, t16, t8, g16, g8g, hvl, hvt, go_sem]
 refine SRun.callR (eqVerdict_ok hfew) ⟨[], rfl, rfl⟩ rfl ?_
 simp (disch := omega) only [t9, hcc, t11, g11g, go_sem]
 refine SRun.callR (Ret.lendL (heldVerdict_ok hfew) (by exact ⟨fr9, .refl _, trivial⟩) (Plain.int _ _)) ⟨[], rfl, rfl⟩ rfl ?_
 simp (disch := omega) only [t14, hne2, go_sem]
 exact W_retC c5_ok rfl (Conv.drop _ fun d y h => le9 _ _ (hσ8 _ _ h)) ⟨rfl, rfl⟩
end
end Go.Proofs.YtabelcohkpmpnaaGreat.Lg
