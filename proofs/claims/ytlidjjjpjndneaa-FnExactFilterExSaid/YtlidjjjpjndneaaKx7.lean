/- What is told of the functions that are reached, as far as it is asked here. -/
import Derived.Test.YtlidjjjpjndneaaKx6
import Derived.KernelRfl
set_option linter.unusedSimpArgs false
set_option linter.unusedVariables false
namespace Go.Proofs.Ytlidjjjpjndneaa.Lg
open Go
section
attribute [local irreducible] SRun DS DRun
variable {Γ : St} {σ σ0 : St}
set_option maxHeartbeats 1000000 in
theorem markIntR_ok {n : Nat} {q : V} {k : Int} (h : Room σ 1 n q) (hl : n ≤ 1048576) (hk : 0 ≤ k ∧ k ≤ 900000000) : ACalls Try.prog Γ 134 [q, .int .i64 k] σ fun r s => Marked σ q k (1 * n) r s := by
 rcases h with ⟨rfl, es', rfl⟩ | ⟨b, cap, cs, rfl, hb, hcs⟩
 ·refine acalls_W c134_ok rfl ?_
  simp (disch := omega) only [c134, go_sem]
  refine W_loopC (α := Unit) (fun _ => True) (fun _ => [(0, .isl true es' []), (1, .int .i64 k), (5, .int .i64 0)]) (fun _ => σ) (fun _ => 0) () trivial (by simp (disch := omega) only [subT, Int.natCast_add, Int.cast_ofNat_Int, go_sem] <;> (repeat' apply And.intro) <;> first | rfl | (congr 1; omega) | assumption) rfl ?_
  intro _ _ _
  simp (disch := omega) only [List.length_nil, go_sem]
  exact W_retR c134_ok rfl ⟨⟨k, rfl, by omega, by omega⟩, Shape.refl _, fun _ _ => rfl⟩
 ·refine acalls_W c134_ok rfl ?_
  simp (disch := omega) only [c134, go_sem]
  refine W_loopC (α := Nat × List V) (fun p => p.1 ≤ n ∧ p.2.length = cs.length) (fun p => [(0, .msl b 1 0 n cap), (1, .int .i64 (k + 1 * p.1)), (5, .int .i64 (p.1 : Nat))]) (fun p => upd σ b p.2) (fun p => n - p.1) (0, cs) ⟨by simp, rfl⟩ (by simp (disch := omega) only [subT, Int.natCast_add, Int.cast_ofNat_Int, Int.natCast_zero, Int.mul_zero, Int.add_zero, go_sem] <;> (repeat' apply And.intro) <;> first | rfl | (congr 1; omega) | assumption) (upd_self _ hb) ?_
  rintro ⟨i, c⟩ ⟨hi, hc⟩ ih
  dsimp only at hi hc
  have g := fun x => upd_same σ b x
  simp (disch := omega) only [go_sem]
  first | refine iteW_dec (fun h1 => ?_) (fun h1 => ?_) | refine iteW_of (fun h1 => ?_) (fun h1 => ?_)
  ·simp (disch := omega) only [g, List.length_set, go_sem]
   exact ih (i + 1, _) _ _ ⟨by simp only; omega, by simp only [List.length_set]; exact hc⟩ (by simp only; omega) (by simp (disch := omega) only [subT, Int.natCast_add, Int.cast_ofNat_Int, go_sem] <;> (repeat' apply And.intro) <;> first | rfl | (congr 1; omega) | assumption) rfl
  ·have hil : i = n := by omega
   subst hil
   simp (disch := omega) only [go_sem]
   exact W_retR c134_ok rfl ⟨⟨k + 1 * i, rfl, by omega, by omega⟩, Shape.upd hb hc, fun d hd => upd_ne _ _ (fun e => hd (by rw [e]; rfl))⟩
def Rooms (σ : St) (n : Net) (qs : List V) : Prop := ∃ q0 q1 q2 q3 q4 q5, qs = [q0, q1, q2, q3, q4, q5] ∧ Room σ 1 n.routers.length q0 ∧ Room σ 3 n.links.length q1 ∧ Room σ 1 n.origins.length q2 ∧ Room σ 1 n.externals.length q3 ∧ Room σ 5 n.imports.length q4 ∧ Room σ 4 n.filters.length q5
theorem NetAt.rooms {n : Net} {qs : List V} {s : St} (h : NetAt σ0 n qs s) : Rooms s n qs := by
 obtain ⟨q0, q1, q2, q3, q4, q5, rfl, _, _, a0, a1, a2, a3, a4, a5⟩ := h
 have r0 := a0.room
 have r1 := a1.room
 have r2 := a2.room
 have r3 := a3.room
 have r4 := a4.room
 have r5 := a5.room
 rw [strsV_len] at r0
 rw [linksV_len] at r1
 rw [ints_len] at r2 r3
 rw [impsV_len] at r4
 rw [filsV_len] at r5
 exact ⟨q0, q1, q2, q3, q4, q5, rfl, r0, r1, r2, r3, r4, r5⟩
theorem Room.blk {es len : Nat} {q : V} (h : Room σ es len q) {b : Nat} (hb : σ b = none) : Lg.blk q ≠ some b := by
 rcases h with ⟨_, es', rfl⟩ | ⟨b', cap, cs, rfl, h1, h2⟩
 ·intro e; cases e
 ·intro e
  simp only [Lg.blk, Option.some.injEq] at e
  subst e; rw [hb] at h1; cases h1
theorem Room.one {es len : Nat} {q : V} (h : Room σ es len q) : q.one = true ∧ q.cells = [q] := by
 rcases h with ⟨_, es', rfl⟩ | ⟨b', cap, cs, rfl, h1, h2⟩ <;> exact ⟨rfl, rfl⟩
theorem Shape.new {b : Nat} {c : List V} (hb : σ b = none) : Shape σ (Lg.upd σ b c) := fun d x h => ⟨x, le_upd hb _ _ h, rfl⟩
def Off (qs : List V) (b : Nat) : Prop := ∀ q ∈ qs, Lg.blk q ≠ some b
set_option maxHeartbeats 1000000 in
theorem markNet_ok {n : Net} (hn : NetFew n) {qs : List V} (h : Rooms σ n qs) : ACalls Try.prog Γ 50 [.agg qs, .int .i64 1] σ fun r s => (∃ k', r = .int .i64 k' ∧ 1 ≤ k' ∧ k' ≤ 100000000) ∧ Shape σ s ∧ ∀ b, Off qs b → s b = σ b := by
 obtain ⟨q0, q1, q2, q3, q4, q5, rfl, r0, r1, r2, r3, r4, r5⟩ := h
 have l0 := hn.routers
 have l1 := hn.links
 have l2 := hn.origins
 have l3 := hn.externals
 have l4 := hn.imports
 have l5 := hn.filters
 refine acalls_W c50_ok rfl ?_
 simp (disch := omega) only [c50, go_sem]
 refine SRun.boxR (by
  intro c hc
  simp only [ev, look, V.cells, if_true, List.mem_cons, List.not_mem_nil, or_false] at hc
  rcases hc with rfl | rfl | rfl | rfl | rfl | rfl
  ·exact r0.one.1
  ·exact r1.one.1
  ·exact r2.one.1
  ·exact r3.one.1
  ·exact r4.one.1
  ·exact r5.one.1) ?_
 intro b2 hb2
 have m0 := r0.blk hb2
 have m1 := r1.blk hb2
 have m2 := r2.blk hb2
 have m3 := r3.blk hb2
 have m4 := r4.blk hb2
 have m5 := r5.blk hb2
 have sh : Shape σ (upd σ b2 [q0, q1, q2, q3, q4, q5]) := Shape.new hb2
 have g2 := upd_same σ b2 [q0, q1, q2, q3, q4, q5]
 have fr : ∀ b, (∀ q ∈ [q0, q1, q2, q3, q4, q5], blk q ≠ some b) → b ≠ b2 → upd σ b2 [q0, q1, q2, q3, q4, q5] b = σ b := fun b _ hb => upd_ne _ _ hb
 simp (disch := omega) only [go_sem]
 generalize upd σ b2 [q0, q1, q2, q3, q4, q5] = s0 at *
 refine SRun.callQ (markStringS_ok (r0.shape sh) l0 (by omega)) ⟨[], rfl, rfl⟩ rfl ?_
 rintro r t0 ⟨⟨k0, rfl, ka0, kb0⟩, sh0, fr0⟩
 have sh := sh.trans sh0
 have g2 := (fr0 b2 m0).trans g2
 have fr : ∀ b, (∀ q ∈ [q0, q1, q2, q3, q4, q5], blk q ≠ some b) → b ≠ b2 → t0 b = σ b := fun b hb he => (fr0 b (hb q0 (by simp))).trans (fr b hb he)
 simp (disch := omega) only [g2, go_sem]
 refine SRun.callQ (markLinkS_ok (r1.shape sh) l1 (by omega)) ⟨[], rfl, rfl⟩ rfl ?_
 rintro r t1 ⟨⟨k1, rfl, ka1, kb1⟩, sh1, fr1⟩
 have sh := sh.trans sh1
 have g2 := (fr1 b2 m1).trans g2
 have fr : ∀ b, (∀ q ∈ [q0, q1, q2, q3, q4, q5], blk q ≠ some b) → b ≠ b2 → t1 b = σ b := fun b hb he => (fr1 b (hb q1 (by simp))).trans (fr b hb he)
 simp (disch := omega) only [g2, go_sem]
 refine SRun.callQ (markIntR_ok (r2.shape sh) l2 (by omega)) ⟨[], rfl, rfl⟩ rfl ?_
 rintro r t2 ⟨⟨k2, rfl, ka2, kb2⟩, sh2, fr2⟩
 have sh := sh.trans sh2
 have g2 := (fr2 b2 m2).trans g2
 have fr : ∀ b, (∀ q ∈ [q0, q1, q2, q3, q4, q5], blk q ≠ some b) → b ≠ b2 → t2 b = σ b := fun b hb he => (fr2 b (hb q2 (by simp))).trans (fr b hb he)
 simp (disch := omega) only [g2, go_sem]
 refine SRun.callQ (markIntR_ok (r3.shape sh) l3 (by omega)) ⟨[], rfl, rfl⟩ rfl ?_
 rintro r t3 ⟨⟨k3, rfl, ka3, kb3⟩, sh3, fr3⟩
 have sh := sh.trans sh3
 have g2 := (fr3 b2 m3).trans g2
 have fr : ∀ b, (∀ q ∈ [q0, q1, q2, q3, q4, q5], blk q ≠ some b) → b ≠ b2 → t3 b = σ b := fun b hb he => (fr3 b (hb q3 (by simp))).trans (fr b hb he)
 simp (disch := omega) only [g2, go_sem]
 refine SRun.callQ (markImportS_ok (r4.shape sh) l4 (by omega)) ⟨[], rfl, rfl⟩ rfl ?_
 rintro r t4 ⟨⟨k4, rfl, ka4, kb4⟩, sh4, fr4⟩
 have sh := sh.trans sh4
 have g2 := (fr4 b2 m4).trans g2
 have fr : ∀ b, (∀ q ∈ [q0, q1, q2, q3, q4, q5], blk q ≠ some b) → b ≠ b2 → t4 b = σ b := fun b hb he => (fr4 b (hb q4 (by simp))).trans (fr b hb he)
 simp (disch := omega) only [g2, go_sem]
 refine SRun.callQ (markFilterS_ok (r5.shape sh) l5 (by omega)) ⟨[], rfl, rfl⟩ rfl ?_
 rintro r t5 ⟨⟨k5, rfl, ka5, kb5⟩, sh5, fr5⟩
 have sh := sh.trans sh5
 have g2 := (fr5 b2 m5).trans g2
 have fr : ∀ b, (∀ q ∈ [q0, q1, q2, q3, q4, q5], blk q ≠ some b) → b ≠ b2 → t5 b = σ b := fun b hb he => (fr5 b (hb q5 (by simp))).trans (fr b hb he)
 simp (disch := omega) only [g2, go_sem]
 have hkk : k5 ≤ 100000000 := by omega
 refine W_retC c50_ok rfl (σ' := del t5 b2) (Conv.drop _ fun d x hd => ?_) ⟨⟨k5, rfl, by omega, hkk⟩, fun d x hd => ?_, fun b hb => ?_⟩
 ·by_cases e : d = b2
  ·subst e; rw [del_same] at hd; cases hd
  ·rwa [del_ne _ e] at hd
 ·obtain ⟨c', h1, h2⟩ := sh d x hd
  have e : d ≠ b2 := fun e => by subst e; rw [hb2] at hd; cases hd
  exact ⟨c', by rw [del_ne _ e]; exact h1, h2⟩
 ·by_cases e : b = b2
  ·subst e; rw [del_same, hb2]
  ·rw [del_ne _ e]; exact fr b hb e
end
section
attribute [local irreducible] SRun DS DRun
variable {Γ : St} {σ σ0 : St}
theorem wrt_le {q : V} {b : Nat} {z c : List V} (hb : σ b = none) (hq : blk q ≠ some b) : ∀ d x, wrt σ q c d = some x → wrt (upd σ b z) q c d = some x := by
 intro d x h
 have hd : d ≠ b := fun e => by subst e; rw [wrt_ne hq, hb] at h; cases h
 by_cases e : blk q = some d
 ·cases q <;> simp only [blk, Option.some.injEq, reduceCtorEq] at e
  subst e
  simp only [wrt, upd_same] at h ⊢; exact h
 ·rw [wrt_ne e] at h ⊢
  rw [upd_ne _ _ hd]; exact h
theorem Shape.le {s t : St} (h : ∀ b c, s b = some c → t b = some c) : Shape s t := fun b c hb => ⟨c, h b c hb, rfl⟩
/-- What is asked to stay: it is off a list that is written over. -/
theorem off_of {m q : V} {B0 S S1 : St} {K : Nat → Prop} (h0 : ∀ b, blk m = some b → B0 b = none) (hK : ∀ b, K b → B0 b ≠ none) (h1 : ∀ b, blk m = some b → S b ≠ none) (hq : ∀ b, blk q = some b → S b = none) {b17 : Nat} (hle : ∀ b c, S b = some c → S1 b = some c) (h17 : S1 b17 = none) :
  ∀ b, (K b ∨ b = b17 ∨ blk q = some b) → blk m ≠ some b := by
 intro b hb e
 rcases hb with hb | rfl | hb
 ·exact hK b hb (h0 b e)
 ·exact h1 _ e (none_of hle _ h17)
 ·exact h1 _ e (hq b hb)

end
section
attribute [local irreducible] SRun DS DRun
variable {Γ : St} {σ σ0 : St}
def exK : Ex → Int | .mk k _ _ => k
def exN : Ex → Int | .mk _ n _ => n
def exL : Ex → List Ex | .mk _ _ ks => ks
mutual
/-- The Kids of an expression lie in blocks that are owned, at q; bs are the blocks. -/
def kidsAt (σ : St) : Ex → V → List Nat → Prop
 | .mk _ _ ks, q, bs => (ks = [] ∧ (∃ es, q = .isl true es []) ∧ bs = []) ∨ ∃ b cap cs bs', q = .msl b 3 0 ks.length cap ∧ σ b = some cs ∧ bs = b :: bs' ∧ listAt σ ks cs bs'
def listAt (σ : St) : List Ex → List V → List Nat → Prop
 | [], cs, bs => cs = [] ∧ bs = []
 | e :: r, cs, bs => ∃ q bs1 bs2 cs', cs = .int .i64 (exK e) :: .int .i64 (exN e) :: q :: cs' ∧ bs = bs1 ++ bs2 ∧ kidsAt σ e q bs1 ∧ listAt σ r cs' bs2
end
theorem kidsAt_mk {k n : Int} {ks : List Ex} {q : V} {bs : List Nat} : kidsAt σ (.mk k n ks) q bs = ((ks = [] ∧ (∃ es, q = .isl true es []) ∧ bs = []) ∨ ∃ b cap cs bs', q = .msl b 3 0 ks.length cap ∧ σ b = some cs ∧ bs = b :: bs' ∧ listAt σ ks cs bs') := by rw [kidsAt]
theorem listAt_nil {cs : List V} {bs : List Nat} : listAt σ [] cs bs = (cs = [] ∧ bs = []) := by rw [listAt]
theorem listAt_cons {e : Ex} {r : List Ex} {cs : List V} {bs : List Nat} : listAt σ (e :: r) cs bs = (∃ q bs1 bs2 cs', cs = .int .i64 (exK e) :: .int .i64 (exN e) :: q :: cs' ∧ bs = bs1 ++ bs2 ∧ kidsAt σ e q bs1 ∧ listAt σ r cs' bs2) := by rw [listAt]
theorem exV_K (e : Ex) : exV e = .agg [.int .i64 (exK e), .int .i64 (exN e), .isl false 3 (exsV (exL e))] := by obtain ⟨k, n, ks⟩ := e; exact exV_mk _ _ _
theorem exC_K (e : Ex) : exC e = [.int .i64 (exK e), .int .i64 (exN e), .isl false 3 (exsV (exL e))] := by obtain ⟨k, n, ks⟩ := e; rfl
theorem kidsAt.one {e : Ex} {q : V} {bs : List Nat} (h : kidsAt σ e q bs) : q.one = true ∧ q.cells = [q] := by
 obtain ⟨k, n, ks⟩ := e
 rw [kidsAt_mk] at h
 rcases h with ⟨_, ⟨_, rfl⟩, _⟩ | ⟨_, _, _, _, rfl, _⟩ <;> exact ⟨rfl, rfl⟩
theorem listAt.len : ∀ {ks : List Ex} {cs : List V} {bs : List Nat}, listAt σ ks cs bs → cs.length = ks.length * 3 := by
 intro ks
 induction ks with
 | nil => intro cs bs h; rw [listAt_nil] at h; rw [h.1]; rfl
 | cons e r ih =>
  intro cs bs h
  rw [listAt_cons] at h
  obtain ⟨q, b1, b2, cs', rfl, _, _, h2⟩ := h
  have := ih h2
  simp only [List.length_cons]; omega
theorem listAt.ones : ∀ {ks : List Ex} {cs : List V} {bs : List Nat}, listAt σ ks cs bs → ∀ c ∈ cs, c.one = true := by
 intro ks
 induction ks with
 | nil => intro cs bs h; rw [listAt_nil] at h; rw [h.1]; intro c hc; cases hc
 | cons e r ih =>
  intro cs bs h
  rw [listAt_cons] at h
  obtain ⟨q, b1, b2, cs', rfl, _, h1, h2⟩ := h
  intro c hc
  simp only [List.mem_cons] at hc
  rcases hc with rfl | rfl | rfl | hc
  ·rfl
  ·rfl
  ·exact h1.one.1
  ·exact ih h2 c hc
theorem listAt_more {s : St} : ∀ {ks : List Ex}, (∀ e ∈ ks, ∀ q bs, kidsAt σ e q bs → (∀ b ∈ bs, ∀ c, σ b = some c → s b = some c) → kidsAt s e q bs) → ∀ {cs : List V} {bs : List Nat}, listAt σ ks cs bs → (∀ b ∈ bs, ∀ c, σ b = some c → s b = some c) → listAt s ks cs bs := by
 intro ks
 induction ks with
 | nil => intro _ cs bs h _; rw [listAt_nil] at h ⊢; exact h
 | cons e r ih =>
  intro he cs bs h hs
  rw [listAt_cons] at h ⊢
  obtain ⟨q, b1, b2, cs', rfl, rfl, h1, h2⟩ := h
  exact ⟨q, b1, b2, cs', rfl, rfl, he e (by simp) q b1 h1 (fun b hb => hs b (List.mem_append_left _ hb)), ih (fun x hx => he x (by simp [hx])) h2 (fun b hb => hs b (List.mem_append_right _ hb))⟩
theorem kidsAt.more {s : St} : ∀ (e : Ex) (q : V) (bs : List Nat), kidsAt σ e q bs → (∀ b ∈ bs, ∀ c, σ b = some c → s b = some c) → kidsAt s e q bs := by
 refine Ex.ind fun k n ks ih q bs h hs => ?_
 rw [kidsAt_mk] at h ⊢
 rcases h with h | ⟨b, cap, cs, bs', rfl, hb, rfl, hl⟩
 ·exact .inl h
 ·exact .inr ⟨b, cap, cs, bs', rfl, hs b (by simp) _ hb, rfl, listAt_more ih hl fun d hd => hs d (by simp [hd])⟩
theorem listAt.more {s : St} {ks : List Ex} {cs : List V} {bs : List Nat} (h : listAt σ ks cs bs) (hs : ∀ b ∈ bs, ∀ c, σ b = some c → s b = some c) : listAt s ks cs bs := listAt_more (fun e _ => kidsAt.more e) h hs
theorem listAt_has : ∀ {ks : List Ex}, (∀ e ∈ ks, ∀ q bs, kidsAt σ e q bs → ∀ b ∈ bs, σ b ≠ none) → ∀ {cs : List V} {bs : List Nat}, listAt σ ks cs bs → ∀ b ∈ bs, σ b ≠ none := by
 intro ks
 induction ks with
 | nil => intro _ cs bs h b hb; rw [listAt_nil] at h; rw [h.2] at hb; cases hb
 | cons e r ih =>
  intro he cs bs h b hb
  rw [listAt_cons] at h
  obtain ⟨q, b1, b2, cs', rfl, rfl, h1, h2⟩ := h
  rcases List.mem_append.1 hb with hb | hb
  ·exact he e (by simp) q b1 h1 b hb
  ·exact ih (fun x hx => he x (by simp [hx])) h2 b hb
theorem kidsAt.has : ∀ (e : Ex) (q : V) (bs : List Nat), kidsAt σ e q bs → ∀ b ∈ bs, σ b ≠ none := by
 refine Ex.ind fun k n ks ih q bs h b hb => ?_
 rw [kidsAt_mk] at h
 rcases h with ⟨_, _, rfl⟩ | ⟨d, cap, cs, bs', rfl, hd, rfl, hl⟩
 ·cases hb
 ·rcases List.mem_cons.1 hb with rfl | hb
  ·rw [hd]; simp
  ·exact listAt_has ih hl b hb
theorem listAt.has {ks : List Ex} {cs : List V} {bs : List Nat} (h : listAt σ ks cs bs) : ∀ b ∈ bs, σ b ≠ none := listAt_has (fun e _ => kidsAt.has e) h
theorem listAt_app : ∀ {xs ys : List Ex} {c1 c2 : List V} {b1 b2 : List Nat}, listAt σ xs c1 b1 → listAt σ ys c2 b2 → listAt σ (xs ++ ys) (c1 ++ c2) (b1 ++ b2) := by
 intro xs
 induction xs with
 | nil => intro ys c1 c2 b1 b2 h h2; rw [listAt_nil] at h; obtain ⟨rfl, rfl⟩ := h; exact h2
 | cons e r ih =>
  intro ys c1 c2 b1 b2 h h2
  rw [listAt_cons] at h
  obtain ⟨q, d1, d2, cs', rfl, rfl, h3, h4⟩ := h
  rw [List.cons_append, listAt_cons]
  exact ⟨q, d1, d2 ++ b2, cs' ++ c2, rfl, by rw [List.append_assoc], h3, ih h4 h2⟩
/-- Of what is owned, less is said: it is lent. -/
theorem listAt_lend {s : St} : ∀ {ks : List Ex}, (∀ e ∈ ks, ∀ q bs, kidsAt σ e q bs → (∀ b ∈ bs, s b = none) → Frz σ s q (.isl false 3 (exsV (exL e)))) → ∀ {cs : List V} {bs : List Nat}, listAt σ ks cs bs → (∀ b ∈ bs, s b = none) → frzL σ s cs (flat (exsV ks)) := by
 intro ks
 induction ks with
 | nil => intro _ cs bs h _; rw [listAt_nil] at h; rw [h.1]; trivial
 | cons e r ih =>
  intro he cs bs h hs
  rw [listAt_cons] at h
  obtain ⟨q, b1, b2, cs', rfl, rfl, h1, h2⟩ := h
  have hf : flat (exsV (e :: r)) = .int .i64 (exK e) :: .int .i64 (exN e) :: .isl false 3 (exsV (exL e)) :: flat (exsV r) := by
   show flat (exV e :: exsV r) = _
   rw [exV_K]; rfl
  rw [hf]
  exact ⟨.refl _, .refl _, he e (by simp) q b1 h1 (fun b hb => hs b (List.mem_append_left _ hb)), ih (fun x hx => he x (by simp [hx])) h2 (fun b hb => hs b (List.mem_append_right _ hb))⟩
theorem exsV_flatlen (ks : List Ex) : (flat (exsV ks)).length = ks.length * 3 := by
 rw [flat_length (es := 3) fun x hx => (exsV_ok ks x hx).1, exsV_len]
theorem kidsAt.frz {s : St} : ∀ (e : Ex) (q : V) (bs : List Nat), kidsAt σ e q bs → (∀ b ∈ bs, s b = none) → Frz σ s q (.isl false 3 (exsV (exL e))) := by
 refine Ex.ind fun k n ks ih q bs h hs => ?_
 rw [kidsAt_mk] at h
 show Frz σ s q (.isl false 3 (exsV ks))
 rcases h with ⟨rfl, ⟨es, rfl⟩, _⟩ | ⟨b, cap, cs, bs', rfl, hb, rfl, hl⟩
 ·exact frz_nil _ _
 ·have hL := listAt_lend ih hl fun d hd => hs d (by simp [hd])
  have hlen := hl.len
  refine .msl b 3 0 ks.length cap cs (exsV ks) hb (hs b (by simp)) (by omega) (exsV_len ks) (fun x hx => (exsV_ok ks x hx).1) (exsV_flatlen ks) (fun i x hi => flat_ones (fun x hm => (exsV_ok ks x hm).2) x (List.mem_of_getElem? hi)) (fun i x y hx hy => ?_)
  rw [Nat.zero_add] at hx
  exact frzL_get hL i y x hx hy
theorem kidsAt.lend {e : Ex} {q : V} {bs : List Nat} (h : kidsAt σ e q bs) : Frz σ emp (.agg [.int .i64 (exK e), .int .i64 (exN e), q]) (exV e) := by
 rw [exV_K]
 exact frz_agg (by exact ⟨.refl _, .refl _, kidsAt.frz e q bs h (fun _ _ => rfl), trivial⟩) (by simp [V.one])
theorem OwnL.grow {es : Nat} {xs : List V} {q : V} {s : St} (h : OwnL σ0 es xs q σ) (hs : ∀ b c, σ b = some c → s b = some c) : ∃ σ1, OwnL σ1 es xs q s ∧ (∀ b c, σ0 b = some c → σ1 b = some c) ∧ ∀ b, σ b = none → σ1 b = s b := by
 obtain ⟨h1, h2⟩ := h
 rcases h1 with ⟨hc, hl, rfl, es', rfl⟩ | ⟨b2, cap, hb, rfl, rfl, h4⟩
 ·exact ⟨s, ⟨.inl ⟨hc, hl, rfl, es', rfl⟩, h2⟩, hs, fun _ _ => rfl⟩
 ·have e : s b2 = some (flat xs) := hs _ _ (upd_same _ _ _)
  refine ⟨del s b2, ⟨.inr ⟨b2, cap, del_same _ _, rfl, (by rw [upd_del, upd_self _ e]), h4⟩, h2⟩, fun b c hc => ?_, fun b hb' => ?_⟩
  ·have hne : b ≠ b2 := fun e => by subst e; rw [hb] at hc; cases hc
   rw [del_ne _ hne]; exact hs _ _ (by rw [upd_ne _ _ hne]; exact hc)
  ·have hne : b ≠ b2 := fun e => by subst e; rw [upd_same] at hb'; cases hb'
   rw [del_ne _ hne]
end
section
attribute [local irreducible] SRun DS DRun
variable {Γ : St} {σ σ0 : St}
def setKN (k n : Int) : Ex → Ex | .mk _ _ ks => .mk k n ks
mutual
/-- The Kids below get numbers, from k on. -/
def numE : Ex → Int → Ex × Int
 | .mk kk n ks, k => (.mk kk n (numL ks k).1, (numL ks k).2)
def numL : List Ex → Int → List Ex × Int
 | [], k => ([], k)
 | e :: r, k => (setKN k (k + 1) (numE e (k + 2)).1 :: (numL r (numE e (k + 2)).2).1, (numL r (numE e (k + 2)).2).2)
end
theorem numE_mk {kk n k : Int} {ks : List Ex} : numE (.mk kk n ks) k = (.mk kk n (numL ks k).1, (numL ks k).2) := by rw [numE]
theorem numL_nil {k : Int} : numL [] k = ([], k) := by rw [numL]
theorem numL_cons {e : Ex} {r : List Ex} {k : Int} : numL (e :: r) k = (setKN k (k + 1) (numE e (k + 2)).1 :: (numL r (numE e (k + 2)).2).1, (numL r (numE e (k + 2)).2).2) := by rw [numL]
theorem setKN_parts (k n : Int) (e : Ex) : exK (setKN k n e) = k ∧ exN (setKN k n e) = n ∧ exL (setKN k n e) = exL e := by obtain ⟨a, b, c⟩ := e; exact ⟨rfl, rfl, rfl⟩
theorem numE_parts (e : Ex) (k : Int) : exK (numE e k).1 = exK e ∧ exN (numE e k).1 = exN e ∧ exL (numE e k).1 = (numL (exL e) k).1 ∧ (numE e k).2 = (numL (exL e) k).2 := by obtain ⟨a, b, c⟩ := e; rw [numE_mk]; exact ⟨rfl, rfl, rfl, rfl⟩
theorem numL_len : ∀ {ks : List Ex} {k : Int}, (numL ks k).1.length = ks.length := by
 intro ks
 induction ks with
 | nil => intro k; rw [numL_nil]
 | cons e r ih => intro k; rw [numL_cons]; simp only [List.length_cons, ih]
theorem numL_bound_of : ∀ {ks : List Ex}, (∀ e ∈ ks, ∀ k, k ≤ (numE e k).2 ∧ (numE e k).2 + 2 ≤ k + 2 * (sizeE e : Int)) → ∀ k, k ≤ (numL ks k).2 ∧ (numL ks k).2 ≤ k + 2 * (sizeL ks : Int) := by
 intro ks
 induction ks with
 | nil => intro _ k; rw [numL_nil]; simp [sizeL]
 | cons e r ih =>
  intro he k
  have h1 := he e (by simp) (k + 2)
  have h2 := ih (fun x hx => he x (by simp [hx])) (numE e (k + 2)).2
  rw [numL_cons]
  simp only [sizeL]
  omega
theorem numE_bound : ∀ (e : Ex) (k : Int), k ≤ (numE e k).2 ∧ (numE e k).2 + 2 ≤ k + 2 * (sizeE e : Int) := by
 refine Ex.ind fun kk n ks ih k => ?_
 have := numL_bound_of ih k
 rw [numE_mk]
 simp only [sizeE]
 omega
theorem numL_bound (ks : List Ex) (k : Int) : k ≤ (numL ks k).2 ∧ (numL ks k).2 ≤ k + 2 * (sizeL ks : Int) := numL_bound_of (fun e _ => numE_bound e) k
/-- The numbers reach to the i-th. -/
def numTo (ks : List Ex) (k : Int) (i : Nat) : List Ex × Int := numL (ks.take i) k
theorem numL_app : ∀ {xs : List Ex} {e : Ex} {k : Int}, numL (xs ++ [e]) k = ((numL xs k).1 ++ [setKN (numL xs k).2 ((numL xs k).2 + 1) (numE e ((numL xs k).2 + 2)).1], (numE e ((numL xs k).2 + 2)).2) := by
 intro xs
 induction xs with
 | nil => intro e k; rw [List.nil_append, numL_cons, numL_nil, numL_nil]; rfl
 | cons x r ih => intro e k; rw [List.cons_append, numL_cons, ih, numL_cons]; rfl
theorem kidsAt.relabel {e : Ex} {q : V} {bs : List Nat} {k n : Int} (h : kidsAt σ e q bs) : kidsAt σ (setKN k n e) q bs := by
 obtain ⟨a, b, c⟩ := e
 show kidsAt σ (.mk k n c) q bs
 rw [kidsAt_mk] at h ⊢; exact h
end
end Go.Proofs.Ytlidjjjpjndneaa.Lg
