/- Draws: more pigeons than holes. -/
import Derived.Test.YtlojopaebdnacaaQj
set_option linter.unusedSimpArgs false
set_option linter.unusedVariables false
namespace Go.Proofs.Ytlojopaebdnacaa.Lg
open Go
attribute [local irreducible] SRun DS DRun
variable {Γ : St} {σ σ0 : St}
theorem flat_clsF (ls : List (Bool × List Int)) : flat (clsF ls) = clsF ls := by
  induction ls with
  | nil => rfl
  | cons c r ih => show (V.isl c.1 1 (ints c.2)).cells ++ flat (clsF r) = .isl c.1 1 (ints c.2) :: clsF r; rw [ih]; rfl
theorem clsF_app (ls : List (Bool × List Int)) (e : Bool) (c : List Int) : clsF ls ++ [V.isl e 1 (ints c)] = clsF (ls ++ [(e, c)]) := by simp [clsF]
theorem isl1_ok (e : Bool) (xs : List V) : ∀ y ∈ [V.isl e 1 xs], y.cells.length = 1 ∧ ∀ c ∈ y.cells, c.one = true := by
  intro y hy; rw [List.mem_singleton.1 hy]; simp [V.cells, V.one]
/-- Rows of numbers that are owned in a row, given up. -/
theorem OwnL.frzF {σ2 σ3 : St} {ls : List (Bool × List Int)} {r : V} (h : OwnL σ0 1 (clsF ls) r σ) (h2 : ∀ b, σ0 b = none → σ2 b = σ b) (h3 : ∀ b, σ0 b = none → σ3 b = none) : Frz σ2 σ3 r (.isl false 1 (clsV (ls.map (·.2)))) := by
  rcases h.1 with ⟨hc, hl, rfl, es', rfl⟩ | ⟨b2, cap, hb, rfl, rfl, h4⟩
  · rw [clsF_len] at hl
    obtain rfl := List.eq_nil_of_length_eq_zero hl
    exact .isl0 _ _ _ _ (fun h => by cases h)
  · have hlen : (clsV (ls.map (·.2))).length = ls.length := by rw [clsV_len, List.length_map]
    rw [clsF_len, flat_clsF] at *
    have hb' : σ2 b2 = some (clsF ls) := by rw [h2 b2 hb, upd_same]
    refine .msl b2 1 0 ls.length cap (clsF ls) (clsV (ls.map (·.2))) hb' (h3 b2 hb) (by rw [clsF_len]; omega) hlen (fun x hm => (clsK_ok _ x hm).1) (by rw [flat_cls, hlen]; omega) (fun i x hi => ?_) (fun i x y hy hx => ?_)
    · rw [flat_cls] at hi
      have := List.mem_of_getElem? hi
      simp only [clsV, List.mem_map] at this; obtain ⟨z, _, rfl⟩ := this; rfl
    · rw [Nat.zero_add] at hy
      rw [flat_cls] at hx
      have hi : i < ls.length := by have := (List.getElem?_eq_some_iff.1 hy).1; rwa [clsF_len] at this
      have e1 : (clsF ls)[i]? = some (.isl ls[i].1 1 (ints ls[i].2)) := by simp [clsF, hi]
      have e2 : (clsV (ls.map (·.2)))[i]? = some (.isl false 1 (ints ls[i].2)) := by simp [clsV, intsV, hi]
      rw [e1] at hy; rw [e2] at hx
      obtain rfl := Option.some.inj hy
      obtain rfl := Option.some.inj hx
      exact .isl _ _ _
def RowsOK (vars : Int) (ls : List (Bool × List Int)) : Prop := ∀ p ∈ ls, p.2.length ≤ 12 ∧ ∀ x ∈ p.2, litOK vars x
theorem RowsOK.snoc {vars : Int} {ls : List (Bool × List Int)} {e : Bool} {c : List Int} (h : RowsOK vars ls) (h1 : c.length ≤ 12) (h2 : ∀ x ∈ c, litOK vars x) : RowsOK vars (ls ++ [(e, c)]) := fun p hp => by
  rcases List.mem_append.1 hp with hp | hp
  · exact h p hp
  · rw [List.mem_singleton.1 hp]; exact ⟨h1, h2⟩
theorem RowsOK.cl {vars : Int} {ls : List (Bool × List Int)} (h : RowsOK vars ls) : Cl vars (ls.map (·.2)) := fun c hc => by
  obtain ⟨p, hp, rfl⟩ := List.mem_map.1 hc
  exact h p hp
set_option maxHeartbeats 4000000 in
theorem pigeons_ok {b : Nat} {ex : Bool} {code : List UInt8} {s : Int} (hb : σ b = some (srcC ex code 0 s)) (hs : 0 ≤ s ∧ s < 2147483648) :
    ACalls Try.prog Γ 83 [.ptr b 0] σ fun r σ' => ∃ vars cls a' s', (1 ≤ vars ∧ vars ≤ 12) ∧ cls.length ≤ 60 ∧ Cl vars cls ∧ 0 ≤ a' ∧ a' ≤ 1000 ∧ 0 ≤ s' ∧ s' < 2147483648 ∧ r = cnfV vars cls ∧ σ' = upd σ b (srcC ex code a' s') := by
  refine acalls_W c83_ok rfl ?_
  simp (disch := omega) only [c83, go_sem]
  refine SRun.allocR ?_
  intro b2 hb2
  have e2 : b2 ≠ b := fun e => by subst e; rw [hb] at hb2; cases hb2
  have hbz : ∀ z, upd σ b2 z b = some (srcC ex code 0 s) := fun z => by rw [upd_ne _ _ e2.symm]; exact hb
  simp (disch := omega) only [go_sem]
  refine SRun.callQ (next_ok (hbz _) (by omega) hs) ⟨[], rfl, rfl⟩ rfl ?_
  rintro r σ1 ⟨v, a1, s1, j1, _, j3, j4, j5, j6, j7, rfl, rfl⟩
  have hv := j3 (by omega)
  simp (disch := omega) only [go_sem]
  refine SRun.callQ (next_ok (upd_same _ _ _) (by omega) ⟨j6, j7⟩) ⟨[], rfl, rfl⟩ rfl ?_
  rintro r σ1 ⟨u, a2, s2, i1, _, i3, i4, i5, i6, i7, rfl, rfl⟩
  have hu := i3 (by omega)
  obtain ⟨N, hN⟩ : ∃ N : Nat, 2 + v = N := ⟨(2 + v).toNat, by omega⟩
  obtain ⟨M, hM⟩ : ∃ M : Nat, (N : Int) + u = M := ⟨((N : Int) + u).toNat, by omega⟩
  have hV : 4 ≤ (M : Int) * (N : Int) ∧ (M : Int) * (N : Int) ≤ 12 := by
    have h1 : N = 2 ∨ N = 3 := by omega
    rcases h1 with rfl | rfl <;> omega
  have hrow : ∀ i : Nat, i < M → 0 ≤ (i : Int) * (N : Int) ∧ (i : Int) * (N : Int) + N ≤ (M : Int) * (N : Int) := fun i hi => by
    have h1 : N = 2 ∨ N = 3 := by omega
    rcases h1 with rfl | rfl <;> omega
  generalize hVV : (M : Int) * (N : Int) = VV at *
  rw [upd_upd]
  have hZ : ∀ z, upd (upd σ b2 [.int .i64 0, .isl true 0 []]) b z b2 = some [.int .i64 0, .isl true 0 []] := fun z => by rw [upd_ne _ _ e2, upd_same]
  simp (disch := omega) only [hN, hM, hVV, go_sem]
  refine SRun.allocR ?_
  intro b5 hb5
  have g2 := hZ (srcC ex code a2 s2)
  have gb : upd (upd σ b2 [.int .i64 0, .isl true 0 []]) b (srcC ex code a2 s2) b = some (srcC ex code a2 s2) := upd_same _ _ _
  have hσ0 : ∀ c, upd (upd σ b2 [.int .i64 0, .isl true 0 []]) b (srcC ex code a2 s2) c = none → upd σ b (srcC ex code a2 s2) c = none := fun c hc => by
    rw [upd_none, upd_none] at hc
    exact upd_none.2 ⟨hc.1, hc.2.2⟩
  have hσ1 : ∀ c x, upd σ b (srcC ex code a2 s2) c = some x → upd (upd σ b2 [.int .i64 0, .isl true 0 []]) b (srcC ex code a2 s2) c = some x := fun c x hx => by
    by_cases e : c = b
    · subst e; rw [upd_same] at hx ⊢; exact hx
    · rw [upd_ne _ _ e] at hx ⊢
      rw [upd_ne _ _ (fun e => by subst e; rw [hb2] at hx; cases hx)]; exact hx
  generalize upd (upd σ b2 [.int .i64 0, .isl true 0 []]) b (srcC ex code a2 s2) = s0 at *
  simp (disch := omega) only [go_sem]
  have e52 : b5 ≠ b2 := fun e => by subst e; rw [g2] at hb5; cases hb5
  refine W_loopC (α := Nat × List (Bool × List Int) × V × St) (fun p => p.1 ≤ M ∧ p.2.1.length = p.1 ∧ RowsOK VV p.2.1 ∧ OwnL (upd s0 b5 [.int .i64 VV, p.2.2.1]) 1 (clsF p.2.1) p.2.2.1 p.2.2.2) (fun p => [(2, .ptr b2 0), (3, .int .i64 (N : Int)), (4, .int .i64 (M : Int)), (5, .ptr b5 0), (6, .int .i64 (p.1 : Nat))]) (fun p => p.2.2.2) (fun p => M - p.1) (0, [], .isl true 0 [], _) ⟨by simp, rfl, (fun p hp => by cases hp), OwnL.nil 1 0⟩ (by simp (disch := omega) only [subT, Int.natCast_add, Int.cast_ofNat_Int, go_sem] <;> (repeat' apply And.intro) <;> first | rfl | (congr 1; omega) | assumption) rfl ?_
  rintro ⟨i, ls, q, st⟩ ⟨hi, hll, hls, ho⟩ ih
  dsimp only at hi hll hls ho
  have g5 := ho.get (upd_same _ b5 _)
  simp (disch := omega) only [go_sem]
  first | refine iteW_dec (fun h1 => ?_) (fun h1 => ?_) | refine iteW_of (fun h1 => ?_) (fun h1 => ?_)
  · obtain ⟨r1, r2⟩ := hrow i (by omega)
    obtain ⟨p, hp⟩ : ∃ p, (i : Int) * (N : Int) = p := ⟨_, rfl⟩
    rw [hp] at r1 r2
    simp (disch := omega) only [go_sem]
    refine W_loopC (α := Nat × List Int × V × St) (fun p => p.1 ≤ N ∧ p.2.1.length = p.1 ∧ (∀ x ∈ p.2.1, litOK VV x) ∧ ((p.1 < N ∧ OwnL st 1 (ints p.2.1) p.2.2.1 p.2.2.2) ∨ (p.1 = N ∧ p.2.2.1 = .isl false 1 (ints p.2.1) ∧ p.2.2.2 = st))) (fun p => [(2, .ptr b2 0), (3, .int .i64 (N : Int)), (4, .int .i64 (M : Int)), (5, .ptr b5 0), (6, .int .i64 (i : Nat)), (7, p.2.2.1), (8, .int .i64 (p.1 : Nat))]) (fun p => p.2.2.2) (fun p => N - p.1) (0, [], .isl true 1 [], st) ⟨by simp, rfl, (fun x hx => by cases hx), .inl ⟨by simp only; omega, OwnL.nil 1 1⟩⟩ (by simp (disch := omega) only [subT, Int.natCast_add, Int.cast_ofNat_Int, go_sem] <;> (repeat' apply And.intro) <;> first | rfl | (congr 1; omega) | assumption) rfl ?_
    rintro ⟨k, xs, qc, s'⟩ ⟨hk, hxl, hxs, hcase⟩ ih2
    dsimp only at hk hxl hxs hcase
    rcases hcase with ⟨hkn, hox⟩ | ⟨rfl, rfl, rfl⟩
    · have d1 : decide ((k : Int) < (N : Int)) = true := decide_eq_true (by omega)
      simp (disch := omega) only [d1, hp, go_sem]
      refine SRun.appL hox rfl (neg1_ok _) (by rw [ints_len]; simp only [List.length_singleton]; omega) ?_
      intro q7 s7 ho7
      rw [ints_app] at ho7
      have hl7 : ∀ x ∈ xs ++ [p + (k : Int) + 1], litOK VV x := fun x hx => by
        rcases List.mem_append.1 hx with h | h
        · exact hxs x h
        · rw [List.mem_singleton.1 h]; exact ⟨by omega, by omega, by omega⟩
      simp (disch := omega) only [go_sem]
      by_cases hl : k + 1 < N
      · exact ih2 (k + 1, xs ++ [p + (k : Int) + 1], q7, s7) _ _ ⟨by simp only; omega, by simp [hxl], hl7, .inl ⟨hl, ho7⟩⟩ (by simp only; omega) (by simp (disch := omega) only [subT, Int.natCast_add, Int.cast_ofNat_Int, go_sem] <;> (repeat' apply And.intro) <;> first | rfl | (congr 1; omega) | assumption) rfl
      · refine W_freezeL (T' := [(2, .ptr b2 0), (3, .int .i64 (N : Int)), (4, .int .i64 (M : Int)), (5, .ptr b5 0), (6, .int .i64 (i : Nat)), (7, .isl false 1 (ints (xs ++ [p + (k : Int) + 1]))), (8, .int .i64 ((k : Int) + 1))]) (σ' := st) ho7.le ⟨.refl _, .refl _, .refl _, .refl _, .refl _, ho7.conv.2, .refl _, trivial⟩ ?_
        exact ih2 (k + 1, xs ++ [p + (k : Int) + 1], .isl false 1 (ints (xs ++ [p + (k : Int) + 1])), st) _ _ ⟨by simp only; omega, by simp [hxl], hl7, .inr ⟨by simp only; omega, rfl, rfl⟩⟩ (by simp only; omega) (by simp (disch := omega) only [subT, Int.natCast_add, Int.cast_ofNat_Int, go_sem] <;> (repeat' apply And.intro) <;> first | rfl | (congr 1; omega) | assumption) rfl
    · have d1 : decide ((k : Int) < (k : Int)) = false := decide_eq_false (by omega)
      simp (disch := omega) only [d1, g5, go_sem]
      refine SRun.appL ho rfl (isl1_ok false (ints xs)) (by simp only [clsF_len, List.length_singleton]; omega) ?_
      intro q9 s9 ho9
      rw [clsF_app] at ho9
      have g9 := ho9.get (upd_same _ b5 _)
      have ho10 := ho9.upd (c' := [.int .i64 VV, q9]) (upd_same _ b5 _)
      rw [upd_upd] at ho10
      simp (disch := omega) only [g9, ho9.one, ho9.cells, go_sem]
      exact ih (i + 1, ls ++ [(false, xs)], q9, _) _ _ ⟨by simp only; omega, by simp [hll], hls.snoc (by omega) hxs, ho10⟩ (by simp only; omega) (by simp (disch := omega) only [subT, Int.natCast_add, Int.cast_ofNat_Int, go_sem] <;> (repeat' apply And.intro) <;> first | rfl | (congr 1; omega) | assumption) rfl
  · simp (disch := omega) only [go_sem]
    have hls4 : ls.length ≤ 4 := by omega
    clear ih
    refine W_loopC (α := Nat × List (Bool × List Int) × V × St) (fun p => p.1 ≤ N ∧ p.2.1.length ≤ 4 + p.1 * 16 ∧ RowsOK VV p.2.1 ∧ OwnL (upd s0 b5 [.int .i64 VV, p.2.2.1]) 1 (clsF p.2.1) p.2.2.1 p.2.2.2) (fun p => [(2, .ptr b2 0), (3, .int .i64 (N : Int)), (4, .int .i64 (M : Int)), (5, .ptr b5 0), (9, .int .i64 (p.1 : Nat))]) (fun p => p.2.2.2) (fun p => N - p.1) (0, ls, q, st) ⟨by simp, by simp only; omega, hls, ho⟩ (by simp (disch := omega) only [subT, Int.natCast_add, Int.cast_ofNat_Int, go_sem] <;> (repeat' apply And.intro) <;> first | rfl | (congr 1; omega) | assumption) rfl ?_
    clear ho g5 hls hll hls4 hi h1 ls q st i
    rintro ⟨k, ls, q, st⟩ ⟨hk, hll, hls, ho⟩ ih
    dsimp only at hk hll hls ho
    have g5 := ho.get (upd_same _ b5 _)
    simp (disch := omega) only [go_sem]
    first | refine iteW_dec (fun h1 => ?_) (fun h1 => ?_) | refine iteW_of (fun h1 => ?_) (fun h1 => ?_)
    · simp (disch := omega) only [go_sem]
      refine W_loopC (α := Nat × List (Bool × List Int) × V × St) (fun p => p.1 ≤ M ∧ p.2.1.length ≤ 4 + k * 16 + p.1 * 4 ∧ RowsOK VV p.2.1 ∧ OwnL (upd s0 b5 [.int .i64 VV, p.2.2.1]) 1 (clsF p.2.1) p.2.2.1 p.2.2.2) (fun p => [(2, .ptr b2 0), (3, .int .i64 (N : Int)), (4, .int .i64 (M : Int)), (5, .ptr b5 0), (9, .int .i64 (k : Nat)), (10, .int .i64 (p.1 : Nat))]) (fun p => p.2.2.2) (fun p => M - p.1) (0, ls, q, st) ⟨by simp, by simp only; omega, hls, ho⟩ (by simp (disch := omega) only [subT, Int.natCast_add, Int.cast_ofNat_Int, go_sem] <;> (repeat' apply And.intro) <;> first | rfl | (congr 1; omega) | assumption) rfl ?_
      clear ho g5 hls hll
      rintro ⟨i, ls, q, st⟩ ⟨hi, hll, hls, ho⟩ ih2
      dsimp only at hi hll hls ho
      have g5 := ho.get (upd_same _ b5 _)
      simp (disch := omega) only [go_sem]
      first | refine iteW_dec (fun h2 => ?_) (fun h2 => ?_) | refine iteW_of (fun h2 => ?_) (fun h2 => ?_)
      · obtain ⟨r1, r2⟩ := hrow i (by omega)
        obtain ⟨p, hp⟩ : ∃ p, (i : Int) * (N : Int) = p := ⟨_, rfl⟩
        rw [hp] at r1 r2
        simp (disch := omega) only [go_sem]
        refine W_loopC (α := Nat × List (Bool × List Int) × V × St) (fun p => p.1 ≤ i ∧ p.2.1.length ≤ 4 + k * 16 + i * 4 + p.1 ∧ RowsOK VV p.2.1 ∧ OwnL (upd s0 b5 [.int .i64 VV, p.2.2.1]) 1 (clsF p.2.1) p.2.2.1 p.2.2.2) (fun p => [(2, .ptr b2 0), (3, .int .i64 (N : Int)), (4, .int .i64 (M : Int)), (5, .ptr b5 0), (9, .int .i64 (k : Nat)), (10, .int .i64 (i : Nat)), (11, .int .i64 (p.1 : Nat))]) (fun p => p.2.2.2) (fun p => i - p.1) (0, ls, q, st) ⟨by simp, by simp only; omega, hls, ho⟩ (by simp (disch := omega) only [subT, Int.natCast_add, Int.cast_ofNat_Int, go_sem] <;> (repeat' apply And.intro) <;> first | rfl | (congr 1; omega) | assumption) rfl ?_
        clear ho g5 hls hll
        rintro ⟨j, ls, q, st⟩ ⟨hj, hll, hls, ho⟩ ih3
        dsimp only at hj hll hls ho
        have g5 := ho.get (upd_same _ b5 _)
        simp (disch := omega) only [go_sem]
        first | refine iteW_dec (fun h3 => ?_) (fun h3 => ?_) | refine iteW_of (fun h3 => ?_) (fun h3 => ?_)
        · obtain ⟨r3, r4⟩ := hrow j (by omega)
          obtain ⟨p2, hp2⟩ : ∃ p, (j : Int) * (N : Int) = p := ⟨_, rfl⟩
          rw [hp2] at r3 r4
          have n1 : (0 : Int) - (p + (k : Int) + 1) = -(p + (k : Int) + 1) := by omega
          have n2 : (0 : Int) - (p2 + (k : Int) + 1) = -(p2 + (k : Int) + 1) := by omega
          simp (disch := omega) only [g5, hp, hp2, n1, n2, go_sem]
          refine SRun.appL ho rfl (isl1_ok true (ints [-(p + (k : Int) + 1), -(p2 + (k : Int) + 1)])) (by simp only [clsF_len, List.length_singleton]; omega) ?_
          intro q9 s9 ho9
          have hap : clsF ls ++ [V.isl true 1 [.int .i64 (-(p + (k : Int) + 1)), .int .i64 (-(p2 + (k : Int) + 1))]] = clsF (ls ++ [(true, [-(p + (k : Int) + 1), -(p2 + (k : Int) + 1)])]) := clsF_app ls true [-(p + (k : Int) + 1), -(p2 + (k : Int) + 1)]
          rw [hap] at ho9
          have g9 := ho9.get (upd_same _ b5 _)
          have ho10 := ho9.upd (c' := [.int .i64 VV, q9]) (upd_same _ b5 _)
          rw [upd_upd] at ho10
          simp (disch := omega) only [g9, ho9.one, ho9.cells, go_sem]
          refine ih3 (j + 1, ls ++ [(true, [-(p + (k : Int) + 1), -(p2 + (k : Int) + 1)])], q9, _) _ _ ⟨by simp only; omega, by simp; omega, hls.snoc (by simp) (fun x hx => ?_), ho10⟩ (by simp only; omega) (by simp (disch := omega) only [subT, Int.natCast_add, Int.cast_ofNat_Int, go_sem] <;> (repeat' apply And.intro) <;> first | rfl | (congr 1; omega) | assumption) rfl
          simp only [List.mem_cons, List.not_mem_nil, or_false] at hx
          rcases hx with rfl | rfl
          · exact ⟨by omega, by omega, by omega⟩
          · exact ⟨by omega, by omega, by omega⟩
        · simp (disch := omega) only [go_sem]
          exact ih2 (i + 1, ls, q, st) _ _ ⟨by simp only; omega, by simp only; omega, hls, ho⟩ (by simp only; omega) (by simp (disch := omega) only [subT, Int.natCast_add, Int.cast_ofNat_Int, go_sem] <;> (repeat' apply And.intro) <;> first | rfl | (congr 1; omega) | assumption) rfl
      · simp (disch := omega) only [go_sem]
        exact ih (k + 1, ls, q, st) _ _ ⟨by simp only; omega, by simp only; omega, hls, ho⟩ (by simp only; omega) (by simp (disch := omega) only [subT, Int.natCast_add, Int.cast_ofNat_Int, go_sem] <;> (repeat' apply And.intro) <;> first | rfl | (congr 1; omega) | assumption) rfl
    · have g2' := ho.get (b := b2) (by rw [upd_ne _ _ e52.symm]; exact g2)
      simp (disch := omega) only [g5, g2', ho.one, ho.cells, go_sem]
      refine W_retC c83_ok (r := .agg [.int .i64 VV, q]) (σ' := upd σ b (srcC ex code a2 s2)) (r' := cnfV VV (ls.map (·.2))) (resV_cellA rfl (upd_same _ _ _) rfl) ?_ ⟨VV, ls.map (·.2), a2, s2, ⟨by omega, by omega⟩, by rw [List.length_map]; omega, hls.cl, by omega, by omega, i6, i7, rfl, rfl⟩
      have n25 : ∀ c, upd s0 b5 [.int .i64 VV, q] c = none → c ≠ b2 := fun c hc e => by
        subst e; rw [upd_ne _ _ e52.symm, g2] at hc; cases hc
      refine ⟨fun c x hx => ?_, frz_agg (by exact ⟨.refl _, ho.frzF (fun c hc => upd_ne _ _ (n25 c hc)) (fun c hc => hσ0 c (upd_none.1 hc).2), trivial⟩) (by simp [V.one])⟩
      have hc0 := hσ1 c x hx
      have hcb5 : c ≠ b5 := fun e => by subst e; rw [hb5] at hc0; cases hc0
      have hcb2 : c ≠ b2 := fun e => by
        subst e
        rw [upd_ne _ _ e2, hb2] at hx; cases hx
      rw [upd_ne _ _ hcb2]
      exact ho.get (by rw [upd_ne _ _ hcb5]; exact hc0)
theorem pigeonsOf_ok {ex : Bool} {code : List UInt8} (hl : code.length ≤ 140737488355328) :
    ACalls Try.prog Γ 35 [codeV ex code] σ fun r σ' => ∃ vars cls, (1 ≤ vars ∧ vars ≤ 12) ∧ cls.length ≤ 60 ∧ Cl vars cls ∧ r = cnfV vars cls ∧ σ' = σ := by
  refine acalls_W c35_ok rfl ?_
  simp (disch := omega) only [c35, codeV, go_sem]
  refine SRun.allocR ?_
  intro b2 hb2
  simp (disch := omega) only [go_sem]
  refine SRun.callQ (source_ok (ex := ex) (code := code) hl) ⟨[], rfl, rfl⟩ rfl ?_
  rintro r σ2 ⟨b, s, hb, h1, h2, rfl, rfl⟩
  have hn := upd_none.1 hb
  simp (disch := omega) only [go_sem]
  refine SRun.callQ (pigeons_ok (upd_same _ _ _) ⟨h1, h2⟩) ⟨[], rfl, rfl⟩ rfl ?_
  rintro r σ2 ⟨vars, cls, a', s', hv, k0, k1, k2, k3, k4, k5, rfl, rfl⟩
  have g2 : ∀ z z2, upd (upd (upd σ b2 [.int .i64 0, .isl true 0 []]) b z) b z2 b2 = some [.int .i64 0, .isl true 0 []] := fun z z2 => by rw [upd_ne _ _ hn.1.symm, upd_ne _ _ hn.1.symm, upd_same]
  simp (disch := omega) only [cnfV, g2, go_sem]
  refine W_retC c35_ok (r := cnfV vars cls) (r' := cnfV vars cls) (σ' := σ) (resV_cellA rfl (upd_same _ _ _) rfl) (Conv.drop _ fun c x hc => ?_) ⟨vars, cls, hv, k0, k1, rfl, rfl⟩
  have hc2 : c ≠ b2 := fun e => by subst e; rw [hb2] at hc; cases hc
  have hcb : c ≠ b := fun e => by subst e; rw [hn.2] at hc; cases hc
  simp only [upd_ne _ _ hc2, upd_ne _ _ hcb]; exact hc
end Go.Proofs.Ytlojopaebdnacaa.Lg
/- Draws: steps of a proof. -/
set_option linter.unusedSimpArgs false
set_option linter.unusedVariables false
namespace Go.Proofs.Ytlojopaebdnacaa.Lg
open Go
section
variable {Γ : St} {σ σ0 : St}
variable {P : Program} {f : FuncId} {n : Nat} {Q : V → St → Prop} {k : List It} {T : Ts}
/-- One block is written, the rest is read, and new blocks may come. -/
theorem DRun.mixR1 {b : Nat} {c : List V} {t : DT} {segs : List DT} (hb : σ b = some c) (R : Ts → St → Prop) (hr : rdOK t = true) (h : DSW P Γ (del σ b) t T (upd emp b c) R) (hk : ∀ T s, R T s → WD P Γ f n Q k segs T (cup s (del σ b))) : DRun P Γ f n Q (t :: segs) k T σ := by
  with_unfolding_all exact ⟨upd emp b c, del σ b, (fun m => by
    by_cases e : m = b
    · subst e; exact .inr (del_same _ _)
    · exact .inl (by rw [upd_ne _ _ e]; rfl)), (by
    funext m
    by_cases e : m = b
    · subst e; simp [cup, upd, hb]
    · simp [cup, upd, emp, del, e]), DS.mono (fun T s hR => (hk T s hR).sound) (DS.of hr h)⟩
theorem cup_del2 {b b2 : Nat} {c z : List V} (hne : b2 ≠ b) : cup (upd (upd emp b c) b2 z) (del σ b) = upd (upd σ b c) b2 z := by
  funext m
  by_cases e2 : m = b2
  · subst e2; simp [cup, upd]
  · by_cases e : m = b
    · subst e; simp [cup, upd, e2]
    · simp [cup, upd, emp, del, e, e2]
end
attribute [local irreducible] SRun DS DRun
variable {Γ : St} {σ σ0 : St}
def StepsOK (vars : Int) (st : List (Bool × List Int)) : Prop := ∀ s ∈ st, s.2.length ≤ 12 ∧ ∀ x ∈ s.2, litOK vars x
theorem refA_steps {vars : Int} {cls : List (List Int)} (hv : 1 ≤ vars) (hc : Cl vars cls) (hl : cls.length ≤ 300) : (refA vars cls).1.length ≤ 200 ∧ StepsOK vars (refA vars cls).1 := by
  have ht := refP_top (by omega) (hc.ok (by omega))
  have hA := refA.eq_1 vars cls
  generalize hR : refP vars cls (vars.toNat + 2) [] [] = R at *
  obtain ⟨out, c⟩ := R
  by_cases h0 : c = 0
  · subst h0
    obtain ⟨_, _, h3⟩ := refP_proof (by omega) hc (by omega) hR (by have := ht.2; simp only at this; omega)
    have hA2 : refA vars cls = (adds out, 0) := hA
    rw [hA2]
    refine ⟨by rw [adds_len]; exact ht.2, fun s hs => ?_⟩
    simp only [adds, List.mem_map] at hs
    obtain ⟨d, hd, rfl⟩ := hs
    exact h3 d hd
  · have h0' : (c == 0) = false := by simpa using h0
    have hA2 : refA vars cls = ([], c) := by rw [hA]; simp only [h0', cond_false]
    rw [hA2]
    exact ⟨by simp, fun s hs => by cases hs⟩
theorem StepsOK.ins {vars : Int} {st : List (Bool × List Int)} {x : Bool × List Int} {k : Nat} (h : StepsOK vars st) (hx : x.2.length ≤ 12 ∧ ∀ y ∈ x.2, litOK vars y) : StepsOK vars (st.take k ++ [x] ++ st.drop k) := fun s hs => by
  simp only [List.mem_append, List.mem_singleton] at hs
  rcases hs with (hs | rfl) | hs
  · exact h s (List.mem_of_mem_take hs)
  · exact hx
  · exact h s (List.mem_of_mem_drop hs)
set_option maxHeartbeats 8000000 in
theorem steps_ok {b : Nat} {ex : Bool} {code : List UInt8} {s : Int} {vars : Int} {cls : List (List Int)} (hb : σ b = some (srcC ex code 0 s)) (hs : 0 ≤ s ∧ s < 2147483648) (hv : 1 ≤ vars ∧ vars ≤ 40) (hc : Cl vars cls) (hl : cls.length ≤ 300) (hcn : cnfB vars cls = true) :
    ACalls Try.prog Γ 84 [.ptr b 0, cnfV vars cls] σ fun r σ' => ∃ out a' s', out.length ≤ 202 ∧ StepsOK vars out ∧ r = .isl false 2 (stepsV out) ∧ σ' = upd σ b (srcC ex code a' s') := by
  have hst := refA_steps hv.1 hc hl
  refine acalls_W c84_ok rfl ?_
  simp (disch := omega) only [c84, cnfV, go_sem]
  refine SRun.boxR (by simp [ev, look, V.cells, V.one]) ?_
  intro b3 hb3
  have e3 : b3 ≠ b := fun e => by subst e; rw [hb] at hb3; cases hb3
  have hS : ∀ a s, upd (upd σ b3 [.int .i64 vars, .isl false 1 (clsV cls)]) b (srcC ex code a s) b3 = some [.int .i64 vars, .isl false 1 (clsV cls)] := fun a s => by rw [upd_ne _ _ e3, upd_same]
  have hfin : ∀ a s, ∀ c x, upd σ b (srcC ex code a s) c = some x → upd (upd σ b3 [.int .i64 vars, .isl false 1 (clsV cls)]) b (srcC ex code a s) c = some x := fun a s c x hx => by
    by_cases e : c = b
    · subst e; rw [upd_same] at hx ⊢; exact hx
    · rw [upd_ne _ _ e] at hx ⊢
      rw [upd_ne _ _ (fun e => by subst e; rw [hb3] at hx; cases hx)]; exact hx
  have h0 : upd σ b3 [.int .i64 vars, .isl false 1 (clsV cls)] = upd (upd σ b3 [.int .i64 vars, .isl false 1 (clsV cls)]) b (srcC ex code 0 s) := by
    exact (upd_self _ (by rw [upd_ne _ _ e3.symm]; exact hb)).symm
  simp (disch := omega) only [go_sem]
  rw [h0]
  generalize hB : upd σ b3 [.int .i64 vars, .isl false 1 (clsV cls)] = B at *
  clear h0
  have hS0 := hS 0 s
  refine SRun.callR (specRefutation_ok hcn hv.1) ⟨[], rfl, rfl⟩ rfl ?_
  generalize refA vars cls = A at *
  obtain ⟨out0, c⟩ := A
  dsimp only at hst
  have hnil : StepsOK vars [] := fun s hs => by cases hs
  by_cases hc0 : c = 0
  case' pos =>
    subst hc0
    have d0 : (decide ¬ (0 : Int) = 0) = false := by simp
    simp (disch := omega) only [d0, go_sem]
    refine SRun.callQ (chance_ok (upd_same _ _ _) (by omega) hs (by omega)) ⟨[], rfl, rfl⟩ rfl ?_
    rintro r σ1 ⟨v, a1, s1, j1, j2, j3, j4, rfl, rfl⟩
    rw [upd_upd]
    cases v
    case' true =>
      simp (disch := omega) only [go_sem]
      obtain ⟨e1, out1, hst1, hq⟩ : ∃ e1 out1, (out1.length ≤ 200 ∧ StepsOK vars out1) ∧ V.isl true 2 [] = .isl e1 2 (stepsV out1) := ⟨true, [], ⟨by simp, hnil⟩, rfl⟩
    case' false =>
      simp (disch := omega) only [go_sem]
      obtain ⟨e1, out1, hst1, hq⟩ : ∃ e1 out1, (out1.length ≤ 200 ∧ StepsOK vars out1) ∧ V.isl false 2 (stepsV out0) = .isl e1 2 (stepsV out1) := ⟨false, out0, hst, rfl⟩
  case' neg =>
    have d0 : (decide ¬ c = 0) = true := by simp [hc0]
    simp (disch := omega) only [d0, go_sem]
    obtain ⟨a1, s1, j1, j2, j3, j4, hss⟩ : ∃ a1 s1, 0 ≤ a1 ∧ a1 ≤ 0 + 3 ∧ 0 ≤ s1 ∧ s1 < 2147483648 ∧ upd B b (srcC ex code 0 s) = upd B b (srcC ex code a1 s1) := ⟨0, s, by omega, by omega, hs.1, hs.2, rfl⟩
    rw [hss]
    clear hss
    obtain ⟨e1, out1, hst1, hq⟩ : ∃ e1 out1, (out1.length ≤ 200 ∧ StepsOK vars out1) ∧ V.isl true 2 [] = .isl e1 2 (stepsV out1) := ⟨true, [], ⟨by simp, hnil⟩, rfl⟩
  all_goals
    refine SRun.freeze (σ' := upd B b (srcC ex code a1 s1)) (T' := [(0, .ptr b 0), (3, .ptr b3 0), (5, .isl e1 2 (stepsV out1)), (22, .ptr b 0)]) (fun _ _ h => h) ⟨.refl _, .refl _, by rw [← hq]; exact .refl _, .refl _, trivial⟩ ?_
    clear hq
    refine SRun.callQ (next_ok (upd_same _ _ _) (by omega) ⟨j3, j4⟩) ⟨[], rfl, rfl⟩ rfl ?_
    rintro r σ1 ⟨m0, a2, s2, i1, _, i3, i4, i5, i6, i7, rfl, rfl⟩
    have hm0 := i3 (by omega)
    rw [upd_upd]
    obtain ⟨M, rfl⟩ : ∃ M : Nat, m0 = M := ⟨m0.toNat, by omega⟩
    simp (disch := omega) only [go_sem]
    refine W_loopC (α := Nat × Bool × List (Bool × List Int) × Int × Int) (fun p => p.1 ≤ 2 ∧ p.2.2.1.length + p.1 ≤ 202 ∧ StepsOK vars p.2.2.1 ∧ (0 ≤ p.2.2.2.1 ∧ p.2.2.2.1 + 60 * (p.1 : Int) ≤ 1000) ∧ (0 ≤ p.2.2.2.2 ∧ p.2.2.2.2 < 2147483648)) (fun p => [(0, .ptr b 0), (3, .ptr b3 0), (5, .isl p.2.1 2 (stepsV p.2.2.1)), (7, .int .i64 (p.1 : Nat))]) (fun p => upd B b (srcC ex code p.2.2.2.1 p.2.2.2.2)) (fun p => p.1) (M, e1, out1, a2, s2) ⟨by simp only; omega, by simp only; omega, hst1.2, ⟨by simp only; omega, by simp only; omega⟩, ⟨i6, i7⟩⟩ (by simp (disch := omega) only [subT, Int.natCast_add, Int.cast_ofNat_Int, go_sem] <;> (repeat' apply And.intro) <;> first | rfl | (congr 1; omega) | assumption) rfl ?_
    clear hst1 i1 i3 i4 i5 i6 i7 j1 j2 j3 j4 hm0
    rintro ⟨m, e, out, a, s⟩ ⟨hm, hol, hok, ha, hs2⟩ ih
    dsimp only at hm hol hok ha hs2
    have gb : upd B b (srcC ex code a s) b = some (srcC ex code a s) := upd_same _ _ _
    simp (disch := omega) only [go_sem]
    first | refine iteW_dec (fun h1 => ?_) (fun h1 => ?_) | refine iteW_of (fun h1 => ?_) (fun h1 => ?_)
    · simp (disch := omega) only [go_sem]
      rw [W_draw]
      have g3d : del (upd B b (srcC ex code a s)) b b3 = some [.int .i64 vars, .isl false 1 (clsV cls)] := by rw [del_ne _ e3]; exact hS a s
      refine DRun.start (DRun.mixR1 gb (fun T s' => ∃ v a4 s4 xs b8, (a ≤ a4 ∧ a4 ≤ a + 30) ∧ (0 ≤ s4 ∧ s4 < 2147483648) ∧ (xs.length ≤ 12 ∧ ∀ x ∈ xs, litOK vars x) ∧ b8 ≠ b ∧ upd B b (srcC ex code a s) b8 = none ∧ s' = upd (upd emp b (srcC ex code a4 s4)) b8 [.bool false, .isl true 0 []] ∧ look T 0 = .ptr b 0 ∧ look T 3 = .ptr b3 0 ∧ look T 5 = .isl e 2 (stepsV out) ∧ look T 7 = .int .i64 (m : Nat) ∧ look T 8 = .ptr b8 0 ∧ look T 36 = .agg [.bool v, .isl false 1 (ints xs)]) rfl ?_ ?_)
      · have hfree : ∀ {b10 : Nat} {z y : List V}, disj (upd (upd emp b z) b10 y) (del (upd B b (srcC ex code a s)) b) → (upd emp b z) b10 = none → b10 ≠ b ∧ upd B b (srcC ex code a s) b10 = none := fun {b10 z y} hd hn => by
          have e := (upd_none.1 hn).1
          refine ⟨e, ?_⟩
          have := (hd b10).resolve_left (by rw [upd_same]; simp)
          rwa [del_ne _ e] at this
        simp (disch := omega) only [g3d, go_sem]
        refine DS.wr2 (WrF.call (chance_ok (n := 3) (upd_same emp b (srcC ex code a s)) (by omega) hs2 (by omega)) ⟨[], rfl, rfl⟩) rfl ?_ ?_
        · rintro r sx ⟨v, a4, s4, w1, w2, w3, w4, rfl, rfl⟩ _
          rw [upd_upd]
          simp (disch := omega) only [go_sem]
          refine DS.wr2 (WrF.call (next_ok (n := 4) (upd_same emp b (srcC ex code a4 s4)) (by omega) ⟨w3, w4⟩) ⟨[], rfl, rfl⟩) rfl ?_ ?_
          · rintro r sx ⟨u, a5, s5, x1, _, x3, x4, x5, x6, x7, rfl, rfl⟩ _
            have hu := x3 (by omega)
            rw [upd_upd]
            simp (disch := omega) only [go_sem]
            refine DS.wr2 (WrF.call (clause_frz (vars := vars) (n := u) (upd_same emp b (srcC ex code a5 s5)) (by omega) ⟨x6, x7⟩ (by omega) (by omega)) ⟨[], rfl, rfl⟩) rfl ?_ ?_
            · rintro r sx ⟨xs, a6, s6, y1, _, y3, y4, y5, y6, y7, rfl, rfl⟩ _
              rw [upd_upd]
              simp (disch := omega) only [intsV, go_sem]
              refine DS.wrQ WrF.alloc rfl ?_
              rintro _ s9 ⟨b8, hb8, rfl, rfl⟩ hd9
              obtain ⟨f1, f2⟩ := hfree hd9 hb8
              refine ⟨v, a6, s6, xs, b8, ⟨by omega, by omega⟩, ⟨y6, y7⟩, ⟨by omega, y3⟩, f1, f2, rfl, ?_⟩
              (repeat' apply And.intro) <;> rfl
            · refine DS.wrQ WrF.alloc rfl ?_
              rintro _ s9 ⟨b8, hb8, rfl, rfl⟩ hd9
              obtain ⟨f1, f2⟩ := hfree hd9 hb8
              simp (disch := omega) only [go_sem]
              refine DS.wrQ (WrF.call (clause_frz (vars := vars) (n := u) (by rw [upd_ne _ _ f1.symm, upd_same]) (by omega) ⟨x6, x7⟩ (by omega) (by omega)) ⟨[], rfl, rfl⟩) rfl ?_
              rintro r sx ⟨xs, a6, s6, y1, _, y3, y4, y5, y6, y7, rfl, rfl⟩ _
              rw [upd_comm _ f1, upd_upd]
              simp (disch := omega) only [intsV, go_sem]
              refine ⟨v, a6, s6, xs, b8, ⟨by omega, by omega⟩, ⟨y6, y7⟩, ⟨by omega, y3⟩, f1, f2, rfl, ?_⟩
              (repeat' apply And.intro) <;> rfl
          · refine DS.wrQ WrF.alloc rfl ?_
            rintro _ s9 ⟨b8, hb8, rfl, rfl⟩ hd9
            obtain ⟨f1, f2⟩ := hfree hd9 hb8
            simp (disch := omega) only [go_sem]
            refine DS.wrQ (WrF.call (next_ok (n := 4) (by rw [upd_ne _ _ f1.symm, upd_same]) (by omega) ⟨w3, w4⟩) ⟨[], rfl, rfl⟩) rfl ?_
            rintro r sx ⟨u, a5, s5, x1, _, x3, x4, x5, x6, x7, rfl, rfl⟩ _
            have hu := x3 (by omega)
            rw [upd_comm _ f1, upd_upd]
            simp (disch := omega) only [go_sem]
            refine DS.wrQ (WrF.call (clause_frz (vars := vars) (n := u) (by rw [upd_ne _ _ f1.symm, upd_same]) (by omega) ⟨x6, x7⟩ (by omega) (by omega)) ⟨[], rfl, rfl⟩) rfl ?_
            rintro r sx ⟨xs, a6, s6, y1, _, y3, y4, y5, y6, y7, rfl, rfl⟩ _
            rw [upd_comm _ f1, upd_upd]
            simp (disch := omega) only [intsV, go_sem]
            refine ⟨v, a6, s6, xs, b8, ⟨by omega, by omega⟩, ⟨y6, y7⟩, ⟨by omega, y3⟩, f1, f2, rfl, ?_⟩
            (repeat' apply And.intro) <;> rfl
        · refine DS.wrQ WrF.alloc rfl ?_
          rintro _ s9 ⟨b8, hb8, rfl, rfl⟩ hd9
          obtain ⟨f1, f2⟩ := hfree hd9 hb8
          simp (disch := omega) only [go_sem]
          refine DS.wrQ (WrF.call (chance_ok (n := 3) (by rw [upd_ne _ _ f1.symm, upd_same]) (by omega) hs2 (by omega)) ⟨[], rfl, rfl⟩) rfl ?_
          rintro r sx ⟨v, a4, s4, w1, w2, w3, w4, rfl, rfl⟩ _
          rw [upd_comm _ f1, upd_upd]
          simp (disch := omega) only [go_sem]
          refine DS.wrQ (WrF.call (next_ok (n := 4) (by rw [upd_ne _ _ f1.symm, upd_same]) (by omega) ⟨w3, w4⟩) ⟨[], rfl, rfl⟩) rfl ?_
          rintro r sx ⟨u, a5, s5, x1, _, x3, x4, x5, x6, x7, rfl, rfl⟩ _
          have hu := x3 (by omega)
          rw [upd_comm _ f1, upd_upd]
          simp (disch := omega) only [go_sem]
          refine DS.wrQ (WrF.call (clause_frz (vars := vars) (n := u) (by rw [upd_ne _ _ f1.symm, upd_same]) (by omega) ⟨x6, x7⟩ (by omega) (by omega)) ⟨[], rfl, rfl⟩) rfl ?_
          rintro r sx ⟨xs, a6, s6, y1, _, y3, y4, y5, y6, y7, rfl, rfl⟩ _
          rw [upd_comm _ f1, upd_upd]
          simp (disch := omega) only [intsV, go_sem]
          refine ⟨v, a6, s6, xs, b8, ⟨by omega, by omega⟩, ⟨y6, y7⟩, ⟨by omega, y3⟩, f1, f2, rfl, ?_⟩
          (repeat' apply And.intro) <;> rfl
      rintro T s' ⟨v, a4, s4, xs, b8, ha4, hs4, hxs, f1, f2, rfl, k0, k3, k5, k7, k8, k36⟩
      rw [cup_del2 f1, upd_upd]
      have e83 : b8 ≠ b3 := fun e => by subst e; rw [hS a s] at f2; cases f2
      have m8 := upd_same (upd B b (srcC ex code a4 s4)) b8 [.bool false, .isl true 0 []]
      simp (disch := omega) only [k8, k36, m8, go_sem]
      have M3 : ∀ a s Y, upd (upd B b (srcC ex code a s)) b8 Y b3 = some [.int .i64 vars, .isl false 1 (clsV cls)] := fun a s Y => by rw [upd_ne _ _ e83.symm]; exact hS a s
      have Mb : ∀ a s Y, upd (upd B b (srcC ex code a s)) b8 Y b = some (srcC ex code a s) := fun a s Y => by rw [upd_ne _ _ f1.symm, upd_same]
      have M8 : ∀ a s Y, upd (upd B b (srcC ex code a s)) b8 Y b8 = some Y := fun a s Y => upd_same _ _ _
      have Mu : ∀ a s a' s' Y, upd (upd (upd B b (srcC ex code a s)) b8 Y) b (srcC ex code a' s') = upd (upd B b (srcC ex code a' s')) b8 Y := fun a s a' s' Y => by rw [upd_comm _ f1, upd_upd]
      cases v
      case' false =>
        simp (disch := omega) only [k0, k5, go_sem]
        obtain ⟨v2, a5, s5, xs2, hv5, hs5, hx5, hss⟩ : ∃ v2 a5 s5 xs2, (a ≤ a5 ∧ a5 ≤ a + 40) ∧ (0 ≤ s5 ∧ s5 < 2147483648) ∧ (xs2.length ≤ 12 ∧ ∀ x ∈ xs2, litOK vars x) ∧ upd (upd B b (srcC ex code a4 s4)) b8 [.bool false, .isl false 1 (ints xs)] = upd (upd B b (srcC ex code a5 s5)) b8 [.bool v2, .isl false 1 (ints xs2)] := ⟨false, a4, s4, xs, by omega, hs4, hxs, rfl⟩
      case' true =>
        simp (disch := omega) only [k0, k3, k5, M3, clsV_len, go_sem]
        by_cases hpos : (cls.length : Int) > 0
        case' neg =>
          have d2 := decide_eq_false hpos
          simp (disch := omega) only [d2, k0, k5, go_sem]
          obtain ⟨v2, a5, s5, xs2, hv5, hs5, hx5, hss⟩ : ∃ v2 a5 s5 xs2, (a ≤ a5 ∧ a5 ≤ a + 40) ∧ (0 ≤ s5 ∧ s5 < 2147483648) ∧ (xs2.length ≤ 12 ∧ ∀ x ∈ xs2, litOK vars x) ∧ upd (upd B b (srcC ex code a4 s4)) b8 [.bool true, .isl false 1 (ints xs)] = upd (upd B b (srcC ex code a5 s5)) b8 [.bool v2, .isl false 1 (ints xs2)] := ⟨true, a4, s4, xs, by omega, hs4, hxs, rfl⟩
        case' pos =>
          have d2 := decide_eq_true hpos
          simp (disch := omega) only [d2, k0, k5, go_sem]
          refine SRun.callQ (chance_ok (n := 2) (Mb _ _ _) (by omega) hs4 (by omega)) ⟨[], rfl, rfl⟩ rfl ?_
          rintro r s9 ⟨w, a6, s6, z1, z2, z3, z4, rfl, rfl⟩
          rw [Mu]
          cases w
          case' false =>
            simp (disch := omega) only [k0, k5, go_sem]
            obtain ⟨v2, a5, s5, xs2, hv5, hs5, hx5, hss⟩ : ∃ v2 a5 s5 xs2, (a ≤ a5 ∧ a5 ≤ a + 40) ∧ (0 ≤ s5 ∧ s5 < 2147483648) ∧ (xs2.length ≤ 12 ∧ ∀ x ∈ xs2, litOK vars x) ∧ upd (upd B b (srcC ex code a6 s6)) b8 [.bool true, .isl false 1 (ints xs)] = upd (upd B b (srcC ex code a5 s5)) b8 [.bool v2, .isl false 1 (ints xs2)] := ⟨true, a6, s6, xs, by omega, ⟨z3, z4⟩, hxs, rfl⟩
          case' true =>
            simp (disch := omega) only [k0, k3, k5, M3, go_sem]
            rw [W_draw]
            refine DRun.start (DRun.mix1 (Mb _ _ _) rfl ?_)
            have g3e : ∀ Y, del (upd (upd B b (srcC ex code a6 s6)) b8 Y) b b3 = some [.int .i64 vars, .isl false 1 (clsV cls)] := fun Y => by rw [del_ne _ e3]; exact M3 _ _ _
            simp (disch := omega) only [k0, k3, g3e, clsV_len, go_sem]
            refine DS.callQ (next_ok (upd_same emp b (srcC ex code a6 s6)) (by omega) ⟨z3, z4⟩) ⟨[], rfl, rfl⟩ rfl ?_
            rintro r sx ⟨j, a7, s7, p1, _, p3, p4, p5, p6, p7, rfl, rfl⟩ _
            have hj := p3 (by omega)
            rw [upd_upd]
            simp (disch := omega) only [go_sem]
            refine ⟨_, rfl, ?_⟩
            rw [Mu]
            obtain ⟨j, rfl⟩ : ∃ j' : Nat, j = j' := ⟨j.toNat, by omega⟩
            have hcj := hc _ (getD_mem [] (by omega : j < cls.length))
            simp (disch := omega) only [k8, k0, k5, M8, intsV, go_sem]
            obtain ⟨v2, a5, s5, xs2, hv5, hs5, hx5, hss⟩ : ∃ v2 a5 s5 xs2, (a ≤ a5 ∧ a5 ≤ a + 40) ∧ (0 ≤ s5 ∧ s5 < 2147483648) ∧ (xs2.length ≤ 12 ∧ ∀ x ∈ xs2, litOK vars x) ∧ upd (upd B b (srcC ex code a7 s7)) b8 [.bool true, .isl false 1 (ints (cls.getD j []))] = upd (upd B b (srcC ex code a5 s5)) b8 [.bool v2, .isl false 1 (ints xs2)] := ⟨true, a7, s7, cls.getD j [], by omega, ⟨p6, p7⟩, hcj, rfl⟩
      all_goals
        refine SRun.freeze (σ' := upd (upd B b (srcC ex code a5 s5)) b8 [.bool v2, .isl false 1 (ints xs2)]) (T' := [(0, .ptr b 0), (3, .ptr b3 0), (5, .isl e 2 (stepsV out)), (7, .int .i64 (m : Nat)), (8, .ptr b8 0), (59, .ptr b 0), (62, .int .i64 ((out.length : Int) + 1))]) (by rw [hss]; exact fun _ _ h => h) ⟨?_, ?_, ?_, ?_, ?_, ?_, ?_, trivial⟩ ?_
        · simp only [look_cons, Nat.reduceEqDiff, ↓reduceIte, k0]; exact .refl _
        · simp only [look_cons, Nat.reduceEqDiff, ↓reduceIte, k3]; exact .refl _
        · simp only [look_cons, Nat.reduceEqDiff, ↓reduceIte, k5]; exact .refl _
        · simp only [look_cons, Nat.reduceEqDiff, ↓reduceIte, k7]; exact .refl _
        · simp only [look_cons, Nat.reduceEqDiff, ↓reduceIte, k8]; exact .refl _
        · simp only [look_cons, Nat.reduceEqDiff, ↓reduceIte]; exact .refl _
        · simp only [look_cons, Nat.reduceEqDiff, ↓reduceIte]; exact .refl _
        clear hss k0 k3 k5 k7 k8 k36
        refine SRun.callQ (next_ok (Mb _ _ _) (by omega) hs5) ⟨[], rfl, rfl⟩ rfl ?_
        rintro r sx ⟨kk, a8, s8, q1, _, q3, q4, q5, q6, q7, rfl, rfl⟩
        have hkk := q3 (by omega)
        rw [Mu]
        obtain ⟨kk, rfl⟩ : ∃ k' : Nat, kk = k' := ⟨kk.toNat, by omega⟩
        simp (disch := omega) only [go_sem]
        have t1 : List.take ((kk : Int) - 0).toNat (stepsV out) = stepsV (out.take kk) := by rw [show ((kk : Int) - 0).toNat = kk by omega]; simp [stepsV, List.map_take]
        have t2 : List.take ((out.length : Int) - kk).toNat (List.drop kk (stepsV out)) = stepsV (out.drop kk) := by rw [List.take_of_length_le (by rw [List.length_drop, stepsV_len]; omega)]; simp [stepsV, List.map_drop]
        have hx1 : ∀ y ∈ [V.agg [.bool v2, .isl false 1 (ints xs2)]], y.cells.length = 2 ∧ ∀ c ∈ y.cells, c.one = true := stepsV_ok [(v2, xs2)]
        rw [W_draw]
        refine DRun.start (DRun.mixN rfl ?_)
        simp (disch := omega) only [M8, go_sem]
        refine DS.wrQ (WrF.appL (OwnL.nil (σ0 := emp) 2 2) (congrArg (V.isl _ 2) t1) (stepsV_ok (out.take kk)) (by simp only [stepsV_len, List.length_nil, List.length_take]; omega)) rfl ?_
        intro w1 y1 hr1 _
        have hr1' := OwnL.of_app (OwnL.nil (σ0 := emp) 2 2) (stepsV_ok (out.take kk)) hr1
        rw [List.nil_append] at hr1'
        simp (disch := omega) only [go_sem]
        refine DS.wrQ (WrF.appL hr1' rfl hx1 (by simp only [stepsV_len, List.length_take, List.length_singleton]; omega)) rfl ?_
        intro w2 y2 hr2 hdj
        have hr2' := OwnL.of_app hr1' hx1 hr2
        have hr2e : stepsV (out.take kk) ++ [V.agg [.bool v2, .isl false 1 (ints xs2)]] = stepsV (out.take kk ++ [(v2, xs2)]) := steps_app _ (v2, xs2)
        rw [hr2e] at hr2'
        have hr3 := ownL_join hr2' hdj
        simp (disch := omega) only [go_sem]
        refine DRun.appL hr3 (congrArg (V.isl _ 2) t2) (stepsV_ok (out.drop kk)) (by simp only [stepsV_len, List.length_append, List.length_take, List.length_singleton, List.length_drop]; omega) ?_
        intro w3 y3 hr4
        have he : stepsV (out.take kk ++ [(v2, xs2)]) ++ stepsV (out.drop kk) = stepsV (out.take kk ++ [(v2, xs2)] ++ out.drop kk) := by simp [stepsV]
        rw [he] at hr4
        have hnl : (out.take kk ++ [(v2, xs2)] ++ out.drop kk).length = out.length + 1 := by simp only [List.length_append, List.length_take, List.length_singleton, List.length_drop]; omega
        have hok2 := hok.ins (k := kk) (x := (v2, xs2)) hx5
        generalize out.take kk ++ [(v2, xs2)] ++ out.drop kk = out2 at *
        simp (disch := omega) only [go_sem]
        have n8 : upd B b (srcC ex code a8 s8) b8 = none := by rw [upd_ne _ _ f1]; rw [upd_ne _ _ f1] at f2; exact f2
        obtain ⟨s9, r1, r2⟩ := hr4.drop n8
        obtain ⟨m, rfl⟩ : ∃ m', m = m' + 1 := ⟨m - 1, by omega⟩
        have hm1 : (((m + 1 : Nat) : Int) - 1) = (m : Int) := by omega
        refine W_freezeL (σ' := upd B b (srcC ex code a8 s8)) (T' := [(0, .ptr b 0), (3, .ptr b3 0), (5, .isl false 2 (stepsV out2)), (7, .int .i64 (m : Nat))]) (fun c x h => r1 c x (r2.le c x h)) (by
          refine ⟨.refl _, .refl _, ?_, ?_, trivial⟩
          · exact hr4.frz (fun _ _ => rfl) (fun c hc => (upd_none.1 hc).2)
          · rw [← hm1]; exact .refl _) ?_
        exact ih (m, false, out2, a8, s8) _ _ ⟨by simp only; omega, by simp only; omega, hok2, ⟨by simp only; omega, by simp only; omega⟩, ⟨q6, q7⟩⟩ (by simp only; omega) (by simp (disch := omega) only [subT, Int.natCast_add, Int.cast_ofNat_Int, go_sem] <;> (repeat' apply And.intro) <;> first | rfl | (congr 1; omega) | assumption) rfl
    · simp (disch := omega) only [go_sem]
      exact W_retC c84_ok (r := .isl e 2 (stepsV out)) (r' := .isl false 2 (stepsV out)) (σ' := upd σ b (srcC ex code a s)) rfl ⟨hfin a s, .isl _ _ _⟩ ⟨out, a, s, by omega, hok, rfl, rfl⟩
end Go.Proofs.Ytlojopaebdnacaa.Lg
/- The law FnProofs over its code: the draw, and the run. -/
set_option linter.unusedSimpArgs false
set_option linter.unusedVariables false
namespace Go.Proofs.Ytlojopaebdnacaa.Lg
open Go
attribute [local irreducible] SRun DS DRun
variable {Γ : St} {σ σ0 : St}
theorem stepsOf_ok {ex : Bool} {code : List UInt8} {vars : Int} {cls : List (List Int)} (hl : code.length ≤ 140737488355328) (hv : 1 ≤ vars) (hcn : cnfB vars cls = true) :
    ACalls Try.prog Γ 36 [codeV ex code, cnfV vars cls] σ fun r σ' => ∃ out, out.length ≤ 202 ∧ StepsOK vars out ∧ r = .isl false 2 (stepsV out) ∧ σ' = σ := by
  obtain ⟨hc, hv0, hv40, hcl⟩ := clsOK_of hcn
  refine acalls_W c36_ok rfl ?_
  simp (disch := omega) only [c36, codeV, cnfV, go_sem]
  refine SRun.boxR (by simp [ev, look, V.cells, V.one]) ?_
  intro b3 hb3
  have g3 := upd_same σ b3 [.int .i64 vars, .isl false 1 (clsV cls)]
  have hle := le_upd (cs := [.int .i64 vars, .isl false 1 (clsV cls)]) hb3
  simp (disch := omega) only [go_sem]
  generalize upd σ b3 [.int .i64 vars, .isl false 1 (clsV cls)] = s3 at *
  rw [W_draw]
  refine DRun.start (DRun.mixN rfl ?_)
  simp (disch := omega) only [g3, go_sem]
  refine DS.callQ (source_ok (σ := emp) (ex := ex) (code := code) hl) ⟨[], rfl, rfl⟩ rfl ?_
  rintro r s2 ⟨b, s, hb, h1, h2, rfl, rfl⟩ hd
  have hb2 := disj_new hd
  simp (disch := omega) only [go_sem]
  rw [cup_new]
  refine DRun.callQ (steps_ok (upd_same _ _ _) ⟨h1, h2⟩ ⟨hv, hv40⟩ (cl_of hcn) hcl hcn) ⟨[], rfl, rfl⟩ ?_
  rintro r s4 ⟨out, a', s', q1, q2, rfl, rfl⟩
  rw [upd_upd]
  simp (disch := omega) only [go_sem]
  exact W_retC c36_ok rfl (Conv.drop _ fun c x h => le_upd hb2 _ _ (hle c x h)) ⟨out, q1, q2, rfl, rfl⟩
theorem byte_in (c : UInt8) : 0 ≤ (c.toNat : Int) ∧ (c.toNat : Int) ≤ 255 := by have := c.toNat_lt; omega
theorem at_ok {ex : Bool} {code : List UInt8} {i n : Int} (hl : code.length ≤ 140737488355328) (hi : 0 ≤ i ∧ i ≤ 1000000) (hn : 2 ≤ n ∧ n ≤ 1000000) : ACalls Try.prog Γ 28 [codeV ex code, .int .i64 i, .int .i64 n] σ fun r σ' => ∃ v : Int, 0 ≤ v ∧ v < n ∧ r = .int .i64 v ∧ σ' = σ := by
  have hlen : (code.map fun c => V.int .u8 (c.toNat : Int)).length = code.length := by simp
  refine acalls_W c28_ok rfl ?_
  simp (disch := omega) only [c28, codeV, go_sem]
  first | refine iteW_dec (fun h0 => ?_) (fun h0 => ?_) | refine iteW_of (fun h0 => ?_) (fun h0 => ?_)
  · have hz : 0 ≤ i * 7 := by omega
    simp (disch := omega) only [go_sem]
    exact W_retR c28_ok rfl ⟨(i * 7).tmod n, Int.tmod_nonneg _ hz, Int.tmod_lt_of_pos _ (by omega), rfl, rfl⟩
  · have hp : 0 < (code.length : Int) := by omega
    have m1 := tmod_in (a := i) (n := code.length) hi.1 hp
    have m2 := tmod_in (a := i + 1) (n := code.length) (by omega) hp
    have d1 : 0 ≤ i.tdiv code.length ∧ i.tdiv code.length ≤ 1000000 := by
      rw [Int.tdiv_eq_ediv_of_nonneg hi.1]
      exact ⟨Int.ediv_nonneg hi.1 (by omega), Int.le_trans (Int.ediv_le_self _ hi.1) hi.2⟩
    simp (disch := omega) only [go_sem]
    refine W_drawW ?_
    have b1 := byte_in (code.getD (i.tmod code.length).toNat default)
    have b2 := byte_in (code.getD ((i + 1).tmod code.length).toNat default)
    simp (disch := omega) only [go_sem]
    exact W_retR c28_ok rfl ⟨_, Int.tmod_nonneg _ (by omega), Int.tmod_lt_of_pos _ (by omega), rfl, rfl⟩
/-- What is said of a proof of any steps. -/
def checkA (vars : Int) (st : List (Bool × List Int)) (cls : List (List Int)) : Nat × Int := bif stepsB vars st then checkP vars st cls 0 else (0, 1)
theorem CheckProofA_ok {ex : Bool} {vars : Int} {cls : List (List Int)} {st : List (Bool × List Int)} (hb : cnfB vars cls = true) (hv : 1 ≤ vars) (hl : st.length ≤ 4096) (hs1 : ∀ s ∈ st, s.2.length ≤ 1000) :
    Ret Try.prog Γ 37 [cnfV vars cls, .isl ex 2 (stepsV st)] σ (.tup [.int .i64 (checkA vars st cls).1, .int .i64 (checkA vars st cls).2]) σ := by
  cases hs : stepsB vars st with
  | true =>
    have e : checkA vars st cls = checkP vars st cls 0 := by unfold checkA; rw [hs]; rfl
    rw [e]
    exact CheckProof_ok hb hv hs
  | false =>
    have e : checkA vars st cls = (0, 1) := by unfold checkA; rw [hs]; rfl
    rw [e]
    obtain ⟨hc, hv0, hv40, hcl⟩ := clsOK_of hb
    have hgt : decide ((st.length : Int) > 4096) = false := decide_eq_false (by omega)
    refine ret_of c37_ok rfl ?_
    simp (disch := omega) only [c37, cnfV, hgt, go_sem]
    refine SRun.boxR (by simp [ev, look, V.cells, V.one]) ?_
    intro b2 hb2
    simp (disch := omega) only [hgt, go_sem]
    refine SRun.callR (isCnf_ok hc.1) ⟨[], rfl, rfl⟩ rfl ?_
    simp (disch := omega) only [hb, go_sem]
    refine SRun.callR (areSteps_ok (by omega) (by omega) fun s h => by have := hs1 s h; omega) ⟨[], rfl, rfl⟩ rfl ?_
    simp (disch := omega) only [hs, go_sem]
    exact W_retC c37_ok rfl (Conv.drop _ (le_upd hb2)) ⟨rfl, rfl⟩
theorem specCheckProofA_ok {ex : Bool} {vars : Int} {cls : List (List Int)} {st : List (Bool × List Int)} (hb : cnfB vars cls = true) (hv : 1 ≤ vars) (hl : st.length ≤ 4096) (hs1 : ∀ s ∈ st, s.2.length ≤ 1000) :
    Ret Try.prog Γ 38 [cnfV vars cls, .isl ex 2 (stepsV st)] σ (.tup [.int .i64 (checkA vars st cls).1, .int .i64 (checkA vars st cls).2]) σ := by
  cases hs : stepsB vars st with
  | true =>
    have e : checkA vars st cls = checkP vars st cls 0 := by unfold checkA; rw [hs]; rfl
    rw [e]
    exact specCheckProof_ok hb hv hs
  | false =>
    have e : checkA vars st cls = (0, 1) := by unfold checkA; rw [hs]; rfl
    rw [e]
    obtain ⟨hc, hv0, hv40, hcl⟩ := clsOK_of hb
    have hgt : decide ((st.length : Int) > 4096) = false := decide_eq_false (by omega)
    refine ret_of c38_ok rfl ?_
    simp (disch := omega) only [c38, cnfV, hgt, go_sem]
    refine SRun.boxR (by simp [ev, look, V.cells, V.one]) ?_
    intro b2 hb2
    simp (disch := omega) only [hgt, go_sem]
    refine SRun.callR (cnfOK_ok hb) ⟨[], rfl, rfl⟩ rfl ?_
    simp (disch := omega) only [go_sem]
    refine SRun.callR (l03Steps_ok (by omega) (by omega) fun s h => by have := hs1 s h; omega) ⟨[], rfl, rfl⟩ rfl ?_
    simp (disch := omega) only [hs, go_sem]
    exact W_retC c38_ok rfl (Conv.drop _ (le_upd hb2)) ⟨rfl, rfl⟩
theorem cnfB_cl {vars : Int} {cls : List (List Int)} (hv : 0 ≤ vars ∧ vars ≤ 40) (hl : cls.length ≤ 300) (h : Cl vars cls) : cnfB vars cls = true := by
  simp only [cnfB, clauseB, Bool.and_eq_true, decide_eq_true_eq, List.all_eq_true]
  exact ⟨⟨⟨hv.1, hv.2⟩, hl⟩, fun c hc => ⟨(h c hc).1, fun x hx => litB_iff.2 ((h c hc).2 x hx)⟩⟩
theorem checkA_sound {vars : Int} {cls : List (List Int)} {st : List (Bool × List Int)} (hb : cnfB vars cls = true) (h : (checkA vars st cls).2 = 0) : (leastA (modelP vars cls)).2 = 6 := by
  obtain ⟨hc, hv0, hv40, hcl⟩ := clsOK_of hb
  unfold checkA at h
  cases hs : stepsB vars st with
  | false => rw [hs] at h; exact absurd h (by simp)
  | true =>
    rw [hs] at h
    obtain ⟨h1, h2⟩ := steps_of hs
    rw [checkP_sound hv0 st cls 0 (cl_of hb) h2 (by omega) h]
    rfl
/-- What the refutation of a formula comes to. -/
theorem refA_law {vars : Int} {cls : List (List Int)} (hb : cnfB vars cls = true) (hv : 1 ≤ vars) : ((refA vars cls).2 = 7 ∨ ((refA vars cls).2 = 6 ∧ (leastA (modelP vars cls)).2 = 0)) ∨ ((refA vars cls).2 = 0 ∧ 1 ≤ (refA vars cls).1.length ∧ checkA vars (refA vars cls).1 cls = ((refA vars cls).1.length - 1, 0)) := by
  obtain ⟨hc, hv0, hv40, hcl⟩ := clsOK_of hb
  have hcl2 := cl_of hb
  have ht := refP_top hv0 hc
  have hA := refA.eq_1 vars cls
  obtain ⟨s1, s2⟩ := refA_steps hv hcl2 hcl
  generalize hR : refP vars cls (vars.toNat + 2) [] [] = R at *
  obtain ⟨out, c⟩ := R
  by_cases h0 : c = 0
  · subst h0
    obtain ⟨h1, h2, h3⟩ := refP_proof hv0 hcl2 (by omega) hR (by have := ht.2; simp only at this; omega)
    have hA2 : refA vars cls = (adds out, 0) := hA
    rw [hA2] at s1 s2 ⊢
    have hsb : stepsB vars (adds out) = true := by
      simp only [stepsB, stepB, clauseB, Bool.and_eq_true, decide_eq_true_eq, List.all_eq_true]
      exact ⟨s1, fun s hs => ⟨(s2 s hs).1, fun x hx => litB_iff.2 ((s2 s hs).2 x hx)⟩⟩
    refine .inr ⟨rfl, by rw [adds_len]; exact h1, ?_⟩
    unfold checkA
    rw [hsb, adds_len]
    exact h2
  · have h0' : (c == 0) = false := by simpa using h0
    have hA2 : refA vars cls = ([], c) := by rw [hA]; simp only [h0', cond_false]
    rw [hA2]
    refine .inl ?_
    rcases ht.1 with h | h | ⟨h, hm⟩
    · exact absurd h h0
    · exact .inl h
    · refine .inr ⟨h, ?_⟩
      cases e : modelP vars cls with
      | none => exact absurd e hm
      | some v => rfl
set_option maxHeartbeats 2000000 in
theorem fnProofs_ok {ex ex2 : Bool} {code more : List UInt8} (hl1 : code.length ≤ 140737488355328) (hl2 : more.length ≤ 140737488355328) : Ret Try.prog Γ 9 [codeV ex code, codeV ex2 more] σ (.bool true) σ := by
  refine ret_of c9_ok rfl ?_
  simp (disch := omega) only [c9, codeV, go_sem]
  first | refine guardW_dec (fun h => ?_) (fun h => ?_) | refine guardW_by (fun h => ?_) (fun h => ?_)
  · simp (disch := omega) only [go_sem]
    refine W_retR c9_ok rfl ⟨?_, rfl⟩
    simp only [look, ev, V.bool.injEq, V.int.injEq, V.str.injEq, V.tup.injEq, V.agg.injEq, V.isl.injEq, List.cons.injEq, true_and, and_true, Nat.reduceEqDiff, Nat.reduceAdd, Nat.reduceSub, Nat.reduceMul, Nat.reducePow, Nat.reduceDiv, Nat.reduceMod, Int.reduceToNat, Nat.reduceLeDiff, Nat.reduceLT, Int.reduceEq, Int.reduceLT, Int.reduceLE, Int.reduceGT, Int.reduceGE, Int.reduceNeg, Int.reduceSub, Int.reduceAdd, Int.reduceMul, Int.reducePow, ne_eq, reduceCtorEq, ↓reduceIte]
  · simp (disch := omega) only [go_sem]
    first | refine iteW_dec (fun h2 => ?_) (fun h2 => ?_) | refine iteW_of (fun h2 => ?_) (fun h2 => ?_)
    · simp (disch := omega) only [go_sem]
      refine W_retR c9_ok rfl ⟨?_, rfl⟩
      simp only [look, ev, V.bool.injEq, V.int.injEq, V.str.injEq, V.tup.injEq, V.agg.injEq, V.isl.injEq, List.cons.injEq, true_and, and_true, Nat.reduceEqDiff, Nat.reduceAdd, Nat.reduceSub, Nat.reduceMul, Nat.reducePow, Nat.reduceDiv, Nat.reduceMod, Int.reduceToNat, Nat.reduceLeDiff, Nat.reduceLT, Int.reduceEq, Int.reduceLT, Int.reduceLE, Int.reduceGT, Int.reduceGE, Int.reduceNeg, Int.reduceSub, Int.reduceAdd, Int.reduceMul, Int.reducePow, ne_eq, reduceCtorEq, ↓reduceIte]
    · simp (disch := omega) only [go_sem]
      refine SRun.callQ (cnfOf_ok (ex := ex) (code := code) hl1) ⟨[], rfl, rfl⟩ rfl ?_
      rintro r s ⟨vars0, cls0, hd, rfl, hs⟩
      obtain rfl := hs.symm
      have hb0 := cnfB_of hd
      have hv0 := hd.1
      simp (disch := omega) only [cnfV, go_sem]
      refine SRun.allocR ?_
      intro b5 hb5
      simp (disch := omega) only [go_sem]
      refine SRun.callQ (at_ok (ex := ex2) (code := more) (i := 0) (n := 3) hl2 (by omega) (by omega)) ⟨[], rfl, rfl⟩ rfl ?_
      rintro r s ⟨v, _, _, rfl, hs⟩
      obtain rfl := hs.symm
      by_cases hv3 : v = 0
      case' pos =>
        subst hv3
        simp (disch := omega) only [go_sem]
        refine SRun.callQ (pigeonsOf_ok (ex := ex) (code := code) hl1) ⟨[], rfl, rfl⟩ rfl ?_
        rintro r s ⟨vars1, cls1, hv1, hl3, hcl1, rfl, hs⟩
        obtain rfl := hs.symm
        have hb1 := cnfB_cl (by omega) (by omega) hcl1
        simp (disch := omega) only [cnfV, go_sem]
        have hv := hv1.1
        have hb := hb1
        generalize vars1 = vars at *
        generalize cls1 = cls at *
      case' neg =>
        have d3 : decide (v = 0) = false := decide_eq_false hv3
        simp (disch := omega) only [d3, go_sem]
        have hv := hv0
        have hb := hb0
        generalize vars0 = vars at *
        generalize cls0 = cls at *
      all_goals
        refine SRun.callQ (stepsOf_ok (ex := ex2) (code := more) hl2 hv hb) ⟨[], rfl, rfl⟩ rfl ?_
        rintro r s ⟨st, hst, hsok, rfl, hs3⟩
        obtain rfl := hs3.symm
        have hs12 : ∀ s ∈ st, s.2.length ≤ 1000 := fun s hs => by have := (hsok s hs).1; omega
        have hsound := checkA_sound (st := st) hb
        have hlaw := refA_law hb hv
        have hr12 := refA_steps hv (cl_of hb) (clsOK_of hb).2.2.2
        have back : ∀ z c x, σ c = some x → upd σ b5 z c = some x := fun z => le_upd hb5
        simp (disch := omega) only [go_sem]
        refine SRun.callR (CheckProofA_ok (ex := false) hb hv (by omega) hs12) ⟨[], rfl, rfl⟩ rfl ?_
        simp (disch := omega) only [go_sem]
        refine SRun.callR (specCheckProofA_ok (ex := false) hb hv (by omega) hs12) ⟨[], rfl, rfl⟩ rfl ?_
        simp (disch := omega) only [go_sem]
        refine SRun.callR (specLeast_ok hb) ⟨[], rfl, rfl⟩ rfl ?_
        generalize checkA vars st cls = C at *
        obtain ⟨cp, cc⟩ := C
        have nn : ∀ z : Int, (decide ¬ z = z) = false := fun z => by simp
        dsimp only at hsound ⊢
        by_cases hcc : cc = 0
        case' pos =>
          have h6 := hsound hcc
          have d6 : decide (cc = 0) = true := decide_eq_true hcc
          simp (disch := omega) only [nn, d6, h6, go_sem]
        case' neg =>
          have d6 : decide (cc = 0) = false := decide_eq_false hcc
          simp (disch := omega) only [nn, d6, go_sem]
        all_goals
          have hsound2 := checkA_sound (st := (refA vars cls).1) hb
          refine SRun.callR (Refutation_ok hb hv) ⟨[], rfl, rfl⟩ rfl ?_
          simp (disch := omega) only [go_sem]
          refine SRun.callR (specRefutation_ok hb hv) ⟨[], rfl, rfl⟩ rfl ?_
          generalize refA vars cls = A at *
          obtain ⟨ast, ac⟩ := A
          dsimp only at hsound2 hlaw hr12 ⊢
          have ha12 : ∀ s ∈ ast, s.2.length ≤ 1000 := fun s hs => by have := (hr12.2 s hs).1; omega
          simp (disch := omega) only [nn, go_sem]
          refine SRun.callR (sameSteps_ok (ex := false) (ex2 := false) (xs := ast) (by omega) (fun s h => by have := ha12 s h; omega)) ⟨[], rfl, rfl⟩ rfl ?_
          rcases hlaw with (rfl | ⟨rfl, hm0⟩) | ⟨rfl, hlen, hck⟩
          · simp (disch := omega) only [go_sem]
            exact W_retC c9_ok rfl (Conv.drop _ (back _)) ⟨rfl, rfl⟩
          · first
            | (rw [h6] at hm0; exact absurd hm0 (by decide))
            | (simp (disch := omega) only [hm0, go_sem]
               exact W_retC c9_ok rfl (Conv.drop _ (back _)) ⟨rfl, rfl⟩)
          · have h6' := hsound2 (by rw [hck])
            simp (disch := omega) only [go_sem]
            refine SRun.callR (CheckProofA_ok (ex := false) hb hv (by omega) ha12) ⟨[], rfl, rfl⟩ rfl ?_
            rw [hck]
            have e1 : ((ast.length - 1 : Nat) : Int) = (ast.length : Int) - 1 := by omega
            simp (disch := omega) only [h6', e1, stepsV_len, go_sem]
            exact W_retC c9_ok rfl (Conv.drop _ (back _)) ⟨rfl, rfl⟩
end Go.Proofs.Ytlojopaebdnacaa.Lg
