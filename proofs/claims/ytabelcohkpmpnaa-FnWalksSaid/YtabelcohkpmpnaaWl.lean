/- Properties, and whether a way satisfies one: the program's. -/
import Derived.Test.YtabelcohkpmpnaaWk
set_option linter.unusedSimpArgs false
set_option linter.unusedVariables false
namespace Go.Proofs.Ytabelcohkpmpnaa.Lg
open Go
attribute [local irreducible] SRun DS DRun
variable {Γ : St} {σ σ0 : St}
def propC (k f p w : Int) : List V := [.int .i64 k, .int .i64 f, .int .i64 p, .int .i64 w]
def propB (n : Net) (k f p w : Int) : Bool := netB n && inB k 1 4 && routerB n.routers.length f && inB p (-1) 15 && (if k = 3 then routerB n.routers.length w else decide (w = 0))
theorem prop_one (k f p w : Int) : ∀ c ∈ (V.agg (propC k f p w)).cells, c.one = true := by simp [propC, V.cells, V.one]
theorem isProperty_ok {n : Net} (hn : NetLen n) {kd f p w : Int} : Ret Try.prog Γ 63 [netV n, .agg (propC kd f p w)] σ (.bool (propB n kd f p w)) σ := by
  have hlen : (netC n).take 6 = netC n := rfl
  have hlen2 : (netC n).length = 6 := rfl
  have hin : ∀ a b c, (decide (b ≤ a) && decide (a ≤ c)) = inB a b c := fun _ _ _ => rfl
  refine ret_of c63_ok rfl ?_
  simp (disch := omega) only [c63, netV, go_sem, ↓if_pos, ne_eq, ↓reduceIte]
  refine SRun.boxR (net_one n) ?_
  intro b1 hb1
  have g1 := upd_same σ b1 (netC n)
  have hσ : ∀ d y, σ d = some y → upd σ b1 (netC n) d = some y := le_upd hb1
  simp (disch := omega) only [go_sem, ↓if_pos, ne_eq, ↓reduceIte]
  generalize upd σ b1 (netC n) = s1 at *
  refine SRun.boxR (prop_one kd f p w) ?_
  intro b2 hb2
  have f1 := le_upd (cs := propC kd f p w) hb2 _ _ g1
  have f2 := upd_same s1 b2 (propC kd f p w)
  have hσ2 : ∀ d y, σ d = some y → upd s1 b2 (propC kd f p w) d = some y := fun d y h => le_upd hb2 _ _ (hσ d y h)
  have p0 : (propC kd f p w)[0]? = some (.int .i64 kd) := rfl
  have p1 : (propC kd f p w)[1]? = some (.int .i64 f) := rfl
  have p2 : (propC kd f p w)[2]? = some (.int .i64 p) := rfl
  have p3 : (propC kd f p w)[3]? = some (.int .i64 w) := rfl
  simp (disch := omega) only [go_sem, ↓if_pos, ne_eq, ↓reduceIte]
  generalize upd s1 b2 (propC kd f p w) = s2 at *
  simp (disch := omega) only [f1, hlen, hlen2, go_sem, ↓if_pos, ne_eq, ↓reduceIte]
  refine SRun.callR (isNet_ok hn) ⟨[], rfl, rfl⟩ rfl ?_
  have hd1 : propB n kd f p w = (netB n && inB kd 1 4 && routerB n.routers.length f && inB p (-1) 15 && (if kd = 3 then routerB n.routers.length w else decide (w = 0))) := rfl
  generalize netB n = q1 at *
  cases q1
  · simp (disch := omega) only [go_sem, ↓if_pos, ne_eq, ↓reduceIte]
    exact W_retC c63_ok rfl (Conv.drop _ hσ2) ⟨by rw [hd1]; simp [look], rfl⟩
  simp (disch := omega) only [f2, p0, go_sem, ↓if_pos, ne_eq, ↓reduceIte]
  refine SRun.callR (within_ok _ _ _) ⟨[], rfl, rfl⟩ rfl ?_
  rw [hin]
  generalize inB kd 1 4 = q2 at *
  cases q2
  · simp (disch := omega) only [go_sem, ↓if_pos, ne_eq, ↓reduceIte]
    exact W_retC c63_ok rfl (Conv.drop _ hσ2) ⟨by rw [hd1]; simp [look], rfl⟩
  simp (disch := omega) only [f1, f2, p1, hlen, hlen2, go_sem, ↓if_pos, ne_eq, ↓reduceIte]
  refine SRun.callR (isRouter_ok hn.routers) ⟨[], rfl, rfl⟩ rfl ?_
  generalize routerB n.routers.length f = q3 at *
  cases q3
  · simp (disch := omega) only [go_sem, ↓if_pos, ne_eq, ↓reduceIte]
    exact W_retC c63_ok rfl (Conv.drop _ hσ2) ⟨by rw [hd1]; simp [look], rfl⟩
  simp (disch := omega) only [f2, p2, go_sem, ↓if_pos, ne_eq, ↓reduceIte]
  refine SRun.callR (within_ok _ _ _) ⟨[], rfl, rfl⟩ rfl ?_
  rw [hin]
  generalize inB p (-1) 15 = q4 at *
  cases q4
  · simp (disch := omega) only [go_sem, ↓if_pos, ne_eq, ↓reduceIte]
    exact W_retC c63_ok rfl (Conv.drop _ hσ2) ⟨by rw [hd1]; simp [look], rfl⟩
  simp (disch := omega) only [f2, p0, go_sem, ↓if_pos, ne_eq, ↓reduceIte]
  first | refine iteW_dec (fun h3 => ?_) (fun h3 => ?_) | refine iteW_of (fun h3 => ?_) (fun h3 => ?_)
  · simp (disch := omega) only [f1, f2, p3, hlen, hlen2, go_sem, ↓if_pos, ne_eq, ↓reduceIte]
    refine SRun.callR (isRouter_ok hn.routers) ⟨[], rfl, rfl⟩ rfl ?_
    simp (disch := omega) only [go_sem, ↓if_pos, ne_eq, ↓reduceIte]
    exact W_retC c63_ok rfl (Conv.drop _ hσ2) ⟨by rw [hd1, if_pos h3]; simp [look], rfl⟩
  · simp (disch := omega) only [f2, p3, go_sem, ↓if_pos, ne_eq, ↓reduceIte]
    exact W_retC c63_ok rfl (Conv.drop _ hσ2) ⟨by rw [hd1, if_neg h3]; simp [look], rfl⟩
theorem indexInt_ok {ex : Bool} {xs : List Int} {x : Int} (hl : xs.length ≤ 1000000000000) : Ret Try.prog Γ 169 [.isl ex 1 (ints xs), .int .i64 x] σ (.int .i64 (hasI xs x)) σ := by
  refine ret_of c169_ok rfl ?_
  simp (disch := omega) only [c169, go_sem, ↓if_pos, ne_eq, ↓reduceIte]
  refine W_loopC (α := Nat) (fun i => i ≤ xs.length ∧ ∀ j, j < i → decide (xs.getD j default = x) = false) (fun i => [(0, .isl ex 1 (ints xs)), (1, .int .i64 x), (7, .int .i64 xs.length), (8, .int .i64 (i : Nat))]) (fun _ => σ) (fun i => xs.length - i) 0 ⟨by omega, fun j hj => by omega⟩ (by simp (disch := omega) only [subT, Int.natCast_add, Int.cast_ofNat_Int, go_sem, ↓if_pos, ne_eq, ↓reduceIte] <;> (repeat' apply And.intro) <;> first | rfl | (congr 1; omega) | assumption) rfl ?_
  rintro i ⟨hi, hno⟩ ih
  simp (disch := omega) only [go_sem, ↓if_pos, ne_eq, ↓reduceIte]
  first | refine iteW_dec (fun hq => ?_) (fun hq => ?_) | refine iteW_of (fun hq => ?_) (fun hq => ?_)
  · simp (disch := omega) only [go_sem, ↓if_pos, ne_eq, ↓reduceIte]
    first | refine iteW_dec (fun h2 => ?_) (fun h2 => ?_) | refine iteW_of (fun h2 => ?_) (fun h2 => ?_)
    · have := first_some (p := fun y => decide (y = x)) (xs := xs) (i := i) (by omega) hno (decide_eq_true (show xs.getD i 0 = x by omega))
      simp (disch := omega) only [go_sem, ↓if_pos, ne_eq, ↓reduceIte]
      exact W_retR c169_ok rfl ⟨by rw [hasI, this]; rfl, rfl⟩
    · simp (disch := omega) only [go_sem, ↓if_pos, ne_eq, ↓reduceIte]
      refine ih (i + 1) _ _ ⟨by omega, fun j hj => ?_⟩ (by omega) (by simp (disch := omega) only [subT, Int.natCast_add, Int.cast_ofNat_Int, go_sem, ↓if_pos, ne_eq, ↓reduceIte] <;> (repeat' apply And.intro) <;> first | rfl | (congr 1; omega) | assumption) rfl
      by_cases e : j = i
      · subst e; exact decide_eq_false (show ¬ xs.getD j 0 = x by omega)
      · exact hno j (by omega)
  · have hil : i = xs.length := by omega
    rw [hil] at hno
    have := first_none (p := fun y => decide (y = x)) (xs := xs) hno
    simp (disch := omega) only [go_sem, ↓if_pos, ne_eq, ↓reduceIte]
    exact W_retR c169_ok rfl ⟨by rw [hasI, this]; rfl, rfl⟩
def hasB (xs : List Int) (x : Int) : Bool := decide (hasI xs x ≥ 0)
theorem containsInt_ok {ex : Bool} {xs : List Int} {x : Int} (hl : xs.length ≤ 1000000000000) : Ret Try.prog Γ 129 [.isl ex 1 (ints xs), .int .i64 x] σ (.bool (hasB xs x)) σ := by
  refine ret_of c129_ok rfl ?_
  simp (disch := omega) only [c129, go_sem, ↓if_pos, ne_eq, ↓reduceIte]
  refine SRun.callR (indexInt_ok hl) ⟨[], rfl, rfl⟩ rfl ?_
  simp (disch := omega) only [go_sem, ↓if_pos, ne_eq, ↓reduceIte]
  exact W_retR c129_ok rfl ⟨rfl, rfl⟩
/-- Whether a way satisfies a property. -/
def satP (kd way : Int) (w : Int × List Int) : Bool :=
  if kd = 1 then decide (w.1 = 1) || decide (w.1 = 2) else if kd = 2 then !(decide (w.1 = 1) || decide (w.1 = 2))
  else if kd = 3 then !(decide (w.1 = 1) || decide (w.1 = 2)) || hasB w.2 way else decide (w.1 = 1)
set_option maxHeartbeats 1000000 in
theorem isSatisfied_ok {kd f p way o : Int} {ex : Bool} {path : List Int} (hl : path.length ≤ 1000000000000) : Ret Try.prog Γ 64 [.agg (propC kd f p way), .agg [.int .i64 o, .isl ex 1 (ints path)]] σ (.bool (satP kd way (o, path))) σ := by
  have p0 : (propC kd f p way)[0]? = some (.int .i64 kd) := rfl
  have p3 : (propC kd f p way)[3]? = some (.int .i64 way) := rfl
  refine ret_of c64_ok rfl ?_
  simp (disch := omega) only [c64, go_sem, ↓if_pos, ne_eq, ↓reduceIte]
  refine SRun.boxR (prop_one kd f p way) ?_
  intro b2 hb2
  simp (disch := omega) only [go_sem, ↓if_pos, ne_eq, ↓reduceIte]
  refine SRun.boxR (by simp [ev, look, V.cells, V.one]) ?_
  intro b3 hb3
  have n3 := upd_none.1 hb3
  have n23 : b2 ≠ b3 := n3.1.symm
  have hle := le_two hb2 n3.2
  have hdef : satP kd way (o, path) = if kd = 1 then decide (o = 1) || decide (o = 2) else if kd = 2 then !(decide (o = 1) || decide (o = 2)) else if kd = 3 then !(decide (o = 1) || decide (o = 2)) || hasB path way else decide (o = 1) := rfl
  generalize m1 : decide (o = 1) = q1 at *
  generalize m2 : decide (o = 2) = q2 at *
  by_cases k1 : kd = 1
  · have d1 : decide (kd = 1) = true := decide_eq_true k1
    rw [if_pos k1] at hdef
    cases q1 <;> cases q2
    all_goals
      simp (disch := omega) only [p0, p3, n23, m1, m2, d1, go_sem, ↓if_pos, ne_eq, ↓reduceIte]
      exact W_retC c64_ok rfl (Conv.drop _ (hle _ _)) ⟨by rw [hdef]; rfl, rfl⟩
  have d1 : decide (kd = 1) = false := decide_eq_false k1
  rw [if_neg k1] at hdef
  by_cases k2 : kd = 2
  · have d2 : decide (kd = 2) = true := decide_eq_true k2
    rw [if_pos k2] at hdef
    cases q1 <;> cases q2
    all_goals
      simp (disch := omega) only [p0, p3, n23, m1, m2, d1, d2, go_sem, ↓if_pos, ne_eq, ↓reduceIte]
      exact W_retC c64_ok rfl (Conv.drop _ (hle _ _)) ⟨by rw [hdef]; rfl, rfl⟩
  have d2 : decide (kd = 2) = false := decide_eq_false k2
  rw [if_neg k2] at hdef
  by_cases k3 : kd = 3
  · have d3 : decide (kd = 3) = true := decide_eq_true k3
    rw [if_pos k3] at hdef
    have hC := fun Γ σ => containsInt_ok (Γ := Γ) (σ := σ) (ex := ex) (xs := path) (x := way) hl
    generalize hasB path way = q3 at *
    cases q1 <;> cases q2
    case' false.false =>
      simp (disch := omega) only [p0, p3, n23, m1, m2, d1, d2, d3, go_sem, ↓if_pos, ne_eq, ↓reduceIte]
    case' false.true =>
      simp (disch := omega) only [p0, p3, n23, m1, m2, d1, d2, d3, go_sem, ↓if_pos, ne_eq, ↓reduceIte]
      refine SRun.callR (hC _ _) ⟨[], rfl, rfl⟩ rfl ?_
      simp (disch := omega) only [go_sem, ↓if_pos, ne_eq, ↓reduceIte]
    case' true.false =>
      simp (disch := omega) only [p0, p3, n23, m1, m2, d1, d2, d3, go_sem, ↓if_pos, ne_eq, ↓reduceIte]
      refine SRun.callR (hC _ _) ⟨[], rfl, rfl⟩ rfl ?_
      simp (disch := omega) only [go_sem, ↓if_pos, ne_eq, ↓reduceIte]
    case' true.true =>
      simp (disch := omega) only [p0, p3, n23, m1, m2, d1, d2, d3, go_sem, ↓if_pos, ne_eq, ↓reduceIte]
      refine SRun.callR (hC _ _) ⟨[], rfl, rfl⟩ rfl ?_
      simp (disch := omega) only [go_sem, ↓if_pos, ne_eq, ↓reduceIte]
    all_goals
      exact W_retC c64_ok rfl (Conv.drop _ (hle _ _)) ⟨by rw [hdef]; rfl, rfl⟩
  have d3 : decide (kd = 3) = false := decide_eq_false k3
  rw [if_neg k3] at hdef
  cases q1 <;> cases q2
  all_goals
    simp (disch := omega) only [p0, p3, n23, m1, m2, d1, d2, d3, go_sem, ↓if_pos, ne_eq, ↓reduceIte]
    exact W_retC c64_ok rfl (Conv.drop _ (hle _ _)) ⟨by rw [hdef]; rfl, rfl⟩
theorem Satisfied_ok {n : Net} {kd f p way o : Int} {ex : Bool} {path : List Int} (hn : NetLen n) (hp : propB n kd f p way = true) (ho : 1 ≤ o ∧ o ≤ 4) (hl : path.length ≤ 1000000000000) : Ret Try.prog Γ 16 [netV n, .agg (propC kd f p way), .agg [.int .i64 o, .isl ex 1 (ints path)]] σ (.tup [.bool (satP kd way (o, path)), .int .i64 0]) σ := by
  have hlen : (netC n).take 6 = netC n := rfl
  have hlen2 : (netC n).length = 6 := rfl
  have hpl : (propC kd f p way).take 4 = propC kd f p way := rfl
  have hpl2 : (propC kd f p way).length = 4 := rfl
  refine ret_of c16_ok rfl ?_
  simp (disch := omega) only [c16, netV, go_sem, ↓if_pos, ne_eq, ↓reduceIte]
  refine SRun.boxR (net_one n) ?_
  intro b3 hb3
  have g3 := upd_same σ b3 (netC n)
  have hσ : ∀ d y, σ d = some y → upd σ b3 (netC n) d = some y := le_upd hb3
  simp (disch := omega) only [go_sem, ↓if_pos, ne_eq, ↓reduceIte]
  generalize upd σ b3 (netC n) = s1 at *
  refine SRun.boxR (prop_one kd f p way) ?_
  intro b4 hb4
  have f3 := le_upd (cs := propC kd f p way) hb4 _ _ g3
  have f4 := upd_same s1 b4 (propC kd f p way)
  have hσ2 : ∀ d y, σ d = some y → upd s1 b4 (propC kd f p way) d = some y := fun d y h => le_upd hb4 _ _ (hσ d y h)
  simp (disch := omega) only [go_sem, ↓if_pos, ne_eq, ↓reduceIte]
  generalize upd s1 b4 (propC kd f p way) = s2 at *
  refine SRun.boxR (by simp [ev, look, V.cells, V.one]) ?_
  intro b5 hb5
  simp (disch := omega) only [go_sem, ↓if_pos, ne_eq, ↓reduceIte]
  have e3 := le_upd (cs := [.int .i64 o, .isl ex 1 (ints path)]) hb5 _ _ f3
  have e4 := le_upd (cs := [.int .i64 o, .isl ex 1 (ints path)]) hb5 _ _ f4
  have e5 := upd_same s2 b5 [.int .i64 o, .isl ex 1 (ints path)]
  have hσ3 : ∀ d y, σ d = some y → upd s2 b5 [.int .i64 o, .isl ex 1 (ints path)] d = some y := fun d y h => le_upd hb5 _ _ (hσ2 d y h)
  generalize upd s2 b5 [.int .i64 o, .isl ex 1 (ints path)] = s3 at *
  simp (disch := omega) only [e3, e4, hlen, hlen2, hpl, hpl2, go_sem, ↓if_pos, ne_eq, ↓reduceIte]
  refine SRun.callR (isProperty_ok hn) ⟨[], rfl, rfl⟩ rfl ?_
  rw [hp]
  simp (disch := omega) only [e5, go_sem, ↓if_pos, ne_eq, ↓reduceIte]
  refine SRun.callR (within_ok o 1 4) ⟨[], rfl, rfl⟩ rfl ?_
  rw [decide_eq_true ho.1, decide_eq_true ho.2]
  simp (disch := omega) only [e4, e5, hpl, hpl2, Bool.and_self, go_sem, ↓if_pos, ne_eq, ↓reduceIte]
  refine SRun.callR (isSatisfied_ok hl) ⟨[], rfl, rfl⟩ rfl ?_
  simp (disch := omega) only [go_sem, ↓if_pos, ne_eq, ↓reduceIte]
  exact W_retC c16_ok rfl (Conv.drop _ hσ3) ⟨rfl, rfl⟩
end Go.Proofs.Ytabelcohkpmpnaa.Lg
