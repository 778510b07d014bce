/- What is told of the functions that are reached, as far as it is asked here. -/
import Derived.Test.YtabelcohkpmpnaaKz3
import Derived.KernelRfl
set_option linter.unusedSimpArgs false
set_option linter.unusedVariables false
namespace Go.Proofs.Ytabelcohkpmpnaa.Lg
open Go
section
attribute [local irreducible] SRun DS DRun
variable {Γ : St} {σ σ0 : St}
theorem link_router {n : Net} (hn : NetR n) {i v : Int} (h : 0 ≤ linkP n.links i v) : 0 ≤ v ∧ v < n.routers.length := by
  have h1 := first_any (p := joinB i v) (xs := n.links)
  rw [decide_eq_true (by exact h)] at h1
  obtain ⟨l, hl, hj⟩ := List.any_eq_true.1 h1.symm
  have he := hn.ends l hl
  simp only [joinB, Bool.or_eq_true, Bool.and_eq_true, decide_eq_true_eq] at hj
  omega
set_option maxHeartbeats 1000000 in
theorem l07Routes_ok {n : Net} {ex : Bool} {rs : List Rt} (hn : NetR n) (hl : rs.length ≤ 1000000000000) :
    Ret Try.prog Γ 59 [netV n, .isl ex 4 (rtsV rs)] σ (.bool (rtsB n rs)) σ := by
  have r1 := hn.r1
  have r4 := hn.r4
  have l6 := hn.l6
  have e0 : (netC n)[0]? = some (.isl false 1 (strsV n.routers)) := rfl
  have e1 : (netC n)[1]? = some (.isl false 3 (linksV n.links)) := rfl
  have hin : ∀ a b c, (decide (b ≤ a) && decide (a ≤ c)) = inB a b c := fun _ _ _ => rfl
  have hB : rtsB n rs = (decide (rs.length = n.routers.length) && (List.range rs.length).all fun i => rtB n i (rs.getD i default)) := rfl
  refine ret_of c59_ok rfl ?_
  simp (disch := omega) only [c59, netV, go_sem]
  refine SRun.boxR (net_one n) ?_
  intro b2 hb2
  have g2 := upd_same σ b2 (netC n)
  have hσ : ∀ d x, σ d = some x → upd σ b2 (netC n) d = some x := le_upd hb2
  simp (disch := omega) only [go_sem]
  generalize upd σ b2 (netC n) = s1 at *
  by_cases c1 : rs.length = n.routers.length
  case' neg =>
    have d1 : (decide ¬ (rs.length : Int) = n.routers.length) = true := decide_eq_true (by omega)
    rw [hB, decide_eq_false c1]
    simp (disch := omega) only [g2, e0, d1, go_sem]
    exact W_retC c59_ok rfl (Conv.drop _ hσ) ⟨rfl, rfl⟩
  have d1 : (decide ¬ (rs.length : Int) = n.routers.length) = false := decide_eq_false (by omega)
  rw [decide_eq_true c1, Bool.true_and] at hB
  simp (disch := omega) only [g2, e0, d1, go_sem]
  refine W_loopC (α := Nat × St) (fun p => p.1 ≤ rs.length ∧ (∀ d x, s1 d = some x → p.2 d = some x) ∧ ∀ j, j < p.1 → rtB n j (rs.getD j default) = true) (fun p => [(1, .isl ex 4 (rtsV rs)), (2, .ptr b2 0), (5, .int .i64 (p.1 : Nat))]) (fun p => p.2) (fun p => rs.length - p.1) (0, s1) ⟨by simp, fun _ _ h => h, fun j hj => by simp at hj⟩ (by simp (disch := omega) only [subT, Int.natCast_add, Int.cast_ofNat_Int, go_sem] <;> (repeat' apply And.intro) <;> first | rfl | (congr 1; omega) | assumption) rfl ?_
  rintro ⟨i, s⟩ ⟨hi, hle, hall⟩ ih
  dsimp only at hi hle hall
  have g2' := hle _ _ g2
  simp (disch := omega) only [go_sem]
  first | refine iteW_dec (fun h1 => ?_) (fun h1 => ?_) | refine iteW_of (fun h1 => ?_) (fun h1 => ?_)
  · have hno : rtB n i (rs.getD i default) = false → rtsB n rs = false := fun h => by rw [hB]; exact range_not (i := i) (by omega) h
    have hnx := all_next (p := fun j => rtB n j (rs.getD j default)) hall (i := i)
    simp (disch := omega) only [go_sem]
    generalize rs.getD i default = x at *
    refine SRun.allocR ?_
    intro b6 hb6
    have n62 : b2 ≠ b6 := fun e => by subst e; rw [g2'] at hb6; cases hb6
    obtain ⟨v, p, le, mk⟩ := x
    have hxc : rtC ⟨v, p, le, mk⟩ = [.int .i64 v, .int .i64 p, .int .i64 le, .bool mk] := rfl
    have hdef : rtB n i ⟨v, p, le, mk⟩ = (inB v (-3) (n.routers.length - 1) && inB p 0 1000 && inB le 0 10000 && (decide (v < 0) || decide (0 ≤ linkP n.links i v)) && (!decide (v = -3) || decide ((⟨v, p, le, mk⟩ : Rt) = noRt))) := rfl
    have hle3 : ∀ z, ∀ d y, σ d = some y → upd s b6 z d = some y := fun z d y h => le_upd hb6 _ _ (hle _ _ (hσ _ _ h))
    simp (disch := omega) only [hxc, go_sem]
    refine W_drawW ?_
    simp (disch := omega) only [g2', e0, n62, go_sem]
    refine DRun.callQ (l01In_ok v (-3) ((n.routers.length : Int) - 1)) ⟨[], rfl, rfl⟩ ?_
    rintro r s ⟨rfl, hs⟩
    obtain rfl := hs.symm
    rw [hin]
    cases q1 : inB v (-3) ((n.routers.length : Int) - 1) with
    | false =>
      simp (disch := omega) only [go_sem]
      repeat (refine DRun.skipG rfl ?_; simp (disch := omega) only [go_sem])
      refine DRun.mixE rfl ?_
      simp (disch := omega) only [go_sem]
      refine DS.skipG rfl rfl ?_
      simp (disch := omega) only [go_sem]
      exact W_retC c59_ok rfl (Conv.drop _ (hle3 _)) ⟨by rw [hno (by rw [hdef, q1]; simp)]; rfl, rfl⟩
    | true =>
    simp (disch := omega) only [go_sem]
    refine DRun.callG (l01In_ok p 0 1000) ⟨[], rfl, rfl⟩ rfl ?_
    rintro r s ⟨rfl, hs⟩
    obtain rfl := hs.symm
    rw [hin]
    cases q2 : inB p 0 1000 with
    | false =>
      simp (disch := omega) only [go_sem]
      repeat (refine DRun.skipG rfl ?_; simp (disch := omega) only [go_sem])
      refine DRun.mixE rfl ?_
      simp (disch := omega) only [go_sem]
      refine DS.skipG rfl rfl ?_
      simp (disch := omega) only [go_sem]
      exact W_retC c59_ok rfl (Conv.drop _ (hle3 _)) ⟨by rw [hno (by rw [hdef, q2]; simp)]; rfl, rfl⟩
    | true =>
    simp (disch := omega) only [go_sem]
    refine DRun.callG (l01In_ok le 0 10000) ⟨[], rfl, rfl⟩ rfl ?_
    rintro r s ⟨rfl, hs⟩
    obtain rfl := hs.symm
    rw [hin]
    cases q3 : inB le 0 10000 with
    | false =>
      simp (disch := omega) only [go_sem]
      repeat (refine DRun.skipG rfl ?_; simp (disch := omega) only [go_sem])
      refine DRun.mixE rfl ?_
      simp (disch := omega) only [go_sem]
      refine DS.skipG rfl rfl ?_
      simp (disch := omega) only [go_sem]
      exact W_retC c59_ok rfl (Conv.drop _ (hle3 _)) ⟨by rw [hno (by rw [hdef, q3]; simp)]; rfl, rfl⟩
    | true =>
    rw [q1, q2, q3] at hdef
    by_cases c4 : v ≥ 0
    · have d4 : decide (v ≥ 0) = true := decide_eq_true c4
      have d5 : decide (v = -3) = false := decide_eq_false (by omega)
      simp (disch := omega) only [d4, g2', e1, n62, go_sem]
      refine DRun.callG (l06Link_ok (ex := false) (ls := n.links) (x := i) (y := v) (by omega)) ⟨[], rfl, rfl⟩ rfl ?_
      rintro r s ⟨rfl, hs⟩
      obtain rfl := hs.symm
      by_cases c6 : linkP n.links i v < 0
      · have d6 : decide (linkP n.links i v < 0) = true := decide_eq_true c6
        simp (disch := omega) only [d6, go_sem]
        repeat (refine DRun.skipG rfl ?_; simp (disch := omega) only [go_sem])
        refine DRun.mixE rfl ?_
        simp (disch := omega) only [go_sem]
        refine DS.skipG rfl rfl ?_
        simp (disch := omega) only [go_sem]
        exact W_retC c59_ok rfl (Conv.drop _ (hle3 _)) ⟨by rw [hno (by rw [hdef, decide_eq_false (by omega : ¬ v < 0), decide_eq_false (by omega : ¬ 0 ≤ linkP n.links i v)]; simp)]; rfl, rfl⟩
      · have d6 : decide (linkP n.links i v < 0) = false := decide_eq_false c6
        have hok : rtB n i ⟨v, p, le, mk⟩ = true := by rw [hdef, d5, decide_eq_true (by omega : 0 ≤ linkP n.links i v)]; simp
        simp (disch := omega) only [d6, d5, go_sem]
        repeat (refine DRun.skipG rfl ?_; simp (disch := omega) only [go_sem])
        refine DRun.mixE rfl ?_
        simp (disch := omega) only [go_sem]
        refine DS.skipG rfl rfl ?_
        simp (disch := omega) only [go_sem]
        exact ih (i + 1, _) _ _ ⟨by simp only; omega, fun d y h => le_upd hb6 _ _ (hle _ _ h), hnx hok⟩ (by simp only; omega) (by simp (disch := omega) only [subT, Int.natCast_add, Int.cast_ofNat_Int, go_sem] <;> (repeat' apply And.intro) <;> first | rfl | (congr 1; omega) | assumption) rfl
    · have d4 : decide (v ≥ 0) = false := decide_eq_false c4
      rw [decide_eq_true (by omega : v < 0)] at hdef
      simp (disch := omega) only [d4, go_sem]
      refine DRun.skipG rfl ?_
      by_cases c5 : v = -3
      · have d5 : decide (v = -3) = true := decide_eq_true c5
        have hnr : rtC noRt = [.int .i64 (-3), .int .i64 0, .int .i64 0, .bool false] := rfl
        rw [d5] at hdef
        simp (disch := omega) only [d5, go_sem]
        refine DRun.mixE rfl ?_
        simp (disch := omega) only [go_sem]
        refine DS.callG (ACalls.mono _ _ (l07None_ok (σ := emp)) fun _ _ h => h) ⟨[], rfl, rfl⟩ rfl rfl ?_
        rintro r s ⟨rfl, hs⟩ _
        obtain rfl := hs.symm
        simp (disch := omega) only [go_sem]
        refine ⟨trivial, ?_⟩
        have hq := rt_dec ⟨v, p, le, mk⟩ noRt
        dsimp only at hq
        simp (disch := omega) only [hq, go_sem]
        first | refine iteW_dec (fun c7 => ?_) (fun c7 => ?_) | refine iteW_of (fun c7 => ?_) (fun c7 => ?_)
        · simp (disch := omega) only [go_sem]
          exact W_retC c59_ok rfl (Conv.drop _ (hle3 _)) ⟨by rw [hno (by rw [hdef, decide_eq_false c7]; simp)]; rfl, rfl⟩
        · have hok : rtB n i ⟨v, p, le, mk⟩ = true := by rw [hdef, decide_eq_true (Decidable.not_not.1 c7)]; simp
          simp (disch := omega) only [go_sem]
          exact ih (i + 1, _) _ _ ⟨by simp only; omega, fun d y h => le_upd hb6 _ _ (hle _ _ h), hnx hok⟩ (by simp only; omega) (by simp (disch := omega) only [subT, Int.natCast_add, Int.cast_ofNat_Int, go_sem] <;> (repeat' apply And.intro) <;> first | rfl | (congr 1; omega) | assumption) rfl
      · have d5 : decide (v = -3) = false := decide_eq_false c5
        have hok : rtB n i ⟨v, p, le, mk⟩ = true := by rw [hdef, d5]; simp
        simp (disch := omega) only [d5, go_sem]
        repeat (refine DRun.skipG rfl ?_; simp (disch := omega) only [go_sem])
        refine DRun.mixE rfl ?_
        simp (disch := omega) only [go_sem]
        refine DS.skipG rfl rfl ?_
        simp (disch := omega) only [go_sem]
        exact ih (i + 1, _) _ _ ⟨by simp only; omega, fun d y h => le_upd hb6 _ _ (hle _ _ h), hnx hok⟩ (by simp only; omega) (by simp (disch := omega) only [subT, Int.natCast_add, Int.cast_ofNat_Int, go_sem] <;> (repeat' apply And.intro) <;> first | rfl | (congr 1; omega) | assumption) rfl
  · have hil : i = rs.length := by omega
    subst hil
    rw [hB, range_all hall]
    simp (disch := omega) only [go_sem]
    exact W_retC c59_ok rfl (Conv.drop _ fun d x h => hle _ _ (hσ _ _ h)) ⟨rfl, rfl⟩
set_option maxHeartbeats 1000000 in
theorem areRoutes_ok {n : Net} {ex : Bool} {rs : List Rt} (hn : NetR n) (hl : rs.length ≤ 1000000000000) :
    Ret Try.prog Γ 53 [netV n, .isl ex 4 (rtsV rs)] σ (.bool (rtsB n rs)) σ := by
  have r1 := hn.r1
  have r4 := hn.r4
  have l6 := hn.l6
  have hlen : (netC n).take 6 = netC n := rfl
  have hlen2 : (netC n).length = 6 := rfl
  have e0 : (netC n)[0]? = some (.isl false 1 (strsV n.routers)) := rfl
  have hin : ∀ a b c, (decide (b ≤ a) && decide (a ≤ c)) = inB a b c := fun _ _ _ => rfl
  have hB : rtsB n rs = (decide (rs.length = n.routers.length) && (List.range rs.length).all fun i => rtB n i (rs.getD i default)) := rfl
  refine ret_of c53_ok rfl ?_
  simp (disch := omega) only [c53, netV, go_sem]
  refine SRun.boxR (net_one n) ?_
  intro b2 hb2
  have g2 := upd_same σ b2 (netC n)
  have hσ : ∀ d x, σ d = some x → upd σ b2 (netC n) d = some x := le_upd hb2
  simp (disch := omega) only [go_sem]
  generalize upd σ b2 (netC n) = s1 at *
  by_cases c1 : rs.length = n.routers.length
  case' neg =>
    have d1 : (decide ¬ (rs.length : Int) = n.routers.length) = true := decide_eq_true (by omega)
    rw [hB, decide_eq_false c1]
    simp (disch := omega) only [g2, e0, d1, go_sem]
    exact W_retC c53_ok rfl (Conv.drop _ hσ) ⟨rfl, rfl⟩
  have d1 : (decide ¬ (rs.length : Int) = n.routers.length) = false := decide_eq_false (by omega)
  rw [decide_eq_true c1, Bool.true_and] at hB
  simp (disch := omega) only [g2, e0, d1, go_sem]
  refine W_loopC (α := Nat × St) (fun p => p.1 ≤ rs.length ∧ (∀ d x, s1 d = some x → p.2 d = some x) ∧ ∀ j, j < p.1 → rtB n j (rs.getD j default) = true) (fun p => [(1, .isl ex 4 (rtsV rs)), (2, .ptr b2 0), (13, .isl ex 4 (rtsV rs)), (14, .int .i64 rs.length), (15, .int .i64 (p.1 : Nat))]) (fun p => p.2) (fun p => rs.length - p.1) (0, s1) ⟨by simp, fun _ _ h => h, fun j hj => by simp at hj⟩ (by simp (disch := omega) only [subT, Int.natCast_add, Int.cast_ofNat_Int, go_sem] <;> (repeat' apply And.intro) <;> first | rfl | (congr 1; omega) | assumption) rfl ?_
  rintro ⟨i, s⟩ ⟨hi, hle, hall⟩ ih
  dsimp only at hi hle hall
  have g2' := hle _ _ g2
  simp (disch := omega) only [go_sem]
  first | refine iteW_dec (fun h1 => ?_) (fun h1 => ?_) | refine iteW_of (fun h1 => ?_) (fun h1 => ?_)
  · have hno : rtB n i (rs.getD i default) = false → rtsB n rs = false := fun h => by rw [hB]; exact range_not (i := i) (by omega) h
    have hnx := all_next (p := fun j => rtB n j (rs.getD j default)) hall (i := i)
    simp (disch := omega) only [go_sem]
    generalize rs.getD i default = x at *
    refine SRun.allocR ?_
    intro b6 hb6
    have n62 : b2 ≠ b6 := fun e => by subst e; rw [g2'] at hb6; cases hb6
    obtain ⟨v, p, le, mk⟩ := x
    have hxc : rtC ⟨v, p, le, mk⟩ = [.int .i64 v, .int .i64 p, .int .i64 le, .bool mk] := rfl
    have hdef : rtB n i ⟨v, p, le, mk⟩ = (inB v (-3) (n.routers.length - 1) && inB p 0 1000 && inB le 0 10000 && (decide (v < 0) || decide (0 ≤ linkP n.links i v)) && (!decide (v = -3) || decide ((⟨v, p, le, mk⟩ : Rt) = noRt))) := rfl
    have hle3 : ∀ z, ∀ d y, σ d = some y → upd s b6 z d = some y := fun z d y h => le_upd hb6 _ _ (hle _ _ (hσ _ _ h))
    have hL := fun Γ σ => linkOf_ok (Γ := Γ) (σ := σ) (n := n) (x := i) (y := v) (by omega)
    have hq1 : inB v (-3) (n.routers.length - 1) = (decide (-3 ≤ v) && decide (v ≤ n.routers.length - 1)) := rfl
    have hlr := fun h => link_router hn (i := i) (v := v) h
    have bad : ∀ (a : Bool), True := fun _ => trivial
    clear bad
    by_cases c0 : v < -3
    · have d4 : decide (v ≥ 0) = false := decide_eq_false (by omega)
      have d5 : decide (v < -3) = true := decide_eq_true c0
      simp (disch := omega) only [hxc, d4, d5, go_sem]
      exact W_retC c53_ok rfl (Conv.drop _ (hle3 _)) ⟨by rw [hno (by rw [hdef, hq1, decide_eq_false (by omega : ¬ -3 ≤ v)]; simp)]; rfl, rfl⟩
    have d5 : decide (v < -3) = false := decide_eq_false c0
    by_cases c4 : v ≥ 0
    case' pos =>
      have d4 : decide (v ≥ 0) = true := decide_eq_true c4
      have d8 : decide (v = -3) = false := decide_eq_false (by omega)
      simp (disch := omega) only [hxc, d4, g2', n62, hlen, hlen2, go_sem]
      refine SRun.callR (hL _ _) ⟨[], rfl, rfl⟩ rfl ?_
      by_cases c6 : linkP n.links i v < 0
      case' pos =>
        have d6 : decide (linkP n.links i v < 0) = true := decide_eq_true c6
        simp (disch := omega) only [d6, go_sem]
        exact W_retC c53_ok rfl (Conv.drop _ (hle3 _)) ⟨by rw [hno (by rw [hdef, decide_eq_false (by omega : ¬ v < 0), decide_eq_false (by omega : ¬ 0 ≤ linkP n.links i v)]; simp)]; rfl, rfl⟩
      have d6 : decide (linkP n.links i v < 0) = false := decide_eq_false c6
      have hvr := hlr (by omega)
      have hlv : (decide (v < 0) || decide (0 ≤ linkP n.links i v)) = true := by rw [decide_eq_true (by omega : 0 ≤ linkP n.links i v), Bool.or_true]
      simp (disch := omega) only [d5, d6, go_sem]
    case' neg =>
      have d4 : decide (v ≥ 0) = false := decide_eq_false c4
      have hlv : (decide (v < 0) || decide (0 ≤ linkP n.links i v)) = true := by rw [decide_eq_true (by omega : v < 0)]; rfl
      have hvr : v < n.routers.length := by omega
      simp (disch := omega) only [hxc, d4, d5, go_sem]
    all_goals
      rw [hq1, decide_eq_true (by omega : -3 ≤ v), decide_eq_true (by omega : v ≤ (n.routers.length : Int) - 1), hlv] at hdef
      refine SRun.callR (within_ok p 0 1000) ⟨[], rfl, rfl⟩ rfl ?_
      rw [hin]
      cases q2 : inB p 0 1000 with
      | false =>
        simp (disch := omega) only [go_sem]
        exact W_retC c53_ok rfl (Conv.drop _ (hle3 _)) ⟨by rw [hno (by rw [hdef, q2]; simp)]; rfl, rfl⟩
      | true =>
      simp (disch := omega) only [go_sem]
      refine SRun.callR (within_ok le 0 10000) ⟨[], rfl, rfl⟩ rfl ?_
      rw [hin]
      cases q3 : inB le 0 10000 with
      | false =>
        simp (disch := omega) only [go_sem]
        exact W_retC c53_ok rfl (Conv.drop _ (hle3 _)) ⟨by rw [hno (by rw [hdef, q3]; simp)]; rfl, rfl⟩
      | true =>
      rw [q2, q3] at hdef
      by_cases c5 : v = -3
      · have d9 : decide (v = -3) = true := decide_eq_true c5
        have hn0 : noRt = ⟨-3, 0, 0, false⟩ := rfl
        rw [d9, hn0] at hdef
        first
        | (exfalso; omega)
        | (simp (disch := omega) only [d9, stepW_eqa4, bne_t, go_sem]
           first | refine iteW_dec (fun c7 => ?_) (fun c7 => ?_) | refine iteW_of (fun c7 => ?_) (fun c7 => ?_)
           · simp (disch := omega) only [go_sem]
             exact W_retC c53_ok rfl (Conv.drop _ (hle3 _)) ⟨by rw [hno (by rw [hdef, decide_eq_false c7]; simp)]; rfl, rfl⟩
           · have hok : rtB n i ⟨v, p, le, mk⟩ = true := by rw [hdef, decide_eq_true (Decidable.not_not.1 c7)]; simp
             simp (disch := omega) only [go_sem]
             exact ih (i + 1, _) _ _ ⟨by simp only; omega, fun d y h => le_upd hb6 _ _ (hle _ _ h), hnx hok⟩ (by simp only; omega) (by simp (disch := omega) only [subT, Int.natCast_add, Int.cast_ofNat_Int, go_sem] <;> (repeat' apply And.intro) <;> first | rfl | (congr 1; omega) | assumption) rfl)
      · have d9 : decide (v = -3) = false := decide_eq_false c5
        have hok : rtB n i ⟨v, p, le, mk⟩ = true := by rw [hdef, d9]; simp
        simp (disch := omega) only [d9, go_sem]
        exact ih (i + 1, _) _ _ ⟨by simp only; omega, fun d y h => le_upd hb6 _ _ (hle _ _ h), hnx hok⟩ (by simp only; omega) (by simp (disch := omega) only [subT, Int.natCast_add, Int.cast_ofNat_Int, go_sem] <;> (repeat' apply And.intro) <;> first | rfl | (congr 1; omega) | assumption) rfl
  · have hil : i = rs.length := by omega
    subst hil
    rw [hB, range_all hall]
    simp (disch := omega) only [go_sem]
    exact W_retC c53_ok rfl (Conv.drop _ fun d x h => hle _ _ (hσ _ _ h)) ⟨rfl, rfl⟩
end
section
attribute [local irreducible] SRun DS DRun
variable {Γ : St} {σ σ0 : St}
/-- A list that was written down, or one that was made. -/
def PathO (σ0 : St) (es : Nat) (xs : List V) (q : V) (σ : St) : Prop := (q = .isl true es xs ∧ σ = σ0 ∧ ∀ x ∈ xs, x.cells.length = es ∧ ∀ c ∈ x.cells, c.one = true) ∨ OwnL σ0 es xs q σ
section
variable {es : Nat} {xs ys : List V} {q : V}
theorem PathO.get (h : PathO σ0 es xs q σ) {b : Nat} {c : List V} (hb : σ0 b = some c) : σ b = some c := by
  rcases h with ⟨_, rfl, _⟩ | h
  · exact hb
  · exact h.get hb
theorem PathO.upd (h : PathO σ0 es xs q σ) {b : Nat} {c c' : List V} (hb : σ0 b = some c) : PathO (upd σ0 b c') es xs q (upd σ b c') := by
  rcases h with ⟨h1, rfl, h3⟩ | h
  · exact .inl ⟨h1, rfl, h3⟩
  · exact .inr (h.upd hb)
theorem PathO.one (h : PathO σ0 es xs q σ) : q.one = true := by
  rcases h with ⟨rfl, _, _⟩ | h
  · rfl
  · exact h.one
theorem PathO.cells (h : PathO σ0 es xs q σ) : q.cells = [q] := by
  rcases h with ⟨rfl, _, _⟩ | h
  · rfl
  · exact h.cells
theorem PathO.less {σ1 s : St} (h : PathO σ1 es xs q s) (hle : ∀ b c, σ b = some c → σ1 b = some c) : ∃ s2, (∀ b c, s2 b = some c → s b = some c) ∧ PathO σ es xs q s2 := by
  rcases h with ⟨h1, rfl, h3⟩ | h
  · exact ⟨σ, hle, .inl ⟨h1, rfl, h3⟩⟩
  · obtain ⟨s2, h1, h2⟩ := ownL_less h hle
    exact ⟨s2, h1, .inr h2⟩
theorem PathO.le (h : PathO σ0 es xs q σ) : ∀ b c, σ0 b = some c → σ b = some c := fun b c hb => h.get hb
theorem PathO.frz (h : PathO σ0 es xs q σ) : Frz σ σ0 q (.isl false es xs) := by
  rcases h with ⟨rfl, rfl, h3⟩ | h
  · exact .isl _ _ _
  · exact h.conv.2
theorem PathO.len {P : Program} {f : FuncId} {n : Nat} {Q : V → St → Prop} {k : List It} {T : Ts} {g : GI} {l : List GI} (h : PathO σ0 es xs q σ) : stepW P Γ f n Q (.len (.c q)) g l k T σ = W P Γ f n Q (.ops l :: k) (putT T g.d (.int .i64 xs.length)) σ := by
  rcases h with ⟨rfl, _, _⟩ | h
  · rw [stepW_len_isl]
  · exact stepW_len_own h
theorem SRun.appP {P : Program} {f : FuncId} {n : Nat} {Q : V → St → Prop} {k : List It} {T : Ts} {l : List GI} {d : Option Nat} {by_ : Nat} {s x : Opd} {ex : Bool} (h : PathO σ0 es xs (ev Γ T s) σ) (hx : ev Γ T x = .isl ex es ys) (hne : ys ≠ []) (hy : ∀ y ∈ ys, y.cells.length = es ∧ ∀ c ∈ y.cells, c.one = true) (hfit : (xs.length + ys.length) * by_ ≤ 140737488355328)
    (hk : ∀ r σ', OwnL σ0 es (xs ++ ys) r σ' → W P Γ f n Q (.ops l :: k) (putT T d r) σ') : SRun P Γ f n (.ops (⟨d, none, .app es by_ s x⟩ :: l) :: k) T σ Q := by
  rcases h with ⟨he, rfl, h3⟩ | h
  · have hfl : (flat ys).length = ys.length * es := flat_length fun x hm => (hy x hm).1
    have hfx : (flat xs).length = xs.length * es := flat_length fun x hm => (h3 x hm).1
    refine SRun.appR (old := flat xs) (sLen := xs.length) (by rw [he]; exact Base.isl xs es (.inr rfl)) (by rw [hx]; exact src_isl) (by simpa using hfit) (fun b2 cap2 hb2 hc2 => ?_) (fun h0 => absurd (List.eq_nil_of_length_eq_zero h0) hne)
    rw [he] at hb2 ⊢
    refine hk _ _ ⟨.inr ⟨b2, cap2, hb2, by rw [List.length_append], by rw [flat_append]; rfl, by rw [flat_append, List.length_append, List.length_append, hfl, hfx, Nat.add_mul], by rw [List.length_append]; exact hc2⟩, fun x hm => ?_⟩
    rcases List.mem_append.1 hm with hm | hm
    · exact h3 x hm
    · exact hy x hm
  · exact SRun.appL h hx hy hfit hk
end
def walkV (w : Int × List Int) : V := .agg [.int .i64 w.1, .isl false 1 (ints w.2)]
set_option maxHeartbeats 1000000 in
theorem l08Walk_own {n : Net} {ex : Bool} {rs : List Rt} {from_ port : Int} (hf : n.filters.length ≤ 1000000000000) (hl : rs.length ≤ 1000000) (hv : ViasIn rs) (hi : ∀ v : Int, -3 ≤ (rtAt rs v).via) (h0 : 0 ≤ from_ ∧ from_ < rs.length) :
    ACalls Try.prog Γ 62 [netV n, .isl ex 4 (rtsV rs), .int .i64 from_, .int .i64 port] σ fun r s => ∃ q, r = .agg [.int .i64 (walkP n rs from_ port).1, q] ∧ PathO σ 1 (ints (walkP n rs from_ port).2) q s := by
  have hlen : (netC n).take 6 = netC n := rfl
  have hlen2 : (netC n).length = 6 := rfl
  refine acalls_W c62_ok rfl ?_
  simp (disch := omega) only [c62, netV, go_sem]
  refine SRun.boxR (net_one n) ?_
  intro b4 hb4
  simp (disch := omega) only [go_sem]
  refine SRun.allocR ?_
  intro b8 hb8
  have n8 := upd_none.1 hb8
  simp (disch := omega) only [go_sem]
  refine SRun.allocR ?_
  intro b9 hb9
  have n9 := upd_none.1 hb9
  have n9' := upd_none.1 n9.2
  simp (disch := omega) only [go_sem]
  have n48 : b4 ≠ b8 := n8.1.symm
  have n49 : b4 ≠ b9 := n9'.1.symm
  have n89 : b8 ≠ b9 := n9.1.symm
  have n98 : b9 ≠ b8 := n9.1
  have g4 : ∀ y z, upd (upd (upd σ b4 (netC n)) b8 y) b9 z b4 = some (netC n) := fun y z => by rw [upd_ne _ _ n49, upd_ne _ _ n48, upd_same]
  have g8 : ∀ y z, upd (upd (upd σ b4 (netC n)) b8 y) b9 z b8 = some y := fun y z => by rw [upd_ne _ _ n89, upd_same]
  have hσ : ∀ y z d x, σ d = some x → upd (upd (upd σ b4 (netC n)) b8 y) b9 z d = some x := fun y z d x h => by
    have e4 : d ≠ b4 := fun e => by subst e; rw [hb4] at h; cases h
    have e8 : d ≠ b8 := fun e => by subst e; rw [n8.2] at h; cases h
    have e9 : d ≠ b9 := fun e => by subst e; rw [n9'.2] at h; cases h
    rw [upd_ne _ _ e9, upd_ne _ _ e8, upd_ne _ _ e4]; exact h
  have hwp : walkP n rs from_ port = walkGo n rs port rs.length from_ [from_] := rfl
  refine W_loopC (α := Nat × Int × List Int × V × St) (fun p => p.1 ≤ rs.length ∧ (0 ≤ p.2.1 ∧ p.2.1 < rs.length) ∧ p.2.2.1.length ≤ p.1 + 1 ∧ walkP n rs from_ port = walkGo n rs port (rs.length - p.1) p.2.1 p.2.2.1 ∧ PathO (upd (upd (upd σ b4 (netC n)) b8 [.int .i64 0, .isl true 0 []]) b9 [.int .i64 0, p.2.2.2.1]) 1 (ints p.2.2.1) p.2.2.2.1 p.2.2.2.2) (fun p => [(1, .isl ex 4 (rtsV rs)), (3, .int .i64 port), (4, .ptr b4 0), (8, .ptr b8 0), (9, .ptr b9 0), (10, .int .i64 p.2.1), (11, .int .i64 (p.1 : Nat))]) (fun p => p.2.2.2.2) (fun p => rs.length - p.1) (0, from_, [from_], .isl true 1 [.int .i64 from_], _) ⟨by simp, h0, by simp, hwp, .inl ⟨rfl, rfl, ints1_ok from_⟩⟩ (by simp (disch := omega) only [subT, Int.natCast_add, Int.cast_ofNat_Int, go_sem] <;> (repeat' apply And.intro) <;> first | rfl | (congr 1; omega) | assumption) rfl ?_
  rintro ⟨i, at_, path, q, s⟩ ⟨hi1, hat, hpl, he, ho⟩ ih
  dsimp only at hi1 hat hpl he ho
  have g9' := ho.get (upd_same _ b9 _)
  have g8' := ho.get (g8 _ _)
  have g4' := ho.get (g4 _ _)
  have hq1 := ho.one
  have hqc := ho.cells
  have fin : ∀ (o : Int) (s2 : St), s2 = upd (upd s b9 [.int .i64 o, q]) b8 [.int .i64 o, q] → ∃ s3, (∀ d x, s3 d = some x → s2 d = some x) ∧ PathO σ 1 (ints path) q s3 := by
    rintro o _ rfl
    have h1 := ho.upd (c' := [.int .i64 o, q]) (upd_same _ b9 _)
    have h2 := h1.upd (b := b8) (c' := [.int .i64 o, q]) (by rw [upd_upd]; exact g8 _ _)
    refine h2.less fun d x h => ?_
    have e8 : d ≠ b8 := fun e => by subst e; rw [n8.2] at h; cases h
    rw [upd_ne _ _ e8, upd_upd]; exact hσ _ _ _ _ h
  simp (disch := omega) only [go_sem]
  first | refine iteW_dec (fun h1 => ?_) (fun h1 => ?_) | refine iteW_of (fun h1 => ?_) (fun h1 => ?_)
  · obtain ⟨m, hm⟩ : ∃ m, rs.length - i = m + 1 := ⟨rs.length - i - 1, by omega⟩
    rw [hm, walkGo] at he
    have hrt : rs.getD at_.toNat default = rtAt rs at_ := rfl
    have hrt0 : ∀ r : Rt, (rtC r)[0]? = some (.int .i64 r.via) := fun _ => rfl
    have hvi := hv at_
    have hii := hi at_
    simp (disch := omega) only [hrt, hrt0, go_sem]
    generalize (rtAt rs at_).via = v at *
    first | refine iteW_dec (fun h2 => ?_) (fun h2 => ?_) | refine iteW_of (fun h2 => ?_) (fun h2 => ?_)
    · rw [if_pos h2] at he
      rw [he]
      simp (disch := omega) only [g9', g8', n89, n98, hq1, hqc, go_sem]
      obtain ⟨s3, f1, f2⟩ := fin 1 _ rfl
      exact W_retC c62_ok (r := .agg [.int .i64 1, q]) (resV_cellA rfl (upd_same _ _ _) rfl) (Conv.drop _ f1) ⟨q, rfl, f2⟩
    rw [if_neg h2] at he
    simp (disch := omega) only [go_sem]
    first | refine iteW_dec (fun h3 => ?_) (fun h3 => ?_) | refine iteW_of (fun h3 => ?_) (fun h3 => ?_)
    · rw [if_pos h3] at he
      rw [he]
      simp (disch := omega) only [g9', g8', n89, n98, hq1, hqc, go_sem]
      obtain ⟨s3, f1, f2⟩ := fin 2 _ rfl
      exact W_retC c62_ok (r := .agg [.int .i64 2, q]) (resV_cellA rfl (upd_same _ _ _) rfl) (Conv.drop _ f1) ⟨q, rfl, f2⟩
    rw [if_neg h3] at he
    simp (disch := omega) only [go_sem]
    first | refine iteW_dec (fun h4 => ?_) (fun h4 => ?_) | refine iteW_of (fun h4 => ?_) (fun h4 => ?_)
    · rw [if_pos h4] at he
      rw [he]
      simp (disch := omega) only [g9', g8', n89, n98, hq1, hqc, go_sem]
      obtain ⟨s3, f1, f2⟩ := fin 3 _ rfl
      exact W_retC c62_ok (r := .agg [.int .i64 3, q]) (resV_cellA rfl (upd_same _ _ _) rfl) (Conv.drop _ f1) ⟨q, rfl, f2⟩
    rw [if_neg h4] at he
    simp (disch := omega) only [g4', hlen, hlen2, go_sem]
    refine SRun.callR (l08Filtered_ok (n := n) (at_ := at_) (to := v) (p := port) hf) ⟨[], rfl, rfl⟩ rfl ?_
    cases h5 : n.filters.any (filtB at_ v port) with
    | true =>
      rw [h5, if_pos rfl] at he
      rw [he]
      simp (disch := omega) only [g9', g8', n89, n98, hq1, hqc, go_sem]
      obtain ⟨s3, f1, f2⟩ := fin 4 _ rfl
      exact W_retC c62_ok (r := .agg [.int .i64 4, q]) (resV_cellA rfl (upd_same _ _ _) rfl) (Conv.drop _ f1) ⟨q, rfl, f2⟩
    | false =>
      rw [h5, if_neg (by simp)] at he
      simp (disch := omega) only [g9', go_sem]
      refine SRun.appP ho rfl (by simp) (ints1_ok v) (by simp only [ints_len, List.length_singleton]; omega) ?_
      intro q2 s2 ho2
      rw [ints_app] at ho2
      have ho3 := ho2.upd (c' := [.int .i64 0, q2]) (upd_same _ b9 _)
      rw [upd_upd] at ho3
      simp (disch := omega) only [ho2.get (upd_same _ b9 _), ho2.one, ho2.cells, go_sem]
      exact ih (i + 1, v, path ++ [v], q2, upd s2 b9 [.int .i64 0, q2]) _ _ ⟨by simp only; omega, ⟨by simp only; omega, by simp only; omega⟩, by simp only [List.length_append, List.length_singleton]; omega, by simp only; rw [he]; congr 1; omega, .inr ho3⟩ (by simp only; omega) (by simp (disch := omega) only [subT, Int.natCast_add, Int.cast_ofNat_Int, go_sem] <;> (repeat' apply And.intro) <;> first | rfl | (congr 1; omega) | assumption) rfl
  · have hil : rs.length - i = 0 := by omega
    rw [hil, walkGo] at he
    rw [he]
    simp (disch := omega) only [g9', g8', n89, n98, hq1, hqc, go_sem]
    obtain ⟨s3, f1, f2⟩ := fin 3 _ rfl
    exact W_retC c62_ok (r := .agg [.int .i64 3, q]) (resV_cellA rfl (upd_same _ _ _) rfl) (Conv.drop _ f1) ⟨q, rfl, f2⟩
theorem PathO.inr' {es : Nat} {xs : List V} {q : V} (h : OwnL σ0 es xs q σ) : PathO σ0 es xs q σ := .inr h
set_option maxHeartbeats 1000000 in
theorem forward_own {n : Net} {ex : Bool} {rs : List Rt} {from_ port : Int} (hf : n.filters.length ≤ 1000000000000) (hl : rs.length ≤ 1000000) (hv : ViasIn rs) (hi : ∀ v : Int, -3 ≤ (rtAt rs v).via) (h0 : 0 ≤ from_ ∧ from_ < rs.length) (hr : rs.length = n.routers.length) :
    ACalls Try.prog Γ 57 [netV n, .isl ex 4 (rtsV rs), .int .i64 from_, .int .i64 port] σ fun r s => ∃ q, r = .agg [.int .i64 (walkP n rs from_ port).1, q] ∧ PathO σ 1 (ints (walkP n rs from_ port).2) q s := by
  have hlen : (netC n).take 6 = netC n := rfl
  have hlen2 : (netC n).length = 6 := rfl
  have e0 : (netC n)[0]? = some (.isl false 1 (strsV n.routers)) := rfl
  refine acalls_W c57_ok rfl ?_
  simp (disch := omega) only [c57, netV, go_sem]
  refine SRun.boxR (net_one n) ?_
  intro b4 hb4
  simp (disch := omega) only [go_sem]
  refine SRun.allocR ?_
  intro b8 hb8
  have n8 := upd_none.1 hb8
  simp (disch := omega) only [go_sem]
  refine SRun.allocR ?_
  intro b9 hb9
  have n9 := upd_none.1 hb9
  have n9' := upd_none.1 n9.2
  simp (disch := omega) only [go_sem]
  have n48 : b4 ≠ b8 := n8.1.symm
  have n49 : b4 ≠ b9 := n9'.1.symm
  have n89 : b8 ≠ b9 := n9.1.symm
  have n98 : b9 ≠ b8 := n9.1
  have g4 : ∀ y z, upd (upd (upd σ b4 (netC n)) b8 y) b9 z b4 = some (netC n) := fun y z => by rw [upd_ne _ _ n49, upd_ne _ _ n48, upd_same]
  have g8 : ∀ y z, upd (upd (upd σ b4 (netC n)) b8 y) b9 z b8 = some y := fun y z => by rw [upd_ne _ _ n89, upd_same]
  have hσ : ∀ y z d x, σ d = some x → upd (upd (upd σ b4 (netC n)) b8 y) b9 z d = some x := fun y z d x h => by
    have e4 : d ≠ b4 := fun e => by subst e; rw [hb4] at h; cases h
    have e8 : d ≠ b8 := fun e => by subst e; rw [n8.2] at h; cases h
    have e9 : d ≠ b9 := fun e => by subst e; rw [n9'.2] at h; cases h
    rw [upd_ne _ _ e9, upd_ne _ _ e8, upd_ne _ _ e4]; exact h
  have hwp : walkP n rs from_ port = walkGo n rs port rs.length from_ [from_] := rfl
  refine W_loopC (α := Nat × Int × List Int × V × St) (fun p => p.1 < rs.length ∧ (0 ≤ p.2.1 ∧ p.2.1 < rs.length) ∧ p.2.2.1.length = p.1 + 1 ∧ walkP n rs from_ port = walkGo n rs port (rs.length - p.1) p.2.1 p.2.2.1 ∧ PathO (upd (upd (upd σ b4 (netC n)) b8 [.int .i64 0, .isl true 0 []]) b9 [.int .i64 0, p.2.2.2.1]) 1 (ints p.2.2.1) p.2.2.2.1 p.2.2.2.2) (fun p => [(1, .isl ex 4 (rtsV rs)), (3, .int .i64 port), (4, .ptr b4 0), (8, .ptr b8 0), (9, .ptr b9 0), (10, .int .i64 p.2.1)]) (fun p => p.2.2.2.2) (fun p => rs.length - p.1) (0, from_, [from_], .isl true 1 [.int .i64 from_], _) ⟨by simp only; omega, h0, by simp, hwp, .inl ⟨rfl, rfl, ints1_ok from_⟩⟩ (by simp (disch := omega) only [subT, Int.natCast_add, Int.cast_ofNat_Int, go_sem] <;> (repeat' apply And.intro) <;> first | rfl | (congr 1; omega) | assumption) rfl ?_
  rintro ⟨i, at_, path, q, s⟩ ⟨hi1, hat, hpl, he, ho⟩ ih
  dsimp only at hi1 hat hpl he ho
  have g9' := ho.get (upd_same _ b9 _)
  have g8' := ho.get (g8 _ _)
  have g4' := ho.get (g4 _ _)
  have hq1 := ho.one
  have hqc := ho.cells
  have fin : ∀ (o : Int) (s2 : St), s2 = upd (upd s b9 [.int .i64 o, q]) b8 [.int .i64 o, q] → ∃ s3, (∀ d x, s3 d = some x → s2 d = some x) ∧ PathO σ 1 (ints path) q s3 := by
    rintro o _ rfl
    have h1 := ho.upd (c' := [.int .i64 o, q]) (upd_same _ b9 _)
    have h2 := h1.upd (b := b8) (c' := [.int .i64 o, q]) (by rw [upd_upd]; exact g8 _ _)
    refine h2.less fun d x h => ?_
    have e8 : d ≠ b8 := fun e => by subst e; rw [n8.2] at h; cases h
    rw [upd_ne _ _ e8, upd_upd]; exact hσ _ _ _ _ h
  simp (disch := omega) only [go_sem]
  · obtain ⟨m, hm⟩ : ∃ m, rs.length - i = m + 1 := ⟨rs.length - i - 1, by omega⟩
    rw [hm, walkGo] at he
    have hrt : rs.getD at_.toNat default = rtAt rs at_ := rfl
    have hrt0 : ∀ r : Rt, (rtC r)[0]? = some (.int .i64 r.via) := fun _ => rfl
    have hvi := hv at_
    have hii := hi at_
    simp (disch := omega) only [hrt, hrt0, go_sem]
    generalize (rtAt rs at_).via = v at *
    first | refine iteW_dec (fun h2 => ?_) (fun h2 => ?_) | refine iteW_of (fun h2 => ?_) (fun h2 => ?_)
    · rw [if_pos h2] at he
      rw [he]
      simp (disch := omega) only [g9', g8', n89, n98, hq1, hqc, go_sem]
      obtain ⟨s3, f1, f2⟩ := fin 1 _ rfl
      exact W_retC c57_ok (r := .agg [.int .i64 1, q]) (resV_cellA rfl (upd_same _ _ _) rfl) (Conv.drop _ f1) ⟨q, rfl, f2⟩
    rw [if_neg h2] at he
    simp (disch := omega) only [go_sem]
    first | refine iteW_dec (fun h3 => ?_) (fun h3 => ?_) | refine iteW_of (fun h3 => ?_) (fun h3 => ?_)
    · rw [if_pos h3] at he
      rw [he]
      simp (disch := omega) only [g9', g8', n89, n98, hq1, hqc, go_sem]
      obtain ⟨s3, f1, f2⟩ := fin 2 _ rfl
      exact W_retC c57_ok (r := .agg [.int .i64 2, q]) (resV_cellA rfl (upd_same _ _ _) rfl) (Conv.drop _ f1) ⟨q, rfl, f2⟩
    rw [if_neg h3] at he
    simp (disch := omega) only [go_sem]
    first | refine iteW_dec (fun h4 => ?_) (fun h4 => ?_) | refine iteW_of (fun h4 => ?_) (fun h4 => ?_)
    · rw [if_pos h4] at he
      rw [he]
      simp (disch := omega) only [g9', g8', n89, n98, hq1, hqc, go_sem]
      obtain ⟨s3, f1, f2⟩ := fin 3 _ rfl
      exact W_retC c57_ok (r := .agg [.int .i64 3, q]) (resV_cellA rfl (upd_same _ _ _) rfl) (Conv.drop _ f1) ⟨q, rfl, f2⟩
    rw [if_neg h4] at he
    simp (disch := omega) only [g4', hlen, hlen2, go_sem]
    refine SRun.callR (isFiltered_ok (n := n) (at_ := at_) (to := v) (p := port) hf) ⟨[], rfl, rfl⟩ rfl ?_
    cases h5 : n.filters.any (filtB at_ v port) with
    | true =>
      rw [h5, if_pos rfl] at he
      rw [he]
      simp (disch := omega) only [g9', g8', n89, n98, hq1, hqc, go_sem]
      obtain ⟨s3, f1, f2⟩ := fin 4 _ rfl
      exact W_retC c57_ok (r := .agg [.int .i64 4, q]) (resV_cellA rfl (upd_same _ _ _) rfl) (Conv.drop _ f1) ⟨q, rfl, f2⟩
    | false =>
      rw [h5, if_neg (by simp)] at he
      simp (disch := omega) only [g9', go_sem]
      refine SRun.appP ho rfl (by simp) (ints1_ok v) (by simp only [ints_len, List.length_singleton]; omega) ?_
      intro q2 s2 ho2
      rw [ints_app] at ho2
      have ho3 := ho2.upd (c' := [.int .i64 0, q2]) (upd_same _ b9 _)
      rw [upd_upd] at ho3
      have g42 := ho2.get (g4 _ _)
      have g82 := ho2.get (g8 _ _)
      have hpl2 : (path ++ [v]).length = path.length + 1 := by simp
      have hq21 := ho2.one
      have hq2c := ho2.cells
      simp (disch := omega) only [ho2.get (upd_same _ b9 _), hq21, hq2c, stepW_len_own ho3, g42, n49, e0, ints_len, hpl2, go_sem]
      by_cases h6 : rs.length = i + 1
      · have d6 : decide (((path.length + 1 : Nat) : Int) > n.routers.length) = true := decide_eq_true (by omega)
        have d6' : decide ((path.length : Int) + 1 > n.routers.length) = true := decide_eq_true (by omega)
        have hm0 : m = 0 := by omega
        rw [hm0, walkGo] at he
        rw [he]
        simp (disch := omega) only [d6, d6', g82, n89, n98, hq21, hq2c, go_sem]
        have h2 := (PathO.inr' ho3).upd (c' := [.int .i64 3, q2]) (upd_same _ b9 _)
        rw [upd_upd, upd_upd] at h2
        have h3 := h2.upd (b := b8) (c' := [.int .i64 3, q2]) (g8 _ _)
        obtain ⟨s3, f1, f2⟩ := h3.less (σ := σ) fun d x h => by
          have e8 : d ≠ b8 := fun e => by subst e; rw [n8.2] at h; cases h
          rw [upd_ne _ _ e8]; exact hσ _ _ _ _ h
        exact W_retC c57_ok (r := .agg [.int .i64 3, q2]) (resV_cellA rfl (upd_same _ _ _) rfl) (Conv.drop _ f1) ⟨q2, rfl, f2⟩
      · have d6 : decide (((path.length + 1 : Nat) : Int) > n.routers.length) = false := decide_eq_false (by omega)
        have d6' : decide ((path.length : Int) + 1 > n.routers.length) = false := decide_eq_false (by omega)
        simp (disch := omega) only [d6, d6', go_sem]
        exact ih (i + 1, v, path ++ [v], q2, upd s2 b9 [.int .i64 0, q2]) _ _ ⟨by simp only; omega, ⟨by simp only; omega, by simp only; omega⟩, by simp only [List.length_append, List.length_singleton]; omega, by simp only; rw [he]; congr 1; omega, .inr ho3⟩ (by simp only; omega) (by simp (disch := omega) only [subT, Int.natCast_add, Int.cast_ofNat_Int, go_sem] <;> (repeat' apply And.intro) <;> first | rfl | (congr 1; omega) | assumption) rfl
end
section
attribute [local irreducible] SRun DS DRun
variable {Γ : St} {σ σ0 : St}
def downOn (n : Net) (down : List Bool) (rs : List Rt) (i : Nat) : Bool := decide ((rs.getD i default).via ≥ 0) && down.getD (linkP n.links i (rs.getD i default).via).toNat false
def fwdCode (n : Net) (down : List Bool) (rs : List Rt) (from_ port : Int) : Int :=
  if 4096 < down.length ∨ 4096 < rs.length then 2 else if netB n = false ∨ rtsB n rs = false then 1
  else if down.length ≠ n.links.length ∨ routerB n.routers.length from_ = false ∨ inB port 0 15 = false then 5
  else if (List.range rs.length).any (downOn n down rs) then 8 else 0
def fwdA (n : Net) (down : List Bool) (rs : List Rt) (from_ port : Int) : Int × List Int := if fwdCode n down rs from_ port = 0 then walkP n rs from_ port else (0, [])
theorem rtsB_w {n : Net} {rs : List Rt} (hn : NetR n) (h : rtsB n rs = true) : rs.length = n.routers.length ∧ ViasIn rs ∧ (∀ v : Int, -3 ≤ (rtAt rs v).via) ∧ ∀ i : Nat, i < rs.length → 0 ≤ (rs.getD i default).via → 0 ≤ linkP n.links i (rs.getD i default).via := by
  have r1 := hn.r1
  simp only [rtsB, Bool.and_eq_true, decide_eq_true_eq, List.all_eq_true, List.mem_range] at h
  obtain ⟨h1, h2⟩ := h
  have hdf : ∀ v : Int, ¬ v.toNat < rs.length → rtAt rs v = default := fun v hv => by simp [rtAt, List.getD, List.getElem?_eq_none (by omega : rs.length ≤ v.toNat)]
  have h3 : ∀ i : Nat, i < rs.length → (-3 ≤ (rs.getD i default).via ∧ (rs.getD i default).via < n.routers.length) ∧ (0 ≤ (rs.getD i default).via → 0 ≤ linkP n.links i (rs.getD i default).via) := by
    intro i hi
    have := h2 i hi
    simp only [rtB, inB, Bool.and_eq_true, decide_eq_true_eq, Bool.or_eq_true] at this
    obtain ⟨⟨⟨⟨h4, _⟩, _⟩, h5⟩, _⟩ := this
    exact ⟨by omega, fun h => h5.resolve_left (by omega)⟩
  refine ⟨h1, fun v => ?_, fun v => ?_, fun i hi => (h3 i hi).2⟩
  · by_cases hv : v.toNat < rs.length
    · have := (h3 _ hv).1
      unfold rtAt; omega
    · rw [hdf v hv]; show (0 : Int) < _; omega
  · by_cases hv : v.toNat < rs.length
    · have := (h3 _ hv).1
      unfold rtAt; omega
    · rw [hdf v hv]; show (-3 : Int) ≤ 0; omega
theorem any_range_t {p : Nat → Bool} {m i : Nat} (hi : i < m) (h : p i = true) : (List.range m).any p = true := List.any_eq_true.2 ⟨i, List.mem_range.2 hi, h⟩
theorem any_range_f {p : Nat → Bool} {m : Nat} (h : ∀ i, i < m → p i = false) : (List.range m).any p = false := by
  rw [List.any_eq_false]; intro i hi; rw [h i (List.mem_range.1 hi)]; simp
set_option maxHeartbeats 1000000 in
theorem Forwards_own {n : Net} {ex ex2 : Bool} {down : List Bool} {rs : List Rt} {from_ port : Int} (hn : NetLen n) (hd : down.length ≤ 1000000000000) (hr : rs.length ≤ 1000000000000) :
    ACalls Try.prog Γ 14 [netV n, .isl ex 1 (bools down), .isl ex2 4 (rtsV rs), .int .i64 from_, .int .i64 port] σ fun r s => ∃ q, r = .tup [.agg [.int .i64 (fwdA n down rs from_ port).1, q], .int .i64 (fwdCode n down rs from_ port)] ∧ PathO σ 1 (ints (fwdA n down rs from_ port).2) q s := by
  have hlen : (netC n).take 6 = netC n := rfl
  have hlen2 : (netC n).length = 6 := rfl
  have e0 : (netC n)[0]? = some (.isl false 1 (strsV n.routers)) := rfl
  have e1 : (netC n)[1]? = some (.isl false 3 (linksV n.links)) := rfl
  have hin : ∀ a b c, (decide (b ≤ a) && decide (a ≤ c)) = inB a b c := fun _ _ _ => rfl
  have l1 := hn.routers
  have l2 := hn.links
  have hc : fwdCode n down rs from_ port = if 4096 < down.length ∨ 4096 < rs.length then 2 else if netB n = false ∨ rtsB n rs = false then 1 else if down.length ≠ n.links.length ∨ routerB n.routers.length from_ = false ∨ inB port 0 15 = false then 5 else if (List.range rs.length).any (downOn n down rs) then 8 else 0 := rfl
  have ha : fwdA n down rs from_ port = if fwdCode n down rs from_ port = 0 then walkP n rs from_ port else (0, []) := rfl
  generalize fwdCode n down rs from_ port = code at *
  generalize fwdA n down rs from_ port = A at *
  refine acalls_W c14_ok rfl ?_
  simp (disch := omega) only [c14, netV, go_sem]
  refine SRun.boxR (net_one n) ?_
  intro b5 hb5
  simp (disch := omega) only [go_sem]
  refine SRun.allocR ?_
  intro b10 hb10
  have n10 := upd_none.1 hb10
  have n5 : b5 ≠ b10 := n10.1.symm
  have g5 : ∀ z, upd (upd σ b5 (netC n)) b10 z b5 = some (netC n) := fun z => by rw [upd_ne _ _ n5, upd_same]
  have hσ : ∀ z d x, σ d = some x → upd (upd σ b5 (netC n)) b10 z d = some x := fun z d x h => le_two hb5 n10.2 _ _ _ _ h
  have bad : ∀ c : Int, code = c → c ≠ 0 → ∃ q, V.tup [.agg [.int .i64 0, .isl true 0 []], .int .i64 c] = .tup [.agg [.int .i64 A.1, q], .int .i64 code] ∧ PathO σ 1 (ints A.2) q σ := fun c h1 h2 => by
    rw [if_neg (by rw [h1]; exact h2)] at ha
    rw [ha, h1]; exact ⟨_, rfl, .inr (OwnL.nil _ _)⟩
  simp (disch := omega) only [go_sem]
  by_cases c1 : 4096 < down.length ∨ 4096 < rs.length
  · rw [if_pos c1] at hc
    by_cases c2 : (down.length : Int) > 4096
    · have d2 : decide ((down.length : Int) > 4096) = true := decide_eq_true c2
      simp (disch := omega) only [d2, go_sem]
      exact W_retC c14_ok (r := .tup [.agg [.int .i64 0, .isl true 0 []], .int .i64 2]) (σ' := σ) (resV_cellT rfl (upd_same _ _ _) rfl rfl) (Conv.drop _ (hσ _)) (bad 2 hc (by decide))
    · have d2 : decide ((down.length : Int) > 4096) = false := decide_eq_false c2
      have d3 : decide ((rs.length : Int) > 4096) = true := decide_eq_true (by omega)
      simp (disch := omega) only [d2, d3, go_sem]
      exact W_retC c14_ok (r := .tup [.agg [.int .i64 0, .isl true 0 []], .int .i64 2]) (σ' := σ) (resV_cellT rfl (upd_same _ _ _) rfl rfl) (Conv.drop _ (hσ _)) (bad 2 hc (by decide))
  rw [if_neg c1] at hc
  have d2 : decide ((down.length : Int) > 4096) = false := decide_eq_false (by omega)
  have d3 : decide ((rs.length : Int) > 4096) = false := decide_eq_false (by omega)
  simp (disch := omega) only [d2, d3, g5, hlen, hlen2, go_sem]
  refine SRun.callR (NetOK_ok hn) ⟨[], rfl, rfl⟩ rfl ?_
  cases c4 : netB n with
  | false =>
    rw [if_pos (.inl c4)] at hc
    simp (disch := omega) only [go_sem]
    exact W_retC c14_ok (r := .tup [.agg [.int .i64 0, .isl true 0 []], .int .i64 1]) (σ' := σ) (resV_cellT rfl (upd_same _ _ _) rfl rfl) (Conv.drop _ (hσ _)) (bad 1 hc (by decide))
  | true =>
  have hR := netR_of c4
  simp (disch := omega) only [g5, hlen, hlen2, go_sem]
  refine SRun.callR (l07Routes_ok (ex := ex2) hR hr) ⟨[], rfl, rfl⟩ rfl ?_
  cases c5 : rtsB n rs with
  | false =>
    rw [if_pos (.inr c5)] at hc
    simp (disch := omega) only [go_sem]
    exact W_retC c14_ok (r := .tup [.agg [.int .i64 0, .isl true 0 []], .int .i64 1]) (σ' := σ) (resV_cellT rfl (upd_same _ _ _) rfl rfl) (Conv.drop _ (hσ _)) (bad 1 hc (by decide))
  | true =>
  rw [c4, c5, if_neg (by simp)] at hc
  obtain ⟨w1, w2, w3, w4⟩ := rtsB_w hR c5
  have hrt : ∀ x r : Int, (decide (0 ≤ x) && decide (x ≤ r - 1)) = routerB r x := fun _ _ => rfl
  by_cases c6 : down.length = n.links.length
  case' neg =>
    have d6 : (decide ¬ (down.length : Int) = n.links.length) = true := decide_eq_true (by omega)
    rw [if_pos (.inl c6)] at hc
    simp (disch := omega) only [g5, e1, d6, go_sem]
    exact W_retC c14_ok (r := .tup [.agg [.int .i64 0, .isl true 0 []], .int .i64 5]) (σ' := σ) (resV_cellT rfl (upd_same _ _ _) rfl rfl) (Conv.drop _ (hσ _)) (bad 5 hc (by decide))
  have d6 : (decide ¬ (down.length : Int) = n.links.length) = false := decide_eq_false (by omega)
  simp (disch := omega) only [g5, e0, e1, d6, go_sem]
  refine SRun.callR (l01In_ok from_ 0 ((n.routers.length : Int) - 1)) ⟨[], rfl, rfl⟩ rfl ?_
  rw [hrt]
  cases c7 : routerB n.routers.length from_ with
  | false =>
    rw [if_pos (.inr (.inl c7))] at hc
    simp (disch := omega) only [go_sem]
    exact W_retC c14_ok (r := .tup [.agg [.int .i64 0, .isl true 0 []], .int .i64 5]) (σ' := σ) (resV_cellT rfl (upd_same _ _ _) rfl rfl) (Conv.drop _ (hσ _)) (bad 5 hc (by decide))
  | true =>
  simp (disch := omega) only [go_sem]
  refine SRun.callR (l01In_ok port 0 15) ⟨[], rfl, rfl⟩ rfl ?_
  rw [hin]
  cases c8 : inB port 0 15 with
  | false =>
    rw [if_pos (.inr (.inr c8))] at hc
    simp (disch := omega) only [go_sem]
    exact W_retC c14_ok (r := .tup [.agg [.int .i64 0, .isl true 0 []], .int .i64 5]) (σ' := σ) (resV_cellT rfl (upd_same _ _ _) rfl rfl) (Conv.drop _ (hσ _)) (bad 5 hc (by decide))
  | true =>
  rw [c7, c8, if_neg (by simp [c6])] at hc
  have hfr : 0 ≤ from_ ∧ from_ < rs.length := by simp only [routerB, Bool.and_eq_true, decide_eq_true_eq] at c7; omega
  have gg5 := g5 [.int .i64 0, .isl true 0 []]
  have gg10 := upd_same (upd σ b5 (netC n)) b10 [.int .i64 0, .isl true 0 []]
  have hhσ := hσ [.int .i64 0, .isl true 0 []]
  simp (disch := omega) only [go_sem]
  generalize hs1 : upd (upd σ b5 (netC n)) b10 [.int .i64 0, .isl true 0 []] = s1 at *
  refine W_loopC (α := Nat) (fun i => i ≤ rs.length ∧ ∀ j, j < i → downOn n down rs j = false) (fun i => [(1, .isl ex 1 (bools down)), (2, .isl ex2 4 (rtsV rs)), (3, .int .i64 from_), (4, .int .i64 port), (5, .ptr b5 0), (10, .ptr b10 0), (12, .int .i64 (i : Nat))]) (fun _ => s1) (fun i => rs.length - i) 0 ⟨by omega, fun j hj => by omega⟩ (by simp (disch := omega) only [subT, Int.natCast_add, Int.cast_ofNat_Int, go_sem] <;> (repeat' apply And.intro) <;> first | rfl | (congr 1; omega) | assumption) rfl ?_
  rintro i ⟨hi, hall⟩ ih
  simp (disch := omega) only [go_sem]
  first | refine iteW_dec (fun h1 => ?_) (fun h1 => ?_) | refine iteW_of (fun h1 => ?_) (fun h1 => ?_)
  · have hdef : downOn n down rs i = (decide ((rs.getD i default).via ≥ 0) && down.getD (linkP n.links i (rs.getD i default).via).toNat false) := rfl
    have hw4 := w4 i (by omega)
    have hrt0 : ∀ r : Rt, (rtC r)[0]? = some (.int .i64 r.via) := fun _ => rfl
    have hlk := linkP_in n.links i (rs.getD i default).via
    simp (disch := omega) only [go_sem]
    refine W_drawW ?_
    simp (disch := omega) only [hrt0, go_sem]
    generalize hgv : (rs.getD i default).via = v at *
    by_cases c9 : v ≥ 0
    · have d9 : decide (v ≥ 0) = true := decide_eq_true c9
      have hw5 := hw4 (by omega)
      rw [d9, Bool.true_and] at hdef
      simp (disch := omega) only [d9, go_sem]
      refine DRun.mixE rfl ?_
      simp (disch := omega) only [d9, gg5, e1, hrt0, hgv, go_sem]
      refine DS.callG (ACalls.mono _ _ (l06Link_ok (σ := emp) (ex := false) (ls := n.links) (x := i) (y := v) (by omega)) fun _ _ h => h) ⟨[], rfl, rfl⟩ rfl rfl ?_
      rintro r s ⟨rfl, hs⟩ _
      obtain rfl := hs.symm
      simp (disch := omega) only [go_sem]
      rw [← hdef]
      cases c10 : downOn n down rs i with
      | true =>
        rw [if_pos (any_range_t (i := i) (by omega) c10)] at hc
        simp (disch := omega) only [gg10, go_sem]
        subst hs1
        exact W_retC c14_ok (r := .tup [.agg [.int .i64 0, .isl true 0 []], .int .i64 8]) (σ' := σ) (resV_cellT rfl (upd_same _ _ _) rfl rfl) (Conv.drop _ fun d x h => by rw [upd_upd]; exact hσ _ _ _ h) (bad 8 hc (by decide))
      | false =>
        simp (disch := omega) only [go_sem]
        refine ih (i + 1) _ _ ⟨by omega, fun j hj => ?_⟩ (by omega) (by simp (disch := omega) only [subT, Int.natCast_add, Int.cast_ofNat_Int, go_sem] <;> (repeat' apply And.intro) <;> first | rfl | (congr 1; omega) | assumption) rfl
        by_cases e : j = i
        · subst e; exact c10
        · exact hall j (by omega)
    · have d9 : decide (v ≥ 0) = false := decide_eq_false c9
      rw [d9, Bool.false_and] at hdef
      simp (disch := omega) only [d9, go_sem]
      refine DRun.mixE rfl ?_
      simp (disch := omega) only [go_sem]
      refine DS.skipG rfl rfl ?_
      simp (disch := omega) only [go_sem]
      refine ih (i + 1) _ _ ⟨by omega, fun j hj => ?_⟩ (by omega) (by simp (disch := omega) only [subT, Int.natCast_add, Int.cast_ofNat_Int, go_sem] <;> (repeat' apply And.intro) <;> first | rfl | (congr 1; omega) | assumption) rfl
      by_cases e : j = i
      · subst e; exact hdef
      · exact hall j (by omega)
  · have hil : i = rs.length := by omega
    subst hil
    rw [any_range_f hall, if_neg (by simp)] at hc
    rw [if_pos hc] at ha
    rw [ha, hc]
    simp (disch := omega) only [gg5, hlen, hlen2, go_sem]
    refine SRun.callQ (l08Walk_own (ex := ex2) hn.filters (by omega) w2 w3 hfr) ⟨[], rfl, rfl⟩ rfl ?_
    rintro r s ⟨q, rfl, hp⟩
    simp (disch := omega) only [hp.get gg10, hp.one, hp.cells, go_sem]
    have hp2 := hp.upd (c' := [.int .i64 (walkP n rs from_ port).1, q]) gg10
    obtain ⟨s3, f1, f2⟩ := hp2.less (σ := σ) fun d x h => by
      have e10 : d ≠ b10 := fun e => by subst e; rw [n10.2] at h; cases h
      rw [upd_ne _ _ e10]; exact hhσ _ _ h
    exact W_retC c14_ok (r := .tup [.agg [.int .i64 (walkP n rs from_ port).1, q], .int .i64 0]) (resV_cellT rfl (upd_same _ _ _) rfl rfl) (Conv.drop _ f1) ⟨q, rfl, f2⟩
set_option maxHeartbeats 1000000 in
theorem Forward_own {n : Net} {ex ex2 : Bool} {down : List Bool} {rs : List Rt} {from_ port : Int} (hn : NetLen n) (hd : down.length ≤ 1000000000000) (hr : rs.length ≤ 1000000000000) :
    ACalls Try.prog Γ 13 [netV n, .isl ex 1 (bools down), .isl ex2 4 (rtsV rs), .int .i64 from_, .int .i64 port] σ fun r s => ∃ q, r = .tup [.agg [.int .i64 (fwdA n down rs from_ port).1, q], .int .i64 (fwdCode n down rs from_ port)] ∧ PathO σ 1 (ints (fwdA n down rs from_ port).2) q s := by
  have hlen : (netC n).take 6 = netC n := rfl
  have hlen2 : (netC n).length = 6 := rfl
  have e0 : (netC n)[0]? = some (.isl false 1 (strsV n.routers)) := rfl
  have e1 : (netC n)[1]? = some (.isl false 3 (linksV n.links)) := rfl
  have hin : ∀ a b c, (decide (b ≤ a) && decide (a ≤ c)) = inB a b c := fun _ _ _ => rfl
  have l1 := hn.routers
  have l2 := hn.links
  have hc : fwdCode n down rs from_ port = if 4096 < down.length ∨ 4096 < rs.length then 2 else if netB n = false ∨ rtsB n rs = false then 1 else if down.length ≠ n.links.length ∨ routerB n.routers.length from_ = false ∨ inB port 0 15 = false then 5 else if (List.range rs.length).any (downOn n down rs) then 8 else 0 := rfl
  have ha : fwdA n down rs from_ port = if fwdCode n down rs from_ port = 0 then walkP n rs from_ port else (0, []) := rfl
  generalize fwdCode n down rs from_ port = code at *
  generalize fwdA n down rs from_ port = A at *
  refine acalls_W c13_ok rfl ?_
  simp (disch := omega) only [c13, netV, go_sem]
  refine SRun.boxR (net_one n) ?_
  intro b5 hb5
  simp (disch := omega) only [go_sem]
  refine SRun.allocR ?_
  intro b10 hb10
  have n10 := upd_none.1 hb10
  have n5 : b5 ≠ b10 := n10.1.symm
  have g5 : ∀ z, upd (upd σ b5 (netC n)) b10 z b5 = some (netC n) := fun z => by rw [upd_ne _ _ n5, upd_same]
  have hσ : ∀ z d x, σ d = some x → upd (upd σ b5 (netC n)) b10 z d = some x := fun z d x h => le_two hb5 n10.2 _ _ _ _ h
  have bad : ∀ c : Int, code = c → c ≠ 0 → ∃ q, V.tup [.agg [.int .i64 0, .isl true 0 []], .int .i64 c] = .tup [.agg [.int .i64 A.1, q], .int .i64 code] ∧ PathO σ 1 (ints A.2) q σ := fun c h1 h2 => by
    rw [if_neg (by rw [h1]; exact h2)] at ha
    rw [ha, h1]; exact ⟨_, rfl, .inr (OwnL.nil _ _)⟩
  simp (disch := omega) only [go_sem]
  by_cases c1 : 4096 < down.length ∨ 4096 < rs.length
  · rw [if_pos c1] at hc
    by_cases c2 : (down.length : Int) > 4096
    · have d2 : decide ((down.length : Int) > 4096) = true := decide_eq_true c2
      simp (disch := omega) only [d2, go_sem]
      exact W_retC c13_ok (r := .tup [.agg [.int .i64 0, .isl true 0 []], .int .i64 2]) (σ' := σ) (resV_cellT rfl (upd_same _ _ _) rfl rfl) (Conv.drop _ (hσ _)) (bad 2 hc (by decide))
    · have d2 : decide ((down.length : Int) > 4096) = false := decide_eq_false c2
      have d3 : decide ((rs.length : Int) > 4096) = true := decide_eq_true (by omega)
      simp (disch := omega) only [d2, d3, go_sem]
      exact W_retC c13_ok (r := .tup [.agg [.int .i64 0, .isl true 0 []], .int .i64 2]) (σ' := σ) (resV_cellT rfl (upd_same _ _ _) rfl rfl) (Conv.drop _ (hσ _)) (bad 2 hc (by decide))
  rw [if_neg c1] at hc
  have d2 : decide ((down.length : Int) > 4096) = false := decide_eq_false (by omega)
  have d3 : decide ((rs.length : Int) > 4096) = false := decide_eq_false (by omega)
  simp (disch := omega) only [d2, d3, g5, hlen, hlen2, go_sem]
  refine SRun.callR (isNet_ok hn) ⟨[], rfl, rfl⟩ rfl ?_
  cases c4 : netB n with
  | false =>
    rw [if_pos (.inl c4)] at hc
    simp (disch := omega) only [go_sem]
    exact W_retC c13_ok (r := .tup [.agg [.int .i64 0, .isl true 0 []], .int .i64 1]) (σ' := σ) (resV_cellT rfl (upd_same _ _ _) rfl rfl) (Conv.drop _ (hσ _)) (bad 1 hc (by decide))
  | true =>
  have hR := netR_of c4
  simp (disch := omega) only [g5, hlen, hlen2, go_sem]
  refine SRun.callR (areRoutes_ok (ex := ex2) hR hr) ⟨[], rfl, rfl⟩ rfl ?_
  cases c5 : rtsB n rs with
  | false =>
    rw [if_pos (.inr c5)] at hc
    simp (disch := omega) only [go_sem]
    exact W_retC c13_ok (r := .tup [.agg [.int .i64 0, .isl true 0 []], .int .i64 1]) (σ' := σ) (resV_cellT rfl (upd_same _ _ _) rfl rfl) (Conv.drop _ (hσ _)) (bad 1 hc (by decide))
  | true =>
  rw [c4, c5, if_neg (by simp)] at hc
  obtain ⟨w1, w2, w3, w4⟩ := rtsB_w hR c5
  have hrt : ∀ x r : Int, (decide (0 ≤ x) && decide (x ≤ r - 1)) = routerB r x := fun _ _ => rfl
  by_cases c6 : down.length = n.links.length
  case' neg =>
    have d6 : (decide ¬ (down.length : Int) = n.links.length) = true := decide_eq_true (by omega)
    rw [if_pos (.inl c6)] at hc
    simp (disch := omega) only [g5, e1, d6, go_sem]
    exact W_retC c13_ok (r := .tup [.agg [.int .i64 0, .isl true 0 []], .int .i64 5]) (σ' := σ) (resV_cellT rfl (upd_same _ _ _) rfl rfl) (Conv.drop _ (hσ _)) (bad 5 hc (by decide))
  have d6 : (decide ¬ (down.length : Int) = n.links.length) = false := decide_eq_false (by omega)
  simp (disch := omega) only [g5, e0, e1, d6, hlen, hlen2, go_sem]
  refine SRun.callR (isRouter_ok l1) ⟨[], rfl, rfl⟩ rfl ?_
  cases c7 : routerB n.routers.length from_ with
  | false =>
    rw [if_pos (.inr (.inl c7))] at hc
    simp (disch := omega) only [go_sem]
    exact W_retC c13_ok (r := .tup [.agg [.int .i64 0, .isl true 0 []], .int .i64 5]) (σ' := σ) (resV_cellT rfl (upd_same _ _ _) rfl rfl) (Conv.drop _ (hσ _)) (bad 5 hc (by decide))
  | true =>
  simp (disch := omega) only [go_sem]
  refine SRun.callR (within_ok port 0 15) ⟨[], rfl, rfl⟩ rfl ?_
  rw [hin]
  cases c8 : inB port 0 15 with
  | false =>
    rw [if_pos (.inr (.inr c8))] at hc
    simp (disch := omega) only [go_sem]
    exact W_retC c13_ok (r := .tup [.agg [.int .i64 0, .isl true 0 []], .int .i64 5]) (σ' := σ) (resV_cellT rfl (upd_same _ _ _) rfl rfl) (Conv.drop _ (hσ _)) (bad 5 hc (by decide))
  | true =>
  rw [c7, c8, if_neg (by simp [c6])] at hc
  have hfr : 0 ≤ from_ ∧ from_ < rs.length := by simp only [routerB, Bool.and_eq_true, decide_eq_true_eq] at c7; omega
  have gg5 := g5 [.int .i64 0, .isl true 0 []]
  have gg10 := upd_same (upd σ b5 (netC n)) b10 [.int .i64 0, .isl true 0 []]
  have hhσ := hσ [.int .i64 0, .isl true 0 []]
  simp (disch := omega) only [go_sem]
  generalize hs1 : upd (upd σ b5 (netC n)) b10 [.int .i64 0, .isl true 0 []] = s1 at *
  refine W_loopC (α := Nat × St) (fun p => p.1 ≤ rs.length ∧ (∀ d x, s1 d = some x → p.2 d = some x) ∧ ∀ j, j < p.1 → downOn n down rs j = false) (fun p => [(1, .isl ex 1 (bools down)), (2, .isl ex2 4 (rtsV rs)), (3, .int .i64 from_), (4, .int .i64 port), (5, .ptr b5 0), (10, .ptr b10 0), (54, .isl ex2 4 (rtsV rs)), (55, .int .i64 rs.length), (56, .int .i64 (p.1 : Nat))]) (fun p => p.2) (fun p => rs.length - p.1) (0, s1) ⟨by simp, fun _ _ h => h, fun j hj => by simp at hj⟩ (by simp (disch := omega) only [subT, Int.natCast_add, Int.cast_ofNat_Int, go_sem] <;> (repeat' apply And.intro) <;> first | rfl | (congr 1; omega) | assumption) rfl ?_
  rintro ⟨i, s⟩ ⟨hi, hle, hall⟩ ih
  dsimp only at hi hle hall
  have gg5' := hle _ _ gg5
  have gg10' := hle _ _ gg10
  simp (disch := omega) only [go_sem]
  first | refine iteW_dec (fun h1 => ?_) (fun h1 => ?_) | refine iteW_of (fun h1 => ?_) (fun h1 => ?_)
  · have hdef : downOn n down rs i = (decide ((rs.getD i default).via ≥ 0) && down.getD (linkP n.links i (rs.getD i default).via).toNat false) := rfl
    have hw4 := w4 i (by omega)
    have hlk := linkP_in n.links i (rs.getD i default).via
    have hL := fun Γ σ v => linkOf_ok (Γ := Γ) (σ := σ) (n := n) (x := i) (y := v) (by omega)
    simp (disch := omega) only [go_sem]
    generalize rs.getD i default = x at *
    obtain ⟨v, pp, pl, mk⟩ := x
    have hxc : rtC ⟨v, pp, pl, mk⟩ = [.int .i64 v, .int .i64 pp, .int .i64 pl, .bool mk] := rfl
    dsimp only at hdef hw4 hlk
    refine SRun.allocR ?_
    intro b13 hb13
    have n513 : b5 ≠ b13 := fun e => by subst e; rw [gg5'] at hb13; cases hb13
    have n1013 : b10 ≠ b13 := fun e => by subst e; rw [gg10'] at hb13; cases hb13
    have hle3 : ∀ z, ∀ d y, s1 d = some y → upd s b13 z d = some y := fun z d y h => le_upd hb13 _ _ (hle _ _ h)
    by_cases c9 : v ≥ 0
    · have d9 : decide (v ≥ 0) = true := decide_eq_true c9
      have hw5 := hw4 (by omega)
      rw [d9, Bool.true_and] at hdef
      simp (disch := omega) only [d9, hxc, gg5', n513, hlen, hlen2, go_sem]
      refine SRun.callR (hL _ _ _) ⟨[], rfl, rfl⟩ rfl ?_
      simp (disch := omega) only [go_sem]
      rw [← hdef]
      cases c10 : downOn n down rs i with
      | true =>
        rw [if_pos (any_range_t (i := i) (by omega) c10)] at hc
        simp (disch := omega) only [gg10', n1013, go_sem]
        refine W_retC c13_ok (r := .tup [.agg [.int .i64 0, .isl true 0 []], .int .i64 8]) (σ' := σ) (resV_cellT rfl (upd_same _ _ _) rfl rfl) (Conv.drop _ fun d x h => ?_) (bad 8 hc (by decide))
        have e10 : d ≠ b10 := fun e => by subst e; rw [n10.2] at h; cases h
        rw [upd_ne _ _ e10]; exact hle3 _ _ _ (hhσ _ _ h)
      | false =>
        simp (disch := omega) only [go_sem]
        refine ih (i + 1, _) _ _ ⟨by simp only; omega, hle3 _, fun j hj => ?_⟩ (by simp only; omega) (by simp (disch := omega) only [subT, Int.natCast_add, Int.cast_ofNat_Int, go_sem] <;> (repeat' apply And.intro) <;> first | rfl | (congr 1; omega) | assumption) rfl
        by_cases e : j = i
        · subst e; exact c10
        · exact hall j (by simp only at hj; omega)
    · have d9 : decide (v ≥ 0) = false := decide_eq_false c9
      rw [d9, Bool.false_and] at hdef
      simp (disch := omega) only [d9, hxc, go_sem]
      refine ih (i + 1, _) _ _ ⟨by simp only; omega, hle3 _, fun j hj => ?_⟩ (by simp only; omega) (by simp (disch := omega) only [subT, Int.natCast_add, Int.cast_ofNat_Int, go_sem] <;> (repeat' apply And.intro) <;> first | rfl | (congr 1; omega) | assumption) rfl
      by_cases e : j = i
      · subst e; exact hdef
      · exact hall j (by simp only at hj; omega)
  · have hil : i = rs.length := by omega
    subst hil
    rw [any_range_f hall, if_neg (by simp)] at hc
    rw [if_pos hc] at ha
    rw [ha, hc]
    simp (disch := omega) only [gg5', hlen, hlen2, go_sem]
    refine SRun.callQ (forward_own (ex := ex2) hn.filters (by omega) w2 w3 hfr w1) ⟨[], rfl, rfl⟩ rfl ?_
    rintro r s ⟨q, rfl, hp⟩
    simp (disch := omega) only [hp.get gg10', hp.one, hp.cells, go_sem]
    have hp2 := hp.upd (c' := [.int .i64 (walkP n rs from_ port).1, q]) gg10'
    obtain ⟨s3, f1, f2⟩ := hp2.less (σ := σ) fun d x h => by
      have e10 : d ≠ b10 := fun e => by subst e; rw [n10.2] at h; cases h
      rw [upd_ne _ _ e10]; exact hle _ _ (hhσ _ _ h)
    exact W_retC c13_ok (r := .tup [.agg [.int .i64 (walkP n rs from_ port).1, q], .int .i64 0]) (resV_cellT rfl (upd_same _ _ _) rfl rfl) (Conv.drop _ f1) ⟨q, rfl, f2⟩
end
section
attribute [local irreducible] SRun DS DRun
variable {Γ : St} {σ σ0 : St}
def fwdV (n : Net) (down : List Bool) (rs : List Rt) (from_ port : Int) : V := .tup [walkV (fwdA n down rs from_ port), .int .i64 (fwdCode n down rs from_ port)]
theorem Forwards_ok {n : Net} {ex ex2 : Bool} {down : List Bool} {rs : List Rt} {from_ port : Int} (hn : NetLen n) (hd : down.length ≤ 1000000000000) (hr : rs.length ≤ 1000000000000) :
    Ret Try.prog Γ 14 [netV n, .isl ex 1 (bools down), .isl ex2 4 (rtsV rs), .int .i64 from_, .int .i64 port] σ (fwdV n down rs from_ port) σ :=
  ACalls.conv (Forwards_own hn hd hr) fun r s ⟨q, h1, h2⟩ => by
    subst h1
    exact ⟨_, σ, ⟨h2.le, frz_tup (by exact ⟨frz_agg (by exact ⟨.refl _, h2.frz, trivial⟩) (by simp [V.one]), .refl _, trivial⟩)⟩, rfl, rfl⟩
theorem Forward_ok {n : Net} {ex ex2 : Bool} {down : List Bool} {rs : List Rt} {from_ port : Int} (hn : NetLen n) (hd : down.length ≤ 1000000000000) (hr : rs.length ≤ 1000000000000) :
    Ret Try.prog Γ 13 [netV n, .isl ex 1 (bools down), .isl ex2 4 (rtsV rs), .int .i64 from_, .int .i64 port] σ (fwdV n down rs from_ port) σ :=
  ACalls.conv (Forward_own hn hd hr) fun r s ⟨q, h1, h2⟩ => by
    subst h1
    exact ⟨_, σ, ⟨h2.le, frz_tup (by exact ⟨frz_agg (by exact ⟨.refl _, h2.frz, trivial⟩) (by simp [V.one]), .refl _, trivial⟩)⟩, rfl, rfl⟩
end
end Go.Proofs.Ytabelcohkpmpnaa.Lg
