/- Routes that come in are right: the reference's and the program's. -/
import Derived.Test.YtabelcohkpmpnaaWh
set_option linter.unusedSimpArgs false
set_option linter.unusedVariables false
namespace Go.Proofs.Ytabelcohkpmpnaa.Lg
open Go
attribute [local irreducible] SRun DS DRun
variable {Γ : St} {σ σ0 : St}
theorem link_router {n : Net} (hn : NetR n) {i v : Int} (h : 0 ≤ linkP n.links i v) : 0 ≤ v ∧ v < n.routers.length := by
  have h1 := first_any (p := joinB i v) (xs := n.links)
  rw [decide_eq_true (by exact h)] at h1
  obtain ⟨l, hl, hj⟩ := List.any_eq_true.1 h1.symm
  have he := hn.ends l hl
  simp only [joinB, Bool.or_eq_true, Bool.and_eq_true, decide_eq_true_eq] at hj
  omega
set_option maxHeartbeats 1000000 in
theorem l07Routes_ok {n : Net} {ex : Bool} {rs : List Rt} (hn : NetR n) (hl : rs.length ≤ 1000000000000) :
    Ret Try.prog Γ 59 [netV n, .isl ex 4 (rtsV rs)] σ (.bool (rtsB n rs)) σ := by
  have r1 := hn.r1
  have r4 := hn.r4
  have l6 := hn.l6
  have e0 : (netC n)[0]? = some (.isl false 1 (strsV n.routers)) := rfl
  have e1 : (netC n)[1]? = some (.isl false 3 (linksV n.links)) := rfl
  have hin : ∀ a b c, (decide (b ≤ a) && decide (a ≤ c)) = inB a b c := fun _ _ _ => rfl
  have hB : rtsB n rs = (decide (rs.length = n.routers.length) && (List.range rs.length).all fun i => rtB n i (rs.getD i default)) := rfl
  refine ret_of c59_ok rfl ?_
  simp (disch := omega) only [c59, netV, go_sem, ↓if_pos, ne_eq, ↓reduceIte]
  refine SRun.boxR (net_one n) ?_
  intro b2 hb2
  have g2 := upd_same σ b2 (netC n)
  have hσ : ∀ d x, σ d = some x → upd σ b2 (netC n) d = some x := le_upd hb2
  simp (disch := omega) only [go_sem, ↓if_pos, ne_eq, ↓reduceIte]
  generalize upd σ b2 (netC n) = s1 at *
  by_cases c1 : rs.length = n.routers.length
  case' neg =>
    have d1 : (decide ¬ (rs.length : Int) = n.routers.length) = true := decide_eq_true (by omega)
    rw [hB, decide_eq_false c1]
    simp (disch := omega) only [g2, e0, d1, go_sem, ↓if_pos, ne_eq, ↓reduceIte]
    exact W_retC c59_ok rfl (Conv.drop _ hσ) ⟨rfl, rfl⟩
  have d1 : (decide ¬ (rs.length : Int) = n.routers.length) = false := decide_eq_false (by omega)
  rw [decide_eq_true c1, Bool.true_and] at hB
  simp (disch := omega) only [g2, e0, d1, go_sem, ↓if_pos, ne_eq, ↓reduceIte]
  refine W_loopC (α := Nat × St) (fun p => p.1 ≤ rs.length ∧ (∀ d x, s1 d = some x → p.2 d = some x) ∧ ∀ j, j < p.1 → rtB n j (rs.getD j default) = true) (fun p => [(1, .isl ex 4 (rtsV rs)), (2, .ptr b2 0), (5, .int .i64 (p.1 : Nat))]) (fun p => p.2) (fun p => rs.length - p.1) (0, s1) ⟨by simp, fun _ _ h => h, fun j hj => by simp at hj⟩ (by simp (disch := omega) only [subT, Int.natCast_add, Int.cast_ofNat_Int, go_sem, ↓if_pos, ne_eq, ↓reduceIte] <;> (repeat' apply And.intro) <;> first | rfl | (congr 1; omega) | assumption) rfl ?_
  rintro ⟨i, s⟩ ⟨hi, hle, hall⟩ ih
  dsimp only at hi hle hall
  have g2' := hle _ _ g2
  simp (disch := omega) only [go_sem, ↓if_pos, ne_eq, ↓reduceIte]
  first | refine iteW_dec (fun h1 => ?_) (fun h1 => ?_) | refine iteW_of (fun h1 => ?_) (fun h1 => ?_)
  · have hno : rtB n i (rs.getD i default) = false → rtsB n rs = false := fun h => by rw [hB]; exact range_not (i := i) (by omega) h
    have hnx := all_next (p := fun j => rtB n j (rs.getD j default)) hall (i := i)
    simp (disch := omega) only [go_sem, ↓if_pos, ne_eq, ↓reduceIte]
    generalize rs.getD i default = x at *
    refine SRun.allocR ?_
    intro b6 hb6
    have n62 : b2 ≠ b6 := fun e => by subst e; rw [g2'] at hb6; cases hb6
    obtain ⟨v, p, le, mk⟩ := x
    have hxc : rtC ⟨v, p, le, mk⟩ = [.int .i64 v, .int .i64 p, .int .i64 le, .bool mk] := rfl
    have hdef : rtB n i ⟨v, p, le, mk⟩ = (inB v (-3) (n.routers.length - 1) && inB p 0 1000 && inB le 0 10000 && (decide (v < 0) || decide (0 ≤ linkP n.links i v)) && (!decide (v = -3) || decide ((⟨v, p, le, mk⟩ : Rt) = noRt))) := rfl
    have hle3 : ∀ z, ∀ d y, σ d = some y → upd s b6 z d = some y := fun z d y h => le_upd hb6 _ _ (hle _ _ (hσ _ _ h))
    simp (disch := omega) only [hxc, go_sem, ↓if_pos, ne_eq, ↓reduceIte]
    refine W_drawW ?_
    simp (disch := omega) only [g2', e0, n62, go_sem, ↓if_pos, ne_eq, ↓reduceIte]
    refine DRun.callQ (l01In_ok v (-3) ((n.routers.length : Int) - 1)) ⟨[], rfl, rfl⟩ ?_
    rintro r s ⟨rfl, hs⟩
    obtain rfl := hs.symm
    rw [hin]
    cases q1 : inB v (-3) ((n.routers.length : Int) - 1) with
    | false =>
      simp (disch := omega) only [go_sem, ↓if_pos, ne_eq, ↓reduceIte]
      repeat (refine DRun.skipG rfl ?_; simp (disch := omega) only [go_sem, ↓if_pos, ne_eq, ↓reduceIte])
      refine DRun.mixE rfl ?_
      simp (disch := omega) only [go_sem, ↓if_pos, ne_eq, ↓reduceIte]
      refine DS.skipG rfl rfl ?_
      simp (disch := omega) only [go_sem, ↓if_pos, ne_eq, ↓reduceIte]
      exact W_retC c59_ok rfl (Conv.drop _ (hle3 _)) ⟨by rw [hno (by rw [hdef, q1]; simp)]; rfl, rfl⟩
    | true =>
    simp (disch := omega) only [go_sem, ↓if_pos, ne_eq, ↓reduceIte]
    refine DRun.callG (l01In_ok p 0 1000) ⟨[], rfl, rfl⟩ rfl ?_
    rintro r s ⟨rfl, hs⟩
    obtain rfl := hs.symm
    rw [hin]
    cases q2 : inB p 0 1000 with
    | false =>
      simp (disch := omega) only [go_sem, ↓if_pos, ne_eq, ↓reduceIte]
      repeat (refine DRun.skipG rfl ?_; simp (disch := omega) only [go_sem, ↓if_pos, ne_eq, ↓reduceIte])
      refine DRun.mixE rfl ?_
      simp (disch := omega) only [go_sem, ↓if_pos, ne_eq, ↓reduceIte]
      refine DS.skipG rfl rfl ?_
      simp (disch := omega) only [go_sem, ↓if_pos, ne_eq, ↓reduceIte]
      exact W_retC c59_ok rfl (Conv.drop _ (hle3 _)) ⟨by rw [hno (by rw [hdef, q2]; simp)]; rfl, rfl⟩
    | true =>
    simp (disch := omega) only [go_sem, ↓if_pos, ne_eq, ↓reduceIte]
    refine DRun.callG (l01In_ok le 0 10000) ⟨[], rfl, rfl⟩ rfl ?_
    rintro r s ⟨rfl, hs⟩
    obtain rfl := hs.symm
    rw [hin]
    cases q3 : inB le 0 10000 with
    | false =>
      simp (disch := omega) only [go_sem, ↓if_pos, ne_eq, ↓reduceIte]
      repeat (refine DRun.skipG rfl ?_; simp (disch := omega) only [go_sem, ↓if_pos, ne_eq, ↓reduceIte])
      refine DRun.mixE rfl ?_
      simp (disch := omega) only [go_sem, ↓if_pos, ne_eq, ↓reduceIte]
      refine DS.skipG rfl rfl ?_
      simp (disch := omega) only [go_sem, ↓if_pos, ne_eq, ↓reduceIte]
      exact W_retC c59_ok rfl (Conv.drop _ (hle3 _)) ⟨by rw [hno (by rw [hdef, q3]; simp)]; rfl, rfl⟩
    | true =>
    rw [q1, q2, q3] at hdef
    by_cases c4 : v ≥ 0
    · have d4 : decide (v ≥ 0) = true := decide_eq_true c4
      have d5 : decide (v = -3) = false := decide_eq_false (by omega)
      simp (disch := omega) only [d4, g2', e1, n62, go_sem, ↓if_pos, ne_eq, ↓reduceIte]
      refine DRun.callG (l06Link_ok (ex := false) (ls := n.links) (x := i) (y := v) (by omega)) ⟨[], rfl, rfl⟩ rfl ?_
      rintro r s ⟨rfl, hs⟩
      obtain rfl := hs.symm
      by_cases c6 : linkP n.links i v < 0
      · have d6 : decide (linkP n.links i v < 0) = true := decide_eq_true c6
        simp (disch := omega) only [d6, go_sem, ↓if_pos, ne_eq, ↓reduceIte]
        repeat (refine DRun.skipG rfl ?_; simp (disch := omega) only [go_sem, ↓if_pos, ne_eq, ↓reduceIte])
        refine DRun.mixE rfl ?_
        simp (disch := omega) only [go_sem, ↓if_pos, ne_eq, ↓reduceIte]
        refine DS.skipG rfl rfl ?_
        simp (disch := omega) only [go_sem, ↓if_pos, ne_eq, ↓reduceIte]
        exact W_retC c59_ok rfl (Conv.drop _ (hle3 _)) ⟨by rw [hno (by rw [hdef, decide_eq_false (by omega : ¬ v < 0), decide_eq_false (by omega : ¬ 0 ≤ linkP n.links i v)]; simp)]; rfl, rfl⟩
      · have d6 : decide (linkP n.links i v < 0) = false := decide_eq_false c6
        have hok : rtB n i ⟨v, p, le, mk⟩ = true := by rw [hdef, d5, decide_eq_true (by omega : 0 ≤ linkP n.links i v)]; simp
        simp (disch := omega) only [d6, d5, go_sem, ↓if_pos, ne_eq, ↓reduceIte]
        repeat (refine DRun.skipG rfl ?_; simp (disch := omega) only [go_sem, ↓if_pos, ne_eq, ↓reduceIte])
        refine DRun.mixE rfl ?_
        simp (disch := omega) only [go_sem, ↓if_pos, ne_eq, ↓reduceIte]
        refine DS.skipG rfl rfl ?_
        simp (disch := omega) only [go_sem, ↓if_pos, ne_eq, ↓reduceIte]
        exact ih (i + 1, _) _ _ ⟨by simp only; omega, fun d y h => le_upd hb6 _ _ (hle _ _ h), hnx hok⟩ (by simp only; omega) (by simp (disch := omega) only [subT, Int.natCast_add, Int.cast_ofNat_Int, go_sem, ↓if_pos, ne_eq, ↓reduceIte] <;> (repeat' apply And.intro) <;> first | rfl | (congr 1; omega) | assumption) rfl
    · have d4 : decide (v ≥ 0) = false := decide_eq_false c4
      rw [decide_eq_true (by omega : v < 0)] at hdef
      simp (disch := omega) only [d4, go_sem, ↓if_pos, ne_eq, ↓reduceIte]
      refine DRun.skipG rfl ?_
      by_cases c5 : v = -3
      · have d5 : decide (v = -3) = true := decide_eq_true c5
        have hnr : rtC noRt = [.int .i64 (-3), .int .i64 0, .int .i64 0, .bool false] := rfl
        rw [d5] at hdef
        simp (disch := omega) only [d5, go_sem, ↓if_pos, ne_eq, ↓reduceIte]
        refine DRun.mixE rfl ?_
        simp (disch := omega) only [go_sem, ↓if_pos, ne_eq, ↓reduceIte]
        refine DS.callG (ACalls.mono _ _ (l07None_ok (σ := emp)) fun _ _ h => h) ⟨[], rfl, rfl⟩ rfl rfl ?_
        rintro r s ⟨rfl, hs⟩ _
        obtain rfl := hs.symm
        simp (disch := omega) only [go_sem, ↓if_pos, ne_eq, ↓reduceIte]
        refine ⟨trivial, ?_⟩
        have hq := rt_dec ⟨v, p, le, mk⟩ noRt
        dsimp only at hq
        simp (disch := omega) only [hq, go_sem, ↓if_pos, ne_eq, ↓reduceIte]
        first | refine iteW_dec (fun c7 => ?_) (fun c7 => ?_) | refine iteW_of (fun c7 => ?_) (fun c7 => ?_)
        · simp (disch := omega) only [go_sem, ↓if_pos, ne_eq, ↓reduceIte]
          exact W_retC c59_ok rfl (Conv.drop _ (hle3 _)) ⟨by rw [hno (by rw [hdef, decide_eq_false c7]; simp)]; rfl, rfl⟩
        · have hok : rtB n i ⟨v, p, le, mk⟩ = true := by rw [hdef, decide_eq_true (Decidable.not_not.1 c7)]; simp
          simp (disch := omega) only [go_sem, ↓if_pos, ne_eq, ↓reduceIte]
          exact ih (i + 1, _) _ _ ⟨by simp only; omega, fun d y h => le_upd hb6 _ _ (hle _ _ h), hnx hok⟩ (by simp only; omega) (by simp (disch := omega) only [subT, Int.natCast_add, Int.cast_ofNat_Int, go_sem, ↓if_pos, ne_eq, ↓reduceIte] <;> (repeat' apply And.intro) <;> first | rfl | (congr 1; omega) | assumption) rfl
      · have d5 : decide (v = -3) = false := decide_eq_false c5
        have hok : rtB n i ⟨v, p, le, mk⟩ = true := by rw [hdef, d5]; simp
        simp (disch := omega) only [d5, go_sem, ↓if_pos, ne_eq, ↓reduceIte]
        repeat (refine DRun.skipG rfl ?_; simp (disch := omega) only [go_sem, ↓if_pos, ne_eq, ↓reduceIte])
        refine DRun.mixE rfl ?_
        simp (disch := omega) only [go_sem, ↓if_pos, ne_eq, ↓reduceIte]
        refine DS.skipG rfl rfl ?_
        simp (disch := omega) only [go_sem, ↓if_pos, ne_eq, ↓reduceIte]
        exact ih (i + 1, _) _ _ ⟨by simp only; omega, fun d y h => le_upd hb6 _ _ (hle _ _ h), hnx hok⟩ (by simp only; omega) (by simp (disch := omega) only [subT, Int.natCast_add, Int.cast_ofNat_Int, go_sem, ↓if_pos, ne_eq, ↓reduceIte] <;> (repeat' apply And.intro) <;> first | rfl | (congr 1; omega) | assumption) rfl
  · have hil : i = rs.length := by omega
    subst hil
    rw [hB, range_all hall]
    simp (disch := omega) only [go_sem, ↓if_pos, ne_eq, ↓reduceIte]
    exact W_retC c59_ok rfl (Conv.drop _ fun d x h => hle _ _ (hσ _ _ h)) ⟨rfl, rfl⟩
set_option maxHeartbeats 1000000 in
theorem areRoutes_ok {n : Net} {ex : Bool} {rs : List Rt} (hn : NetR n) (hl : rs.length ≤ 1000000000000) :
    Ret Try.prog Γ 53 [netV n, .isl ex 4 (rtsV rs)] σ (.bool (rtsB n rs)) σ := by
  have r1 := hn.r1
  have r4 := hn.r4
  have l6 := hn.l6
  have hlen : (netC n).take 6 = netC n := rfl
  have hlen2 : (netC n).length = 6 := rfl
  have e0 : (netC n)[0]? = some (.isl false 1 (strsV n.routers)) := rfl
  have hin : ∀ a b c, (decide (b ≤ a) && decide (a ≤ c)) = inB a b c := fun _ _ _ => rfl
  have hB : rtsB n rs = (decide (rs.length = n.routers.length) && (List.range rs.length).all fun i => rtB n i (rs.getD i default)) := rfl
  refine ret_of c53_ok rfl ?_
  simp (disch := omega) only [c53, netV, go_sem, ↓if_pos, ne_eq, ↓reduceIte]
  refine SRun.boxR (net_one n) ?_
  intro b2 hb2
  have g2 := upd_same σ b2 (netC n)
  have hσ : ∀ d x, σ d = some x → upd σ b2 (netC n) d = some x := le_upd hb2
  simp (disch := omega) only [go_sem, ↓if_pos, ne_eq, ↓reduceIte]
  generalize upd σ b2 (netC n) = s1 at *
  by_cases c1 : rs.length = n.routers.length
  case' neg =>
    have d1 : (decide ¬ (rs.length : Int) = n.routers.length) = true := decide_eq_true (by omega)
    rw [hB, decide_eq_false c1]
    simp (disch := omega) only [g2, e0, d1, go_sem, ↓if_pos, ne_eq, ↓reduceIte]
    exact W_retC c53_ok rfl (Conv.drop _ hσ) ⟨rfl, rfl⟩
  have d1 : (decide ¬ (rs.length : Int) = n.routers.length) = false := decide_eq_false (by omega)
  rw [decide_eq_true c1, Bool.true_and] at hB
  simp (disch := omega) only [g2, e0, d1, go_sem, ↓if_pos, ne_eq, ↓reduceIte]
  refine W_loopC (α := Nat × St) (fun p => p.1 ≤ rs.length ∧ (∀ d x, s1 d = some x → p.2 d = some x) ∧ ∀ j, j < p.1 → rtB n j (rs.getD j default) = true) (fun p => [(1, .isl ex 4 (rtsV rs)), (2, .ptr b2 0), (13, .isl ex 4 (rtsV rs)), (14, .int .i64 rs.length), (15, .int .i64 (p.1 : Nat))]) (fun p => p.2) (fun p => rs.length - p.1) (0, s1) ⟨by simp, fun _ _ h => h, fun j hj => by simp at hj⟩ (by simp (disch := omega) only [subT, Int.natCast_add, Int.cast_ofNat_Int, go_sem, ↓if_pos, ne_eq, ↓reduceIte] <;> (repeat' apply And.intro) <;> first | rfl | (congr 1; omega) | assumption) rfl ?_
  rintro ⟨i, s⟩ ⟨hi, hle, hall⟩ ih
  dsimp only at hi hle hall
  have g2' := hle _ _ g2
  simp (disch := omega) only [go_sem, ↓if_pos, ne_eq, ↓reduceIte]
  first | refine iteW_dec (fun h1 => ?_) (fun h1 => ?_) | refine iteW_of (fun h1 => ?_) (fun h1 => ?_)
  · have hno : rtB n i (rs.getD i default) = false → rtsB n rs = false := fun h => by rw [hB]; exact range_not (i := i) (by omega) h
    have hnx := all_next (p := fun j => rtB n j (rs.getD j default)) hall (i := i)
    simp (disch := omega) only [go_sem, ↓if_pos, ne_eq, ↓reduceIte]
    generalize rs.getD i default = x at *
    refine SRun.allocR ?_
    intro b6 hb6
    have n62 : b2 ≠ b6 := fun e => by subst e; rw [g2'] at hb6; cases hb6
    obtain ⟨v, p, le, mk⟩ := x
    have hxc : rtC ⟨v, p, le, mk⟩ = [.int .i64 v, .int .i64 p, .int .i64 le, .bool mk] := rfl
    have hdef : rtB n i ⟨v, p, le, mk⟩ = (inB v (-3) (n.routers.length - 1) && inB p 0 1000 && inB le 0 10000 && (decide (v < 0) || decide (0 ≤ linkP n.links i v)) && (!decide (v = -3) || decide ((⟨v, p, le, mk⟩ : Rt) = noRt))) := rfl
    have hle3 : ∀ z, ∀ d y, σ d = some y → upd s b6 z d = some y := fun z d y h => le_upd hb6 _ _ (hle _ _ (hσ _ _ h))
    have hL := fun Γ σ => linkOf_ok (Γ := Γ) (σ := σ) (n := n) (x := i) (y := v) (by omega)
    have hq1 : inB v (-3) (n.routers.length - 1) = (decide (-3 ≤ v) && decide (v ≤ n.routers.length - 1)) := rfl
    have hlr := fun h => link_router hn (i := i) (v := v) h
    have bad : ∀ (a : Bool), True := fun _ => trivial
    clear bad
    by_cases c0 : v < -3
    · have d4 : decide (v ≥ 0) = false := decide_eq_false (by omega)
      have d5 : decide (v < -3) = true := decide_eq_true c0
      simp (disch := omega) only [hxc, d4, d5, go_sem, ↓if_pos, ne_eq, ↓reduceIte]
      exact W_retC c53_ok rfl (Conv.drop _ (hle3 _)) ⟨by rw [hno (by rw [hdef, hq1, decide_eq_false (by omega : ¬ -3 ≤ v)]; simp)]; rfl, rfl⟩
    have d5 : decide (v < -3) = false := decide_eq_false c0
    by_cases c4 : v ≥ 0
    case' pos =>
      have d4 : decide (v ≥ 0) = true := decide_eq_true c4
      have d8 : decide (v = -3) = false := decide_eq_false (by omega)
      simp (disch := omega) only [hxc, d4, g2', n62, hlen, hlen2, go_sem, ↓if_pos, ne_eq, ↓reduceIte]
      refine SRun.callR (hL _ _) ⟨[], rfl, rfl⟩ rfl ?_
      by_cases c6 : linkP n.links i v < 0
      case' pos =>
        have d6 : decide (linkP n.links i v < 0) = true := decide_eq_true c6
        simp (disch := omega) only [d6, go_sem, ↓if_pos, ne_eq, ↓reduceIte]
        exact W_retC c53_ok rfl (Conv.drop _ (hle3 _)) ⟨by rw [hno (by rw [hdef, decide_eq_false (by omega : ¬ v < 0), decide_eq_false (by omega : ¬ 0 ≤ linkP n.links i v)]; simp)]; rfl, rfl⟩
      have d6 : decide (linkP n.links i v < 0) = false := decide_eq_false c6
      have hvr := hlr (by omega)
      have hlv : (decide (v < 0) || decide (0 ≤ linkP n.links i v)) = true := by rw [decide_eq_true (by omega : 0 ≤ linkP n.links i v), Bool.or_true]
      simp (disch := omega) only [d5, d6, go_sem, ↓if_pos, ne_eq, ↓reduceIte]
    case' neg =>
      have d4 : decide (v ≥ 0) = false := decide_eq_false c4
      have hlv : (decide (v < 0) || decide (0 ≤ linkP n.links i v)) = true := by rw [decide_eq_true (by omega : v < 0)]; rfl
      have hvr : v < n.routers.length := by omega
      simp (disch := omega) only [hxc, d4, d5, go_sem, ↓if_pos, ne_eq, ↓reduceIte]
    all_goals
      rw [hq1, decide_eq_true (by omega : -3 ≤ v), decide_eq_true (by omega : v ≤ (n.routers.length : Int) - 1), hlv] at hdef
      refine SRun.callR (within_ok p 0 1000) ⟨[], rfl, rfl⟩ rfl ?_
      rw [hin]
      cases q2 : inB p 0 1000 with
      | false =>
        simp (disch := omega) only [go_sem, ↓if_pos, ne_eq, ↓reduceIte]
        exact W_retC c53_ok rfl (Conv.drop _ (hle3 _)) ⟨by rw [hno (by rw [hdef, q2]; simp)]; rfl, rfl⟩
      | true =>
      simp (disch := omega) only [go_sem, ↓if_pos, ne_eq, ↓reduceIte]
      refine SRun.callR (within_ok le 0 10000) ⟨[], rfl, rfl⟩ rfl ?_
      rw [hin]
      cases q3 : inB le 0 10000 with
      | false =>
        simp (disch := omega) only [go_sem, ↓if_pos, ne_eq, ↓reduceIte]
        exact W_retC c53_ok rfl (Conv.drop _ (hle3 _)) ⟨by rw [hno (by rw [hdef, q3]; simp)]; rfl, rfl⟩
      | true =>
      rw [q2, q3] at hdef
      by_cases c5 : v = -3
      · have d9 : decide (v = -3) = true := decide_eq_true c5
        have hn0 : noRt = ⟨-3, 0, 0, false⟩ := rfl
        rw [d9, hn0] at hdef
        first
        | (exfalso; omega)
        | (simp (disch := omega) only [d9, stepW_eqa4, bne_t, go_sem, ↓if_pos, ne_eq, ↓reduceIte]
           first | refine iteW_dec (fun c7 => ?_) (fun c7 => ?_) | refine iteW_of (fun c7 => ?_) (fun c7 => ?_)
           · simp (disch := omega) only [go_sem, ↓if_pos, ne_eq, ↓reduceIte]
             exact W_retC c53_ok rfl (Conv.drop _ (hle3 _)) ⟨by rw [hno (by rw [hdef, decide_eq_false c7]; simp)]; rfl, rfl⟩
           · have hok : rtB n i ⟨v, p, le, mk⟩ = true := by rw [hdef, decide_eq_true (Decidable.not_not.1 c7)]; simp
             simp (disch := omega) only [go_sem, ↓if_pos, ne_eq, ↓reduceIte]
             exact ih (i + 1, _) _ _ ⟨by simp only; omega, fun d y h => le_upd hb6 _ _ (hle _ _ h), hnx hok⟩ (by simp only; omega) (by simp (disch := omega) only [subT, Int.natCast_add, Int.cast_ofNat_Int, go_sem, ↓if_pos, ne_eq, ↓reduceIte] <;> (repeat' apply And.intro) <;> first | rfl | (congr 1; omega) | assumption) rfl)
      · have d9 : decide (v = -3) = false := decide_eq_false c5
        have hok : rtB n i ⟨v, p, le, mk⟩ = true := by rw [hdef, d9]; simp
        simp (disch := omega) only [d9, go_sem, ↓if_pos, ne_eq, ↓reduceIte]
        exact ih (i + 1, _) _ _ ⟨by simp only; omega, fun d y h => le_upd hb6 _ _ (hle _ _ h), hnx hok⟩ (by simp only; omega) (by simp (disch := omega) only [subT, Int.natCast_add, Int.cast_ofNat_Int, go_sem, ↓if_pos, ne_eq, ↓reduceIte] <;> (repeat' apply And.intro) <;> first | rfl | (congr 1; omega) | assumption) rfl
  · have hil : i = rs.length := by omega
    subst hil
    rw [hB, range_all hall]
    simp (disch := omega) only [go_sem, ↓if_pos, ne_eq, ↓reduceIte]
    exact W_retC c53_ok rfl (Conv.drop _ fun d x h => hle _ _ (hσ _ _ h)) ⟨rfl, rfl⟩
end Go.Proofs.Ytabelcohkpmpnaa.Lg
