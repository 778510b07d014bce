/- Routes, the reference's: neighbours, ways, what is imported. -/
import Derived.Test.YtabelcohkpmpnaaWa
set_option linter.unusedSimpArgs false
set_option linter.unusedVariables false
namespace Go.Proofs.Ytabelcohkpmpnaa.Lg
open Go
attribute [local irreducible] SRun DS DRun
variable {Γ : St} {σ σ0 : St}
theorem filter_range_snoc {p : Nat → Bool} (i : Nat) : (List.range (i + 1)).filter p = (List.range i).filter p ++ if p i then [i] else [] := by
  rw [List.range_succ, List.filter_append]
  cases h : p i <;> simp [h]
theorem hasI_in (xs : List Int) (x : Int) : -1 ≤ hasI xs x ∧ hasI xs x < xs.length := first_in _ _
theorem linkP_in (ls : List Link) (x y : Int) : -1 ≤ linkP ls x y ∧ linkP ls x y < ls.length := first_in _ _
theorem l06Neighbours_own {n : Net} {ex : Bool} {down : List Bool} {r : Int} (hn : n.routers.length ≤ 100000000) (hl : n.links.length ≤ 1000000000000) (hd : down.length = n.links.length) :
    ACalls Try.prog Γ 134 [netV n, .int .i64 r, .isl ex 1 (bools down)] σ fun q s => OwnL σ 1 (ints (nearP n r down)) q s := by
  have e0 : (netC n)[0]? = some (.isl false 1 (strsV n.routers)) := rfl
  have e1 : (netC n)[1]? = some (.isl false 3 (linksV n.links)) := rfl
  refine acalls_W c134_ok rfl ?_
  simp (disch := omega) only [c134, netV, go_sem, ↓if_pos, ne_eq, ↓reduceIte]
  refine SRun.boxR (net_one n) ?_
  intro b3 hb3
  have g3 := upd_same σ b3 (netC n)
  simp (disch := omega) only [go_sem, ↓if_pos, ne_eq, ↓reduceIte]
  refine W_loopC (α := Nat × V × St) (fun p => p.1 ≤ n.routers.length ∧ OwnL (upd σ b3 (netC n)) 1 (ints (((List.range p.1).filter (nearB n r down)).map fun (k : Nat) => (k : Int))) p.2.1 p.2.2) (fun p => [(1, .int .i64 r), (2, .isl ex 1 (bools down)), (3, .ptr b3 0), (7, p.2.1), (8, .int .i64 (p.1 : Nat))]) (fun p => p.2.2) (fun p => n.routers.length - p.1) (0, .isl true 1 [], _) ⟨by simp, OwnL.nil _ _⟩ (by simp (disch := omega) only [subT, Int.natCast_add, Int.cast_ofNat_Int, go_sem, ↓if_pos, ne_eq, ↓reduceIte] <;> (repeat' apply And.intro) <;> first | rfl | (congr 1; omega) | assumption) rfl ?_
  rintro ⟨i, q, s⟩ ⟨hi, ho⟩ ih
  dsimp only at hi ho
  have g3' := ho.get g3
  have hq1 := ho.one
  simp (disch := omega) only [g3', e0, go_sem, ↓if_pos, ne_eq, ↓reduceIte]
  first | refine iteW_dec (fun h1 => ?_) (fun h1 => ?_) | refine iteW_of (fun h1 => ?_) (fun h1 => ?_)
  · have hf := filter_range_snoc (p := nearB n r down) i
    have hlen : ((List.range i).filter (nearB n r down)).length ≤ i := by have := List.length_filter_le (nearB n r down) (List.range i); simpa using this
    simp (disch := omega) only [g3', e1, go_sem, ↓if_pos, ne_eq, ↓reduceIte]
    refine SRun.callR (l06Link_ok (ex := false) (ls := n.links) (x := r) (y := i) hl) ⟨[], rfl, rfl⟩ rfl ?_
    have hlk := linkP_in n.links r i
    by_cases h2 : linkP n.links r i ≥ 0
    · have hd2 : decide (linkP n.links r i ≥ 0) = true := decide_eq_true h2
      have hnb : nearB n r down i = !down.getD (linkP n.links r i).toNat false := by unfold nearB; rw [decide_eq_true h2]; rfl
      simp (disch := omega) only [hd2, go_sem, ↓if_pos, ne_eq, ↓reduceIte]
      generalize down.getD (linkP n.links r i).toNat false = dn at *
      cases dn with
      | false =>
        simp (disch := omega) only [go_sem, ↓if_pos, ne_eq, ↓reduceIte]
        refine SRun.appL ho rfl (ints_ok [(i : Int)]) (by simp [ints]; omega) ?_
        intro q' s' ho2
        rw [ints_app] at ho2
        simp (disch := omega) only [go_sem, ↓if_pos, ne_eq, ↓reduceIte]
        rw [hnb] at hf
        refine ih (i + 1, q', s') _ _ ⟨by simp only; omega, by rw [hf]; simpa using ho2⟩ (by simp only; omega) (by simp (disch := omega) only [subT, Int.natCast_add, Int.cast_ofNat_Int, go_sem, ↓if_pos, ne_eq, ↓reduceIte] <;> (repeat' apply And.intro) <;> first | rfl | (congr 1; omega) | assumption) rfl
      | true =>
        simp (disch := omega) only [go_sem, ↓if_pos, ne_eq, ↓reduceIte]
        rw [hnb] at hf
        refine ih (i + 1, q, s) _ _ ⟨by simp only; omega, by rw [hf]; simpa using ho⟩ (by simp only; omega) (by simp (disch := omega) only [subT, Int.natCast_add, Int.cast_ofNat_Int, go_sem, ↓if_pos, ne_eq, ↓reduceIte] <;> (repeat' apply And.intro) <;> first | rfl | (congr 1; omega) | assumption) rfl
    · have hd2 : decide (linkP n.links r i ≥ 0) = false := decide_eq_false h2
      have hnb : nearB n r down i = false := by unfold nearB; rw [decide_eq_false h2]; rfl
      simp (disch := omega) only [hd2, go_sem, ↓if_pos, ne_eq, ↓reduceIte]
      rw [hnb] at hf
      refine ih (i + 1, q, s) _ _ ⟨by simp only; omega, by rw [hf]; simpa using ho⟩ (by simp only; omega) (by simp (disch := omega) only [subT, Int.natCast_add, Int.cast_ofNat_Int, go_sem, ↓if_pos, ne_eq, ↓reduceIte] <;> (repeat' apply And.intro) <;> first | rfl | (congr 1; omega) | assumption) rfl
  · have hir : i = n.routers.length := by omega
    subst hir
    obtain ⟨s2, hle, ho2⟩ := ho.drop hb3
    simp (disch := omega) only [go_sem, ↓if_pos, ne_eq, ↓reduceIte]
    exact W_retC c134_ok rfl (Conv.drop _ hle) ho2
theorem l06Neighbours_ok {n : Net} {ex : Bool} {down : List Bool} {r : Int} (hn : n.routers.length ≤ 100000000) (hl : n.links.length ≤ 1000000000000) (hd : down.length = n.links.length) :
    Ret Try.prog Γ 134 [netV n, .int .i64 r, .isl ex 1 (bools down)] σ (.isl false 1 (ints (nearP n r down))) σ :=
  ACalls.conv (l06Neighbours_own hn hl hd) fun q s ho => ⟨_, σ, ho.conv, rfl, rfl⟩
/-- The vias of routes name routers. -/
def ViasIn (rs : List Rt) : Prop := ∀ v : Int, (rtAt rs v).via < rs.length
theorem l07Through_ok {ex : Bool} {rs : List Rt} {from_ router : Int} (hl : rs.length ≤ 1000000000000) (hv : ViasIn rs) (hf : from_ < rs.length) :
    Ret Try.prog Γ 135 [.isl ex 4 (rtsV rs), .int .i64 from_, .int .i64 router] σ (.bool (throughP rs from_ router)) σ := by
  refine ret_of c135_ok rfl ?_
  simp (disch := omega) only [c135, go_sem, ↓if_pos, ne_eq, ↓reduceIte]
  refine W_loopC (α := Nat × Int) (fun p => p.1 ≤ rs.length + 1 ∧ p.2 < rs.length ∧ throughP rs from_ router = thr rs router (rs.length + 1 - p.1) p.2) (fun p => [(0, .isl ex 4 (rtsV rs)), (2, .int .i64 router), (7, .int .i64 p.2), (8, .int .i64 (p.1 : Nat))]) (fun _ => σ) (fun p => rs.length + 1 - p.1) (0, from_) ⟨by simp, hf, rfl⟩ (by simp (disch := omega) only [subT, Int.natCast_add, Int.cast_ofNat_Int, go_sem, ↓if_pos, ne_eq, ↓reduceIte] <;> (repeat' apply And.intro) <;> first | rfl | (congr 1; omega) | assumption) rfl ?_
  rintro ⟨i, k⟩ ⟨hi, hk, he⟩ ih
  dsimp only at hi hk he
  simp (disch := omega) only [go_sem, ↓if_pos, ne_eq, ↓reduceIte]
  first | refine iteW_dec (fun h1 => ?_) (fun h1 => ?_) | refine iteW_of (fun h1 => ?_) (fun h1 => ?_)
  · obtain ⟨m, hm⟩ : ∃ m, rs.length + 1 - i = m + 1 := ⟨rs.length - i, by omega⟩
    rw [hm] at he
    simp only [thr] at he
    simp (disch := omega) only [go_sem, ↓if_pos, ne_eq, ↓reduceIte]
    first | refine iteW_dec (fun h2 => ?_) (fun h2 => ?_) | refine iteW_of (fun h2 => ?_) (fun h2 => ?_)
    · rw [if_pos h2] at he
      rw [he]
      simp (disch := omega) only [go_sem, ↓if_pos, ne_eq, ↓reduceIte]
      exact W_retR c135_ok rfl ⟨rfl, rfl⟩
    · rw [if_neg h2] at he
      simp (disch := omega) only [go_sem, ↓if_pos, ne_eq, ↓reduceIte]
      by_cases h3 : k < 0
      · have hd3 : decide (k < 0) = true := decide_eq_true h3
        rw [if_pos h3] at he
        rw [he]
        simp (disch := omega) only [hd3, go_sem, ↓if_pos, ne_eq, ↓reduceIte]
        exact W_retR c135_ok rfl ⟨rfl, rfl⟩
      · have hd3 : decide (k < 0) = false := decide_eq_false h3
        rw [if_neg h3] at he
        have hvk := hv k
        have hrt : rtAt rs k = rs.getD k.toNat default := rfl
        simp (disch := omega) only [hd3, rtC, go_sem, ↓if_pos, ne_eq, ↓reduceIte]
        rw [← hrt]
        by_cases h4 : (rtAt rs k).via < 0
        · have hd4 : decide ((rtAt rs k).via < 0) = true := decide_eq_true h4
          rw [if_pos h4] at he
          rw [he]
          simp (disch := omega) only [hd4, go_sem, ↓if_pos, ne_eq, ↓reduceIte]
          exact W_retR c135_ok rfl ⟨rfl, rfl⟩
        · have hd4 : decide ((rtAt rs k).via < 0) = false := decide_eq_false h4
          rw [if_neg h4] at he
          simp (disch := omega) only [hd4, rtC, go_sem, ↓if_pos, ne_eq, ↓reduceIte]
          rw [← hrt]
          exact ih (i + 1, (rtAt rs k).via) _ _ ⟨by simp only; omega, hvk, by rw [he]; congr 1; simp only; omega⟩ (by simp only; omega) (by simp (disch := omega) only [subT, Int.natCast_add, Int.cast_ofNat_Int, go_sem, ↓if_pos, ne_eq, ↓reduceIte] <;> (repeat' apply And.intro) <;> first | rfl | (congr 1; omega) | assumption) rfl
  · have hir : rs.length + 1 - i = 0 := by omega
    rw [hir] at he
    rw [he]
    simp (disch := omega) only [go_sem, ↓if_pos, ne_eq, ↓reduceIte]
    exact W_retR c135_ok rfl ⟨rfl, rfl⟩
/-- What is imported, as a route: none if it is denied. -/
def rtO : Option Rt → Rt | some r => r | none => noRt
set_option maxHeartbeats 1000000 in
theorem l07Import_ok {n : Net} {router from_ : Int} {r : Rt} (hl : n.links.length ≤ 1000000000000) (hi : n.imports.length ≤ 1000000000000) (hlk : 0 ≤ linkP n.links router from_) (hr : 0 ≤ r.len ∧ r.len ≤ 1000000000) (hc : ∀ l ∈ n.links, 1 ≤ l.cost ∧ l.cost ≤ 100) :
    Ret Try.prog Γ 136 [netV n, .int .i64 router, .int .i64 from_, .agg (rtC r)] σ (.agg (rtC (rtO (importO n router from_ r)))) σ := by
  have e1 : (netC n)[1]? = some (.isl false 3 (linksV n.links)) := rfl
  have e4 : (netC n)[4]? = some (.isl false 5 (impsV n.imports)) := rfl
  have hlk2 := (linkP_in n.links router from_).2
  have hcost := hc _ (getD_mem default (by omega : (linkP n.links router from_).toNat < n.links.length))
  refine ret_of c136_ok rfl ?_
  simp (disch := omega) only [c136, netV, go_sem, ↓if_pos, ne_eq, ↓reduceIte]
  refine SRun.boxR (net_one n) ?_
  intro b4 hb4
  simp (disch := omega) only [go_sem, ↓if_pos, ne_eq, ↓reduceIte]
  refine SRun.boxR (rt_one r) ?_
  intro b7 hb7
  have n74 := (upd_none.1 hb7).1
  have n7 := (upd_none.1 hb7).2
  simp (disch := omega) only [go_sem, ↓if_pos, ne_eq, ↓reduceIte]
  refine SRun.allocR ?_
  intro b8 hb8
  have n8 := upd_none.1 hb8
  have n8' := upd_none.1 n8.2
  have g4 : ∀ z, upd (upd (upd σ b4 (netC n)) b7 (rtC r)) b8 z b4 = some (netC n) := fun z => by rw [upd_ne _ _ n8'.1.symm, upd_ne _ _ n74.symm, upd_same]
  have g7 : ∀ z, upd (upd (upd σ b4 (netC n)) b7 (rtC r)) b8 z b7 = some (rtC r) := fun z => by rw [upd_ne _ _ n8.1.symm, upd_same]
  have g8 := fun z => upd_same (upd (upd σ b4 (netC n)) b7 (rtC r)) b8 z
  have hσ : ∀ z d x, σ d = some x → upd (upd (upd σ b4 (netC n)) b7 (rtC r)) b8 z d = some x := fun z d x h => le_upd hb8 _ _ (le_two hb4 n7 _ _ _ _ h)
  have hσ8 := hσ [.int .i64 0, .int .i64 0, .int .i64 0, .bool false]
  have g48 := g4 [.int .i64 0, .int .i64 0, .int .i64 0, .bool false]
  have g78 := g7 [.int .i64 0, .int .i64 0, .int .i64 0, .bool false]
  have g88 := g8 [.int .i64 0, .int .i64 0, .int .i64 0, .bool false]
  generalize upd (upd (upd σ b4 (netC n)) b7 (rtC r)) b8 [.int .i64 0, .int .i64 0, .int .i64 0, .bool false] = s1 at *
  simp (disch := omega) only [go_sem, ↓if_pos, ne_eq, ↓reduceIte]
  rw [W_draw]
  refine DRun.start (DRun.mixNR (fun T s' => ∃ b9, s1 b9 = none ∧ s' = upd emp b9 [.int .i64 0, .int .i64 0, .int .i64 0, .bool false] ∧ look T 1 = .int .i64 router ∧ look T 2 = .int .i64 from_ ∧ look T 4 = .ptr b4 0 ∧ look T 8 = .ptr b8 0 ∧ look T 9 = .ptr b9 0 ∧ look T 28 = .agg (rtC ⟨from_, 100, r.len + (linkAtP n router from_).cost, r.mark⟩)) rfl ?_ ?_)
  · have hlc : ∀ l, linkC l = [.int .i64 l.a, .int .i64 l.b, .int .i64 l.cost] := fun _ => rfl
    simp (disch := omega) only [g78, g48, e1, rtC, go_sem, ↓if_pos, ne_eq, ↓reduceIte]
    refine DS.wr2 (WrF.call (l06Link_ok (ex := false) (ls := n.links) (x := router) (y := from_) hl) ⟨[], rfl, rfl⟩) rfl ?_ ?_
    · rintro x s ⟨rfl, hs⟩ hd
      obtain rfl := hs.symm
      simp (disch := omega) only [hlc, go_sem, ↓if_pos, ne_eq, ↓reduceIte]
      refine DS.wrQ WrF.alloc rfl ?_
      rintro _ s9 ⟨b9, hb9, rfl, rfl⟩ hd9
      refine ⟨b9, disj_new hd9, ?_⟩
      (repeat' apply And.intro) <;> rfl
    · refine DS.wrQ WrF.alloc rfl ?_
      rintro _ s9 ⟨b9, hb9, rfl, rfl⟩ hd9
      simp (disch := omega) only [go_sem, ↓if_pos, ne_eq, ↓reduceIte]
      refine DS.wrQ (WrF.call (l06Link_ok (ex := false) (ls := n.links) (x := router) (y := from_) hl) ⟨[], rfl, rfl⟩) rfl ?_
      rintro x s ⟨rfl, hs⟩ hd
      obtain rfl := hs.symm
      simp (disch := omega) only [hlc, go_sem, ↓if_pos, ne_eq, ↓reduceIte]
      refine ⟨b9, disj_new hd9, ?_⟩
      (repeat' apply And.intro) <;> rfl
  rintro T s' ⟨b9, hb9, rfl, k1, k2, k4, k8, k9, k28⟩
  rw [cup_new]
  have n94 : b9 ≠ b4 := fun e => by subst e; rw [g48] at hb9; cases hb9
  have n98 : b9 ≠ b8 := fun e => by subst e; rw [g88] at hb9; cases hb9
  simp (disch := omega) only [k9, k28, go_sem, ↓if_pos, ne_eq, ↓reduceIte]
  have himp : importO n router from_ r = impGo router from_ n.imports ⟨from_, 100, r.len + (linkAtP n router from_).cost, r.mark⟩ := rfl
  generalize (⟨from_, 100, r.len + (linkAtP n router from_).cost, r.mark⟩ : Rt) = r0 at *
  have hs1 : ∀ d z, s1 d = some z → upd s1 b9 (rtC r0) d = some z := le_upd hb9
  refine W_loopC (α := Nat × Rt × St) (fun p => p.1 ≤ n.imports.length ∧ p.2.2 b9 = some (rtC p.2.1) ∧ (∀ d z, s1 d = some z → p.2.2 d = some z) ∧ importO n router from_ r = impGo router from_ (n.imports.drop p.1) p.2.1) (fun p => [(1, .int .i64 router), (2, .int .i64 from_), (4, .ptr b4 0), (8, .ptr b8 0), (9, .ptr b9 0), (10, .int .i64 (p.1 : Nat))]) (fun p => p.2.2) (fun p => n.imports.length - p.1) (0, r0, _) ⟨by simp, upd_same _ _ _, hs1, by rw [himp]; rfl⟩ (by simp (disch := omega) only [subT, Int.natCast_add, Int.cast_ofNat_Int, k1, k2, k4, k8, k9, go_sem, ↓if_pos, ne_eq, ↓reduceIte] <;> (repeat' apply And.intro) <;> first | rfl | (congr 1; omega) | assumption) rfl ?_
  clear himp
  rintro ⟨i, cur, s⟩ ⟨hi2, hc9, hle, he⟩ ih
  dsimp only at hi2 hc9 hle he
  have g4' := hle _ _ g48
  have g8' := hle _ _ g88
  have hcr : rtC cur = [.int .i64 cur.via, .int .i64 cur.pref, .int .i64 cur.len, .bool cur.mark] := rfl
  have hend : resV [.cell 8 true 4] = resV [.cell 8 true 4] := rfl
  simp (disch := omega) only [g4', e4, go_sem, ↓if_pos, ne_eq, ↓reduceIte]
  first | refine iteW_dec (fun h1 => ?_) (fun h1 => ?_) | refine iteW_of (fun h1 => ?_) (fun h1 => ?_)
  · have hdr := drop_cons (xs := n.imports) default (by omega : i < n.imports.length)
    rw [hdr, impGo] at he
    simp (disch := omega) only [g4', e4, go_sem, ↓if_pos, ne_eq, ↓reduceIte]
    generalize n.imports.getD i default = x at *
    refine SRun.allocR ?_
    intro b11 hb11
    have n11 : b9 ≠ b11 := fun e => by subst e; rw [hc9] at hb11; cases hb11
    have n11b : b11 ≠ b9 := n11.symm
    have n8b : b8 ≠ b9 := n98.symm
    have n118 : b8 ≠ b11 := fun e => by subst e; rw [g8'] at hb11; cases hb11
    have hle3 : ∀ z, ∀ d y, s1 d = some y → upd s b11 z d = some y := fun z d y h => le_upd hb11 _ _ (hle _ _ h)
    have hic : impC x = [.int .i64 x.at_, .int .i64 x.from_, .int .i64 x.when_, .int .i64 x.do_, .int .i64 x.n] := rfl
    clear hcr
    obtain ⟨cv, cp, cl, mk⟩ := cur
    have hcr : rtC ⟨cv, cp, cl, mk⟩ = [.int .i64 cv, .int .i64 cp, .int .i64 cl, .bool mk] := rfl
    dsimp only at he
    have hdef : impSkip router from_ x ⟨cv, cp, cl, mk⟩ = (!decide (x.at_ = router) || !decide (x.from_ = from_) || (decide (x.when_ = 1) && !mk) || (decide (x.when_ = 2) && mk)) := rfl
    have m1 : (decide ¬ x.at_ = router) = !decide (x.at_ = router) := by simp
    have m2 : (decide ¬ x.from_ = from_) = !decide (x.from_ = from_) := by simp
    generalize decide (x.at_ = router) = q1 at *
    generalize decide (x.from_ = from_) = q2 at *
    generalize m3 : decide (x.when_ = 1) = q3 at *
    generalize m4 : decide (x.when_ = 2) = q4 at *
    by_cases hsk : impSkip router from_ x ⟨cv, cp, cl, mk⟩ = true
    · rw [if_pos hsk] at he
      rw [hdef] at hsk
      cases q1
      case' true =>
        cases q2
        case' true =>
          cases q3 <;> cases q4 <;> cases mk
      all_goals
        first
        | (exfalso; revert hsk; decide)
        | skip
      all_goals
        simp (disch := omega) only [hc9, n11, n11b, hic, hcr, m1, m2, m3, m4, go_sem, ↓if_pos, ne_eq, ↓reduceIte]
        exact ih (i + 1, ⟨cv, cp, cl, _⟩, upd s b11 [.int .i64 x.at_, .int .i64 x.from_, .int .i64 x.when_, .int .i64 x.do_, .int .i64 x.n]) _ _ ⟨by simp only; omega, (upd_ne _ _ n11).trans hc9, hle3 _, he⟩ (by simp only; omega) (by simp (disch := omega) only [subT, Int.natCast_add, Int.cast_ofNat_Int, go_sem, ↓if_pos, ne_eq, ↓reduceIte] <;> (repeat' apply And.intro) <;> first | rfl | (congr 1; omega) | assumption) rfl
    · rw [if_neg hsk] at he
      rw [hdef] at hsk
      cases q1
      case' true =>
        cases q2
        case' true =>
          cases q3 <;> cases q4 <;> cases mk
      all_goals
        first
        | (exfalso; revert hsk; simp; done)
        | skip
      all_goals
        simp (disch := omega) only [hc9, n11, n11b, hic, hcr, m1, m2, m3, m4, go_sem, ↓if_pos, ne_eq, ↓reduceIte]
        have g8'' : ∀ z, upd s b11 z b8 = some [.int .i64 0, .int .i64 0, .int .i64 0, .bool false] := fun z => by rw [upd_ne _ _ n118]; exact g8'
        by_cases d1 : x.do_ = 1
        · have dd1 : decide (x.do_ = 1) = true := decide_eq_true d1
          rw [if_pos d1] at he
          simp (disch := omega) only [dd1, go_sem, ↓if_pos, ne_eq, ↓reduceIte]
          refine SRun.callR l07None_ok ⟨[], rfl, rfl⟩ rfl ?_
          have hnr : rtC noRt = [.int .i64 (-3), .int .i64 0, .int .i64 0, .bool false] := rfl
          simp (disch := omega) only [g8'', hnr, go_sem, ↓if_pos, ne_eq, ↓reduceIte]
          refine W_retC c136_ok (r := .agg (rtC noRt)) (resV_cellA rfl (upd_same _ _ _) rfl) (Conv.drop _ fun d z h => ?_) ⟨by rw [he]; rfl, rfl⟩
          have hd8 : d ≠ b8 := fun e => by subst e; rw [n8'.2] at h; cases h
          rw [upd_ne _ _ hd8]; exact hle3 _ _ _ (hσ8 _ _ h)
        · have dd1 : decide (x.do_ = 1) = false := decide_eq_false d1
          rw [if_neg d1] at he
          by_cases d2 : x.do_ = 2
          · have dd2 : decide (x.do_ = 2) = true := decide_eq_true d2
            rw [if_pos d2] at he
            simp (disch := omega) only [dd1, dd2, hc9, n11, n11b, hcr, go_sem, ↓if_pos, ne_eq, ↓reduceIte]
            refine ih (i + 1, ⟨cv, x.n, cl, _⟩, upd (upd s b11 [.int .i64 x.at_, .int .i64 x.from_, .int .i64 x.when_, .int .i64 x.do_, .int .i64 x.n]) b9 [.int .i64 cv, .int .i64 x.n, .int .i64 cl, .bool _]) _ _ ⟨by simp only; omega, upd_same _ _ _, fun d z h => ?_, he⟩ (by simp only; omega) (by simp (disch := omega) only [subT, Int.natCast_add, Int.cast_ofNat_Int, go_sem, ↓if_pos, ne_eq, ↓reduceIte] <;> (repeat' apply And.intro) <;> first | rfl | (congr 1; omega) | assumption) rfl
            have hd9 : d ≠ b9 := fun e => by subst e; rw [hb9] at h; cases h
            try simp only
            rw [upd_ne _ _ hd9]; exact hle3 _ _ _ h
          · have dd2 : decide (x.do_ = 2) = false := decide_eq_false d2
            rw [if_neg d2] at he
            simp (disch := omega) only [dd1, dd2, hc9, n11, n11b, hcr, go_sem, ↓if_pos, ne_eq, ↓reduceIte]
            refine ih (i + 1, ⟨cv, cp, cl, decide (x.do_ = 3)⟩, upd (upd s b11 [.int .i64 x.at_, .int .i64 x.from_, .int .i64 x.when_, .int .i64 x.do_, .int .i64 x.n]) b9 [.int .i64 cv, .int .i64 cp, .int .i64 cl, .bool (decide (x.do_ = 3))]) _ _ ⟨by simp only; omega, upd_same _ _ _, fun d z h => ?_, he⟩ (by simp only; omega) (by simp (disch := omega) only [subT, Int.natCast_add, Int.cast_ofNat_Int, go_sem, ↓if_pos, ne_eq, ↓reduceIte] <;> (repeat' apply And.intro) <;> first | rfl | (congr 1; omega) | assumption) rfl
            have hd9 : d ≠ b9 := fun e => by subst e; rw [hb9] at h; cases h
            try simp only
            rw [upd_ne _ _ hd9]; exact hle3 _ _ _ h
  · have hil : i = n.imports.length := by omega
    rw [hil, List.drop_length, impGo] at he
    have ho : rtO (importO n router from_ r) = cur := by rw [he]; rfl
    have hc9' : s b9 = some [.int .i64 cur.via, .int .i64 cur.pref, .int .i64 cur.len, .bool cur.mark] := hc9
    simp (disch := omega) only [hc9, hcr, g8', go_sem, ↓if_pos, ne_eq, ↓reduceIte]
    refine W_retC c136_ok (r := .agg (rtC cur)) (resV_cellA rfl (upd_same _ _ _) rfl) (Conv.drop _ fun d z h => ?_) ⟨by rw [ho], rfl⟩
    have hd8 : d ≠ b8 := fun e => by subst e; rw [n8'.2] at h; cases h
    rw [upd_ne _ _ hd8]; exact hle _ _ (hσ8 _ _ h)
end Go.Proofs.Ytabelcohkpmpnaa.Lg
