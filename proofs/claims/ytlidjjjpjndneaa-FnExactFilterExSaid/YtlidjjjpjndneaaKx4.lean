/- What is told of the functions that are reached, as far as it is asked here. -/
import Derived.Test.YtlidjjjpjndneaaKx3
import Derived.KernelRfl
set_option linter.unusedSimpArgs false
set_option linter.unusedVariables false
namespace Go.Proofs.Ytlidjjjpjndneaa.Lg
open Go
section
attribute [local irreducible] SRun DS DRun
variable {Γ : St} {σ σ0 : St}
theorem all_takeD {α : Type} [Inhabited α] {p : α → Bool} {xs : List α} {i : Nat} (hi : i < xs.length) (h : (xs.take i).all p = true) (hp : p (xs.getD i default) = true) : (xs.take (i + 1)).all p = true := by
 rw [take_succ default hi, List.all_append, h, List.all_cons, hp]; rfl
theorem all_falseD {α : Type} [Inhabited α] {p : α → Bool} {xs : List α} {i : Nat} (hi : i < xs.length) (hp : p (xs.getD i default) = false) : xs.all p = false := by
 rw [List.all_eq_false]; exact ⟨_, getD_mem default hi, by rw [hp]; simp⟩
theorem fil_eq (ls : List Link) (x : Fil) : filOn ls x = (decide (0 ≤ linkP ls x.at_ x.to) && (decide (0 ≤ x.low) && decide (x.low ≤ 15)) && (decide (x.low ≤ x.high) && decide (x.high ≤ 15))) := by
 unfold filOn inB
 rw [Bool.eq_iff_iff]
 simp only [Bool.and_eq_true, decide_eq_true_eq]
 omega
set_option maxHeartbeats 4000000 in
theorem NetOK_ok {n : Net} (hn : NetLen n) : Ret Try.prog Γ 113 [netV n] σ (.bool (netB n)) σ := by
 have hlen : (netC n).take 6 = netC n := rfl
 have hlen2 : (netC n).length = 6 := rfl
 have l1 := hn.routers
 have l2 := hn.links
 have l3 := hn.imports
 have l4 := hn.filters
 have l5 := hn.origins
 have l6 := hn.externals
 have e0 : (netC n)[0]? = some (.isl false 1 (strsV n.routers)) := rfl
 have e1 : (netC n)[1]? = some (.isl false 3 (linksV n.links)) := rfl
 have e2 : (netC n)[2]? = some (.isl false 1 (ints n.origins)) := rfl
 have e3 : (netC n)[3]? = some (.isl false 1 (ints n.externals)) := rfl
 have e4 : (netC n)[4]? = some (.isl false 5 (impsV n.imports)) := rfl
 have e5 : (netC n)[5]? = some (.isl false 4 (filsV n.filters)) := rfl
 refine ret_of c113_ok rfl ?_
 simp (disch := omega) only [c113, netV, go_sem]
 refine SRun.boxR (net_one n) ?_
 intro b1 hb1
 have g1 := upd_same σ b1 (netC n)
 have hσ : ∀ d x, σ d = some x → upd σ b1 (netC n) d = some x := le_upd hb1
 simp (disch := omega) only [go_sem]
 generalize upd σ b1 (netC n) = s1 at *
 simp (disch := omega) only [e0, go_sem]
 refine SRun.callR (l01In_ok n.routers.length 1 4) ⟨[], rfl, rfl⟩ rfl ?_
 by_cases r1 : 1 ≤ n.routers.length ∧ n.routers.length ≤ 4
 case' neg =>
  have hb : (decide ((1 : Int) ≤ n.routers.length) && decide ((n.routers.length : Int) ≤ 4)) = false := by simp; omega
  have hf : netB n = false := by
   have : (decide (1 ≤ n.routers.length) && decide (n.routers.length ≤ 4)) = false := by simp; omega
   unfold netB; rw [this]; simp
  simp (disch := omega) only [hb, go_sem]
  exact W_retC c113_ok rfl (Conv.drop _ hσ) ⟨by rw [hf]; rfl, rfl⟩
 have hb : (decide ((1 : Int) ≤ n.routers.length) && decide ((n.routers.length : Int) ≤ 4)) = true := by simp; omega
 by_cases r2 : n.links.length ≤ 6
 case' neg =>
  have hf : netB n = false := by simp [netB, r2]
  have hd : decide ((n.links.length : Int) > 6) = true := decide_eq_true (by omega)
  simp (disch := omega) only [hb, g1, e1, hd, go_sem]
  exact W_retC c113_ok rfl (Conv.drop _ hσ) ⟨by rw [hf]; rfl, rfl⟩
 have hd2 : decide ((n.links.length : Int) > 6) = false := decide_eq_false (by omega)
 by_cases r3 : n.imports.length ≤ 12
 case' neg =>
  have hf : netB n = false := by simp [netB, r3]
  have hd : decide ((n.imports.length : Int) > 12) = true := decide_eq_true (by omega)
  simp (disch := omega) only [hb, g1, e1, e4, hd, hd2, go_sem]
  exact W_retC c113_ok rfl (Conv.drop _ hσ) ⟨by rw [hf]; rfl, rfl⟩
 have hd3 : decide ((n.imports.length : Int) > 12) = false := decide_eq_false (by omega)
 by_cases r4 : n.filters.length ≤ 6
 case' neg =>
  have hf : netB n = false := by simp [netB, r4]
  have hd : decide ((n.filters.length : Int) > 6) = true := decide_eq_true (by omega)
  simp (disch := omega) only [hb, g1, e1, e4, e5, hd, hd2, hd3, go_sem]
  exact W_retC c113_ok rfl (Conv.drop _ hσ) ⟨by rw [hf]; rfl, rfl⟩
 have hd4 : decide ((n.filters.length : Int) > 6) = false := decide_eq_false (by omega)
 simp (disch := omega) only [hb, g1, e1, e4, e5, e2, hd2, hd3, hd4, go_sem]
 refine SRun.callR (l06Rising_ok (ex := false) (xs := n.origins) (r := n.routers.length) l1 l5) ⟨[], rfl, rfl⟩ rfl ?_
 cases r5 : risingB n.routers.length n.origins
 case' false =>
  have hf : netB n = false := by unfold netB; rw [r5]; simp
  simp (disch := omega) only [go_sem]
  exact W_retC c113_ok rfl (Conv.drop _ hσ) ⟨by rw [hf]; rfl, rfl⟩
 simp (disch := omega) only [g1, e3, go_sem]
 refine SRun.callR (l06Rising_ok (ex := false) (xs := n.externals) (r := n.routers.length) l1 l6) ⟨[], rfl, rfl⟩ rfl ?_
 cases r6 : risingB n.routers.length n.externals
 case' false =>
  have hf : netB n = false := by unfold netB; rw [r6]; simp
  simp (disch := omega) only [go_sem]
  exact W_retC c113_ok rfl (Conv.drop _ hσ) ⟨by rw [hf]; rfl, rfl⟩
 by_cases r7 : n.externals.length ≤ 2
 case' neg =>
  have hf : netB n = false := by simp [netB, r7]
  have hd : decide ((n.externals.length : Int) > 2) = true := decide_eq_true (by omega)
  simp (disch := omega) only [g1, e3, hd, go_sem]
  exact W_retC c113_ok rfl (Conv.drop _ hσ) ⟨by rw [hf]; rfl, rfl⟩
 have hd7 : decide ((n.externals.length : Int) > 2) = false := decide_eq_false (by omega)
 simp (disch := omega) only [g1, e3, hd7, go_sem]
 refine W_loopC (α := Nat) (fun i => i ≤ n.routers.length ∧ ∀ j, j < i → nameAt n.routers j = true) (fun i => [(1, .ptr b1 0), (3, .int .i64 n.routers.length), (4, .int .i64 (i : Nat))]) (fun _ => s1) (fun i => n.routers.length - i) 0 ⟨by omega, fun j hj => by omega⟩ (by simp (disch := omega) only [subT, Int.natCast_add, Int.cast_ofNat_Int, go_sem] <;> (repeat' apply And.intro) <;> first | rfl | (congr 1; omega) | assumption) rfl ?_
 rintro i ⟨hi, hall⟩ ih
 simp (disch := omega) only [go_sem]
 first | refine iteW_dec (fun hq => ?_) (fun hq => ?_) | refine iteW_of (fun hq => ?_) (fun hq => ?_)
 ·have hno : nameAt n.routers i = false → netB n = false := fun h => by
   have := range_not (m := n.routers.length) (p := nameAt n.routers) (i := i) (by omega) h
   unfold netB; rw [this]; simp
  have hnx := all_next (p := fun j => nameAt n.routers j) hall (i := i)
  have hm := hn.names _ (getD_mem [] (by omega : i < n.routers.length))
  have hdef : nameAt n.routers i = (nameB (n.routers.getD i []) && !(n.routers.take i).contains (n.routers.getD i [])) := rfl
  simp (disch := omega) only [go_sem]
  refine W_drawW ?_
  simp (disch := omega) only [g1, e0, go_sem]
  generalize hgn : n.routers.getD i [] = nm at *
  refine DRun.callQ (NameOKs_ok hm) ⟨[], rfl, rfl⟩ ?_
  rintro r s ⟨rfl, hs⟩
  obtain rfl := hs.symm
  generalize nameB nm = q1 at *
  cases q1 with
  | false =>
   simp (disch := omega) only [go_sem]
   refine DRun.skipG rfl ?_
   simp (disch := omega) only [go_sem]
   exact W_retC c113_ok rfl (Conv.drop _ hσ) ⟨by rw [hno hdef]; rfl, rfl⟩
  | true =>
   have hti : List.take ((i : Int) - 0).toNat (strsV n.routers) = strsV (n.routers.take i) := by rw [show ((i : Int) - 0).toNat = i by omega, strsV_take]
   simp (disch := omega) only [g1, e0, hgn, go_sem]
   refine DRun.callG (l06Place_ok (ex := false) (ss := n.routers.take i) (w := nm) (by rw [List.length_take]; omega)) ⟨[], rfl, by rw [← hti]; rfl⟩ rfl ?_
   rintro r s ⟨rfl, hs⟩
   obtain rfl := hs.symm
   have hpg := place_ge (n.routers.take i) nm
   generalize (n.routers.take i).contains nm = q2 at *
   cases q2 with
   | true =>
    simp (disch := omega) only [hpg, go_sem]
    exact W_retC c113_ok rfl (Conv.drop _ hσ) ⟨by rw [hno hdef]; rfl, rfl⟩
   | false =>
    simp (disch := omega) only [hpg, go_sem]
    exact ih (i + 1) _ _ ⟨by omega, hnx hdef⟩ (by omega) (by simp (disch := omega) only [subT, Int.natCast_add, Int.cast_ofNat_Int, go_sem] <;> (repeat' apply And.intro) <;> first | rfl | (congr 1; omega) | assumption) rfl
 ·have hir : i = n.routers.length := by omega
  rw [hir] at hall
  have hnames := range_all hall
  clear ih hq
  simp (disch := omega) only [go_sem]
  refine W_loopC (α := Nat × St) (fun p => p.1 ≤ n.links.length ∧ (∀ j, j < p.1 → linkAt n.routers.length n.links j = true) ∧ ∀ d x, s1 d = some x → p.2 d = some x) (fun p => [(1, .ptr b1 0), (3, .int .i64 n.routers.length), (5, .int .i64 (p.1 : Nat))]) (fun p => p.2) (fun p => n.links.length - p.1) (0, s1) ⟨by omega, fun j hj => by simp only at hj; omega, fun _ _ h => h⟩ (by simp (disch := omega) only [subT, Int.natCast_add, Int.cast_ofNat_Int, go_sem] <;> (repeat' apply And.intro) <;> first | rfl | (congr 1; omega) | assumption) rfl ?_
  rintro ⟨k, s2⟩ ⟨hk, hallk, hle2⟩ ih2
  dsimp only at hk hallk hle2
  have hσ2 : ∀ d x, σ d = some x → s2 d = some x := fun d x h => hle2 _ _ (hσ d x h)
  have g1' := hle2 _ _ g1
  simp (disch := omega) only [g1', e1, go_sem]
  first | refine iteW_dec (fun hq2 => ?_) (fun hq2 => ?_) | refine iteW_of (fun hq2 => ?_) (fun hq2 => ?_)
  ·have hno : linkAt n.routers.length n.links k = false → netB n = false := fun h => by
    have := range_not (m := n.links.length) (p := linkAt n.routers.length n.links) (i := k) (by omega) h
    unfold netB; rw [this]; simp
   have hnx := all_next (p := fun j => linkAt n.routers.length n.links j) hallk (i := k)
   have hdef : linkAt n.routers.length n.links k = ((decide (0 ≤ (n.links.getD k default).a) && decide ((n.links.getD k default).a ≤ (n.routers.length : Int) - 1)) && (decide (0 ≤ (n.links.getD k default).b) && decide ((n.links.getD k default).b ≤ (n.routers.length : Int) - 1)) && !decide ((n.links.getD k default).a = (n.links.getD k default).b) && (decide (1 ≤ (n.links.getD k default).cost) && decide ((n.links.getD k default).cost ≤ 100)) && !(n.links.take k).any (joinB (n.links.getD k default).a (n.links.getD k default).b)) := rfl
   have hfa : decide (linkP (n.links.take k) (n.links.getD k default).a (n.links.getD k default).b ≥ 0) = (n.links.take k).any (joinB (n.links.getD k default).a (n.links.getD k default).b) := first_any
   have hti : List.take ((k : Int) - 0).toNat (linksV n.links) = linksV (n.links.take k) := by rw [show ((k : Int) - 0).toNat = k by omega, linksV_take]
   simp (disch := omega) only [g1', e1, go_sem]
   generalize n.links.getD k default = l at *
   generalize (n.links.take k).any (joinB l.a l.b) = q5 at *
   refine SRun.allocR ?_
   intro b6 hb6
   have n61 : b6 ≠ b1 := fun e => by subst e; rw [g1'] at hb6; cases hb6
   have g1'' : ∀ z, upd s2 b6 z b1 = some (netC n) := fun z => by rw [upd_ne _ _ n61.symm]; exact g1'
   have hσ3 : ∀ z, ∀ d x, σ d = some x → upd s2 b6 z d = some x := fun z d x h => le_upd hb6 _ _ (hσ2 d x h)
   have hlc : linkC l = [.int .i64 l.a, .int .i64 l.b, .int .i64 l.cost] := rfl
   simp (disch := omega) only [hlc, go_sem]
   refine W_drawW ?_
   simp (disch := omega) only [go_sem]
   refine DRun.callQ (l01In_ok l.a 0 ((n.routers.length : Int) - 1)) ⟨[], rfl, rfl⟩ ?_
   rintro r s ⟨rfl, hs⟩
   obtain rfl := hs.symm
   generalize (decide (0 ≤ l.a) && decide (l.a ≤ (n.routers.length : Int) - 1)) = q1 at *
   cases q1 with
   | false =>
    simp (disch := omega) only [go_sem]
    refine DRun.skipG rfl ?_
    simp (disch := omega) only [go_sem]
    refine DRun.skipG rfl ?_
    simp (disch := omega) only [go_sem]
    refine DRun.skipG rfl ?_
    simp (disch := omega) only [go_sem]
    exact W_retC c113_ok rfl (Conv.drop _ (hσ3 _)) ⟨by rw [hno (by rw [hdef]; simp)]; rfl, rfl⟩
   | true =>
    simp (disch := omega) only [go_sem]
    refine DRun.callG (l01In_ok l.b 0 ((n.routers.length : Int) - 1)) ⟨[], rfl, rfl⟩ rfl ?_
    rintro r s ⟨rfl, hs⟩
    obtain rfl := hs.symm
    generalize (decide (0 ≤ l.b) && decide (l.b ≤ (n.routers.length : Int) - 1)) = q2 at *
    cases q2 with
    | false =>
     simp (disch := omega) only [go_sem]
     refine DRun.skipG rfl ?_
     simp (disch := omega) only [go_sem]
     refine DRun.skipG rfl ?_
     simp (disch := omega) only [go_sem]
     exact W_retC c113_ok rfl (Conv.drop _ (hσ3 _)) ⟨by rw [hno (by rw [hdef]; simp)]; rfl, rfl⟩
    | true =>
     by_cases hab : l.a = l.b
     ·have hd : decide (l.a = l.b) = true := decide_eq_true hab
      rw [hd] at hdef
      simp (disch := omega) only [hd, go_sem]
      refine DRun.skipG rfl ?_
      simp (disch := omega) only [go_sem]
      refine DRun.skipG rfl ?_
      simp (disch := omega) only [go_sem]
      exact W_retC c113_ok rfl (Conv.drop _ (hσ3 _)) ⟨by rw [hno (by rw [hdef]; simp)]; rfl, rfl⟩
     ·have hd : decide (l.a = l.b) = false := decide_eq_false hab
      rw [hd] at hdef
      simp (disch := omega) only [hd, go_sem]
      refine DRun.callG (l01In_ok l.cost 1 100) ⟨[], rfl, rfl⟩ rfl ?_
      rintro r s ⟨rfl, hs⟩
      obtain rfl := hs.symm
      generalize (decide (1 ≤ l.cost) && decide (l.cost ≤ 100)) = q4 at *
      cases q4 with
      | false =>
       simp (disch := omega) only [go_sem]
       refine DRun.skipG rfl ?_
       simp (disch := omega) only [go_sem]
       exact W_retC c113_ok rfl (Conv.drop _ (hσ3 _)) ⟨by rw [hno (by rw [hdef]; simp)]; rfl, rfl⟩
      | true =>
       simp (disch := omega) only [g1'', e1, go_sem]
       refine DRun.callG (l06Link_ok (ex := false) (ls := n.links.take k) (x := l.a) (y := l.b) (by rw [List.length_take]; omega)) ⟨[], rfl, by rw [← hti]; rfl⟩ rfl ?_
       rintro r s ⟨rfl, hs⟩
       obtain rfl := hs.symm
       cases q5 with
       | true =>
        simp (disch := omega) only [hfa, go_sem]
        exact W_retC c113_ok rfl (Conv.drop _ (hσ3 _)) ⟨by rw [hno (by rw [hdef]; simp)]; rfl, rfl⟩
       | false =>
        simp (disch := omega) only [hfa, go_sem]
        exact ih2 (k + 1, _) _ _ ⟨by simp only; omega, hnx (by rw [hdef]; rfl), fun d x h => le_upd hb6 _ _ (hle2 _ _ h)⟩ (by simp only; omega) (by simp (disch := omega) only [subT, Int.natCast_add, Int.cast_ofNat_Int, go_sem] <;> (repeat' apply And.intro) <;> first | rfl | (congr 1; omega) | assumption) rfl
  ·have hkr : k = n.links.length := by omega
   rw [hkr] at hallk
   have hlinks := range_all hallk
   clear ih2 hq2
   simp (disch := omega) only [go_sem]
   refine W_loopC (α := Nat × St) (fun p => p.1 ≤ n.imports.length ∧ (n.imports.take p.1).all (impOn n.links) = true ∧ ∀ d x, s1 d = some x → p.2 d = some x) (fun p => [(1, .ptr b1 0), (3, .int .i64 n.routers.length), (7, .int .i64 (p.1 : Nat))]) (fun p => p.2) (fun p => n.imports.length - p.1) (0, s2) ⟨by omega, rfl, hle2⟩ (by simp (disch := omega) only [subT, Int.natCast_add, Int.cast_ofNat_Int, go_sem] <;> (repeat' apply And.intro) <;> first | rfl | (congr 1; omega) | assumption) rfl ?_
   clear g1' hle2 hσ2
   rintro ⟨m, s3⟩ ⟨hm, hallm, hle3⟩ ih3
   dsimp only at hm hallm hle3
   have hσ3 : ∀ d x, σ d = some x → s3 d = some x := fun d x h => hle3 _ _ (hσ d x h)
   have g1' := hle3 _ _ g1
   simp (disch := omega) only [g1', e4, go_sem]
   first | refine iteW_dec (fun hq3 => ?_) (fun hq3 => ?_) | refine iteW_of (fun hq3 => ?_) (fun hq3 => ?_)
   ·have hno : impOn n.links (n.imports.getD m default) = false → netB n = false := fun h => by
     have := all_falseD (xs := n.imports) (p := impOn n.links) (i := m) (by omega) h
     unfold netB; rw [this]; simp
    have hnx := all_takeD (xs := n.imports) (p := impOn n.links) (i := m) (by omega) hallm
    simp (disch := omega) only [g1', e4, go_sem]
    generalize n.imports.getD m default = x at *
    have hdef : impOn n.links x = (decide (0 ≤ linkP n.links x.at_ x.from_) && ((decide (0 ≤ x.when_) && decide (x.when_ ≤ 2)) && (decide (1 ≤ x.do_) && decide (x.do_ ≤ 4)) && (decide (0 ≤ x.n) && decide (x.n ≤ if x.do_ = 2 then 1000 else 0)))) := rfl
    refine SRun.allocR ?_
    intro b8 hb8
    have n81 : b8 ≠ b1 := fun e => by subst e; rw [g1'] at hb8; cases hb8
    have g1'' : ∀ z, upd s3 b8 z b1 = some (netC n) := fun z => by rw [upd_ne _ _ n81.symm]; exact g1'
    have hσ4 : ∀ z, ∀ d x, σ d = some x → upd s3 b8 z d = some x := fun z d x h => le_upd hb8 _ _ (hσ3 d x h)
    have hic : impC x = [.int .i64 x.at_, .int .i64 x.from_, .int .i64 x.when_, .int .i64 x.do_, .int .i64 x.n] := rfl
    simp (disch := omega) only [hic, g1'', e1, go_sem]
    refine SRun.callR (l06Link_ok (ex := false) (ls := n.links) (x := x.at_) (y := x.from_) l2) ⟨[], rfl, rfl⟩ rfl ?_
    by_cases h0 : linkP n.links x.at_ x.from_ < 0
    ·have hd : decide (0 ≤ linkP n.links x.at_ x.from_) = false := decide_eq_false (by omega)
     have hd2 : decide (linkP n.links x.at_ x.from_ < 0) = true := decide_eq_true h0
     rw [hd] at hdef
     simp (disch := omega) only [hd2, go_sem]
     exact W_retC c113_ok rfl (Conv.drop _ (hσ4 _)) ⟨by rw [hno (by rw [hdef]; simp)]; rfl, rfl⟩
    ·have hd : decide (0 ≤ linkP n.links x.at_ x.from_) = true := decide_eq_true (by omega)
     have hd2 : decide (linkP n.links x.at_ x.from_ < 0) = false := decide_eq_false h0
     rw [hd] at hdef
     simp (disch := omega) only [hd2, go_sem]
     refine SRun.callR (l01In_ok x.when_ 0 2) ⟨[], rfl, rfl⟩ rfl ?_
     generalize (decide (0 ≤ x.when_) && decide (x.when_ ≤ 2)) = q1 at *
     cases q1 with
     | false =>
      simp (disch := omega) only [go_sem]
      exact W_retC c113_ok rfl (Conv.drop _ (hσ4 _)) ⟨by rw [hno (by rw [hdef]; simp)]; rfl, rfl⟩
     | true =>
      simp (disch := omega) only [go_sem]
      refine SRun.callR (l01In_ok x.do_ 1 4) ⟨[], rfl, rfl⟩ rfl ?_
      generalize (decide (1 ≤ x.do_) && decide (x.do_ ≤ 4)) = q2 at *
      cases q2 with
      | false =>
       simp (disch := omega) only [go_sem]
       exact W_retC c113_ok rfl (Conv.drop _ (hσ4 _)) ⟨by rw [hno (by rw [hdef]; simp)]; rfl, rfl⟩
      | true =>
       by_cases h2 : x.do_ = 2
       ·have hd3' : decide (x.do_ = 2) = true := decide_eq_true h2
        have hd4' : (decide ¬ x.do_ = 2) = false := decide_eq_false (fun h => h h2)
        rw [if_pos h2] at hdef
        simp (disch := omega) only [hd3', hd4', go_sem]
        refine SRun.callR (l01In_ok x.n 0 1000) ⟨[], rfl, rfl⟩ rfl ?_
        generalize (decide (0 ≤ x.n) && decide (x.n ≤ 1000)) = q3 at *
        cases q3 with
        | false =>
         simp (disch := omega) only [hd4', go_sem]
         exact W_retC c113_ok rfl (Conv.drop _ (hσ4 _)) ⟨by rw [hno (by rw [hdef]; simp)]; rfl, rfl⟩
        | true =>
         simp (disch := omega) only [hd4', go_sem]
         exact ih3 (m + 1, _) _ _ ⟨by simp only; omega, hnx (by rw [hdef]; rfl), fun d x h => le_upd hb8 _ _ (hle3 _ _ h)⟩ (by simp only; omega) (by simp (disch := omega) only [subT, Int.natCast_add, Int.cast_ofNat_Int, go_sem] <;> (repeat' apply And.intro) <;> first | rfl | (congr 1; omega) | assumption) rfl
       ·have hd3' : decide (x.do_ = 2) = false := decide_eq_false h2
        have hd4' : (decide ¬ x.do_ = 2) = true := decide_eq_true h2
        rw [if_neg h2] at hdef
        by_cases hn0 : x.n = 0
        ·have hd5' : (decide ¬ x.n = 0) = false := decide_eq_false (fun h => h hn0)
         simp (disch := omega) only [hd3', hd4', hd5', go_sem]
         exact ih3 (m + 1, _) _ _ ⟨by simp only; omega, hnx (by rw [hdef, hn0]; rfl), fun d x h => le_upd hb8 _ _ (hle3 _ _ h)⟩ (by simp only; omega) (by simp (disch := omega) only [subT, Int.natCast_add, Int.cast_ofNat_Int, go_sem] <;> (repeat' apply And.intro) <;> first | rfl | (congr 1; omega) | assumption) rfl
        ·have hd5' : (decide ¬ x.n = 0) = true := decide_eq_true hn0
         simp (disch := omega) only [hd3', hd4', hd5', go_sem]
         exact W_retC c113_ok rfl (Conv.drop _ (hσ4 _)) ⟨by rw [hno (by rw [hdef]; simp; omega)]; rfl, rfl⟩
   ·have hmr : m = n.imports.length := by omega
    rw [hmr, List.take_length] at hallm
    clear ih3 hq3
    simp (disch := omega) only [go_sem]
    refine W_loopC (α := Nat × St) (fun p => p.1 ≤ n.filters.length ∧ (n.filters.take p.1).all (filOn n.links) = true ∧ ∀ d x, s1 d = some x → p.2 d = some x) (fun p => [(1, .ptr b1 0), (3, .int .i64 n.routers.length), (9, .int .i64 (p.1 : Nat))]) (fun p => p.2) (fun p => n.filters.length - p.1) (0, s3) ⟨by omega, rfl, hle3⟩ (by simp (disch := omega) only [subT, Int.natCast_add, Int.cast_ofNat_Int, go_sem] <;> (repeat' apply And.intro) <;> first | rfl | (congr 1; omega) | assumption) rfl ?_
    clear g1' hle3 hσ3
    rintro ⟨j, s4⟩ ⟨hj, hallj, hle4⟩ ih4
    dsimp only at hj hallj hle4
    have hσ4 : ∀ d x, σ d = some x → s4 d = some x := fun d x h => hle4 _ _ (hσ d x h)
    have g1' := hle4 _ _ g1
    simp (disch := omega) only [g1', e5, go_sem]
    first | refine iteW_dec (fun hq4 => ?_) (fun hq4 => ?_) | refine iteW_of (fun hq4 => ?_) (fun hq4 => ?_)
    ·have hno : filOn n.links (n.filters.getD j default) = false → netB n = false := fun h => by
      have := all_falseD (xs := n.filters) (p := filOn n.links) (i := j) (by omega) h
      unfold netB; rw [this]; simp
     have hnx := all_takeD (xs := n.filters) (p := filOn n.links) (i := j) (by omega) hallj
     simp (disch := omega) only [g1', e5, go_sem]
     generalize n.filters.getD j default = x at *
     have hdef := fil_eq n.links x
     refine SRun.allocR ?_
     intro b10 hb10
     have n101 : b10 ≠ b1 := fun e => by subst e; rw [g1'] at hb10; cases hb10
     have g1'' : ∀ z, upd s4 b10 z b1 = some (netC n) := fun z => by rw [upd_ne _ _ n101.symm]; exact g1'
     have hσ5 : ∀ z, ∀ d x, σ d = some x → upd s4 b10 z d = some x := fun z d x h => le_upd hb10 _ _ (hσ4 d x h)
     have hfc : filC x = [.int .i64 x.at_, .int .i64 x.to, .int .i64 x.low, .int .i64 x.high] := rfl
     simp (disch := omega) only [hfc, g1'', e1, go_sem]
     refine SRun.callR (l06Link_ok (ex := false) (ls := n.links) (x := x.at_) (y := x.to) l2) ⟨[], rfl, rfl⟩ rfl ?_
     by_cases h0 : linkP n.links x.at_ x.to < 0
     ·have hd : decide (0 ≤ linkP n.links x.at_ x.to) = false := decide_eq_false (by omega)
      have hd2 : decide (linkP n.links x.at_ x.to < 0) = true := decide_eq_true h0
      rw [hd] at hdef
      simp (disch := omega) only [hd2, go_sem]
      exact W_retC c113_ok rfl (Conv.drop _ (hσ5 _)) ⟨by rw [hno (by rw [hdef]; simp)]; rfl, rfl⟩
     ·have hd : decide (0 ≤ linkP n.links x.at_ x.to) = true := decide_eq_true (by omega)
      have hd2 : decide (linkP n.links x.at_ x.to < 0) = false := decide_eq_false h0
      rw [hd] at hdef
      simp (disch := omega) only [hd2, go_sem]
      refine SRun.callR (l01In_ok x.low 0 15) ⟨[], rfl, rfl⟩ rfl ?_
      generalize (decide (0 ≤ x.low) && decide (x.low ≤ 15)) = q1 at *
      cases q1 with
      | false =>
       simp (disch := omega) only [go_sem]
       exact W_retC c113_ok rfl (Conv.drop _ (hσ5 _)) ⟨by rw [hno (by rw [hdef]; simp)]; rfl, rfl⟩
      | true =>
       simp (disch := omega) only [go_sem]
       refine SRun.callR (l01In_ok x.high x.low 15) ⟨[], rfl, rfl⟩ rfl ?_
       generalize (decide (x.low ≤ x.high) && decide (x.high ≤ 15)) = q2 at *
       cases q2 with
       | false =>
        simp (disch := omega) only [go_sem]
        exact W_retC c113_ok rfl (Conv.drop _ (hσ5 _)) ⟨by rw [hno (by rw [hdef]; simp)]; rfl, rfl⟩
       | true =>
        simp (disch := omega) only [go_sem]
        exact ih4 (j + 1, _) _ _ ⟨by simp only; omega, hnx (by rw [hdef]; rfl), fun d x h => le_upd hb10 _ _ (hle4 _ _ h)⟩ (by simp only; omega) (by simp (disch := omega) only [subT, Int.natCast_add, Int.cast_ofNat_Int, go_sem] <;> (repeat' apply And.intro) <;> first | rfl | (congr 1; omega) | assumption) rfl
    ·have hjr : j = n.filters.length := by omega
     rw [hjr, List.take_length] at hallj
     have hB : netB n = true := by
      unfold netB
      rw [hnames, hlinks, hallm, hallj, r5, r6, decide_eq_true r1.1, decide_eq_true r1.2, decide_eq_true r2, decide_eq_true r3, decide_eq_true r4, decide_eq_true r7]
      rfl
     rw [hB]
     simp (disch := omega) only [go_sem]
     exact W_retC c113_ok rfl (Conv.drop _ hσ4) ⟨rfl, rfl⟩
end
section
attribute [local irreducible] SRun DS DRun
variable {Γ : St} {σ σ0 : St}
def zeroE : Ex := .mk 0 0 []
theorem zeroE_frz {σ σ' : St} : Frz σ σ' (.agg [.int .i64 0, .int .i64 0, .isl true 0 []]) (exV zeroE) := exV_conv (frz_nil _ _)
def exA (e : Ex) : V := bif okE e then .tup [exV e, .int .i64 0] else .tup [exV zeroE, .int .i64 11]
theorem resV_2E {T : Ts} {a nn b p : Nat} {cs : List V} (h : look T a = .ptr b 0) (hb : σ b = some cs) (hl : nn = cs.length) : resV [.cell a true nn, .t p] T σ = some (.tup [.agg cs, look T p]) := by
 subst hl
 simp [resV, resV1, h, hb]
theorem checkedEx_ok {e : Ex} (hsz : sizeE e ≤ 1000000) : Ret Try.prog Γ 112 [exV e] σ (exA e) σ := by
 refine ret_of c112_ok rfl ?_
 simp (disch := omega) only [c112, go_sem]
 refine SRun.boxR (by show ∀ c ∈ (exV e).cells, _; rw [cells_exV]; exact exC_one e) ?_
 intro b1 hb1
 simp (disch := omega) only [go_sem]
 refine SRun.allocR ?_
 intro b2 hb2
 have n21 := (upd_none.1 hb2).1
 have g1 : upd (upd σ b1 (exC e)) b2 [.int .i64 0, .int .i64 0, .isl true 0 []] b1 = some (exC e) := by rw [upd_ne _ _ n21.symm, upd_same]
 have g2 := upd_same (upd σ b1 (exC e)) b2 [.int .i64 0, .int .i64 0, .isl true 0 []]
 have hσ : ∀ d x, σ d = some x → d ≠ b2 ∧ upd (upd σ b1 (exC e)) b2 [.int .i64 0, .int .i64 0, .isl true 0 []] d = some x := fun d x h => ⟨fun e => by (subst e; rw [(upd_none.1 hb2).2] at h; cases h), le_upd hb2 _ _ (le_upd hb1 _ _ h)⟩
 generalize upd (upd σ b1 (exC e)) b2 [.int .i64 0, .int .i64 0, .isl true 0 []] = s1 at *
 simp (disch := omega) only [g1, go_sem]
 refine SRun.callR (isEx_ok (e := e) hsz) ⟨[], rfl, rfl⟩ rfl ?_
 simp (disch := omega) only [List.getD_cons_zero, List.getD_cons_succ, go_sem]
 have hA : exA e = bif okE e then .tup [exV e, .int .i64 0] else .tup [exV zeroE, .int .i64 11] := rfl
 generalize okE e = q at *
 cases q with
 | false =>
  simp (disch := omega) only [g2, go_sem]
  exact W_retC c112_ok (r := .tup [.agg [.int .i64 0, .int .i64 0, .isl true 0 []], .int .i64 11]) (r' := .tup [exV zeroE, .int .i64 11]) (σ' := σ) (resV_2E rfl (upd_same _ _ _) rfl) ⟨fun d x hd => by rw [upd_ne _ _ (hσ d x hd).1]; exact (hσ d x hd).2, frz_tup (by exact ⟨zeroE_frz, .refl _, trivial⟩)⟩ ⟨hA.symm, rfl⟩
 | true =>
  simp (disch := omega) only [g1, go_sem]
  refine SRun.callR (cloneEx_ok e hsz) ⟨[], rfl, rfl⟩ rfl ?_
  simp (disch := omega) only [List.getD_cons_zero, List.getD_cons_succ, go_sem]
  simp (disch := omega) only [g2, go_sem]
  exact W_retC c112_ok (r := .tup [.agg (exC e), .int .i64 0]) (r' := .tup [exV e, .int .i64 0]) (σ' := σ) (resV_2E rfl (upd_same _ _ _) (exC_len e).symm) ⟨fun d x hd => by rw [upd_ne _ _ (hσ d x hd).1]; exact (hσ d x hd).2, frz_tup (by exact ⟨by rw [agg_exC]; exact .refl _, .refl _, trivial⟩)⟩ ⟨hA.symm, rfl⟩
def bits4 (n : Int) : List Ex := (List.range 4).map fun i => constE (bitI n i)
def port4 : List Ex := (List.range 4).map fun i => varE (i : Nat)
def stepE (a t : Int) (e : Ex) (x : Fil) : Ex := bif decide (x.at_ = a) && decide (x.to = t) then nodeE 5 [e, nodeE 4 [nodeE 3 [lessE port4 (bits4 x.low) 4], nodeE 3 [lessE (bits4 x.high) port4 4]]] else e
def filE (a t : Int) (fs : List Fil) : Ex := fs.foldl (stepE a t) (constE 0)
theorem filE_succ {a t : Int} {fs : List Fil} {i : Nat} (h : i < fs.length) : filE a t (fs.take (i + 1)) = stepE a t (filE a t (fs.take i)) (fs.getD i default) := by
 rw [take_succ default h]; simp only [filE, List.foldl_append, List.foldl_cons, List.foldl_nil]
theorem less_size {us ws : List Ex} (hu : ∀ e ∈ us, sizeE e ≤ 1) (hw : ∀ e ∈ ws, sizeE e ≤ 1) : ∀ i, i ≤ us.length → i ≤ ws.length → sizeE (lessE us ws i) ≤ 1 + 10 * i := by
 intro i
 induction i with
 | zero => intro _ _; simp [lessE, constE, sizeE, sizeL]
 | succ i ih =>
  intro h1 h2
  have := ih (by omega) (by omega)
  have := hu _ (getD_mem default (by omega : i < us.length))
  have := hw _ (getD_mem default (by omega : i < ws.length))
  simp only [lessE, nodeE, sizeE, sizeL]; omega
theorem bits4_size (n : Int) : ∀ e ∈ bits4 n, sizeE e ≤ 1 := by
 intro e he; simp only [bits4, List.mem_map] at he; obtain ⟨i, _, rfl⟩ := he; simp [constE, sizeE, sizeL]
theorem port4_size : ∀ e ∈ port4, sizeE e ≤ 1 := by
 intro e he; simp only [port4, List.mem_map] at he; obtain ⟨i, _, rfl⟩ := he; simp [varE, sizeE, sizeL]
theorem filE_size (a t : Int) (fs : List Fil) : sizeE (filE a t fs) ≤ 1 + 90 * fs.length := by
 have : ∀ (fs : List Fil) (e : Ex), sizeE (fs.foldl (stepE a t) e) ≤ sizeE e + 90 * fs.length := by
  intro fs
  induction fs with
  | nil => intro e; simp
  | cons x r ih =>
   intro e
   have h := ih (stepE a t e x)
   have hs : sizeE (stepE a t e x) ≤ sizeE e + 90 := by
    unfold stepE
    cases (decide (x.at_ = a) && decide (x.to = t)) with
    | false => simp
    | true =>
     have h1 := less_size port4_size (bits4_size x.low) 4 (by decide) (by simp [bits4])
     have h2 := less_size (bits4_size x.high) port4_size 4 (by simp [bits4]) (by decide)
     simp only [cond_true, nodeE, sizeE, sizeL]; omega
   simp only [List.foldl_cons, List.length_cons]; omega
 have h := this fs (constE 0)
 have h1 : sizeE (constE 0) = 1 := by simp [constE, sizeE, sizeL]
 unfold filE; omega
def fEx (n : Net) (a t : Int) : V :=
 if !netB n then .tup [exV zeroE, .int .i64 1] else if !(routerB n.routers.length a && routerB n.routers.length t) then .tup [exV zeroE, .int .i64 5] else exA (filE a t n.filters)
set_option maxHeartbeats 2000000 in
theorem FilterEx_ok {n : Net} {a t : Int} (hn : NetLen n) : Ret Try.prog Γ 43 [netV n, .int .i64 a, .int .i64 t] σ (fEx n a t) σ := by
 have hlen : (netC n).take 6 = netC n := rfl
 have hlen2 : (netC n).length = 6 := rfl
 have e5 : (netC n)[5]? = some (.isl false 4 (filsV n.filters)) := rfl
 have l1 := hn.routers
 have l4 := hn.filters
 have hdef : fEx n a t = (if !netB n then .tup [exV zeroE, .int .i64 1] else if !(routerB n.routers.length a && routerB n.routers.length t) then .tup [exV zeroE, .int .i64 5] else exA (filE a t n.filters)) := rfl
 have hbn : netB n = true → n.filters.length ≤ 6 := fun h => by
  unfold netB at h
  simp only [Bool.and_eq_true, decide_eq_true_eq] at h
  exact h.1.1.1.1.1.1.1.2
 refine ret_of c43_ok rfl ?_
 simp (disch := omega) only [c43, netV, go_sem]
 refine SRun.boxR (net_one n) ?_
 intro b3 hb3
 simp (disch := omega) only [go_sem]
 refine SRun.allocR ?_
 intro b6 hb6
 have n63 := (upd_none.1 hb6).1
 have g3 : upd (upd σ b3 (netC n)) b6 [.int .i64 0, .int .i64 0, .isl true 0 []] b3 = some (netC n) := by rw [upd_ne _ _ n63.symm, upd_same]
 have g6 := upd_same (upd σ b3 (netC n)) b6 [.int .i64 0, .int .i64 0, .isl true 0 []]
 have hσ : ∀ d x, σ d = some x → d ≠ b6 ∧ upd (upd σ b3 (netC n)) b6 [.int .i64 0, .int .i64 0, .isl true 0 []] d = some x := fun d x h => ⟨fun e => by (subst e; rw [(upd_none.1 hb6).2] at h; cases h), le_upd hb6 _ _ (le_upd hb3 _ _ h)⟩
 simp (disch := omega) only [go_sem]
 generalize upd (upd σ b3 (netC n)) b6 [.int .i64 0, .int .i64 0, .isl true 0 []] = s1 at *
 simp (disch := omega) only [g3, hlen, hlen2, go_sem]
 refine SRun.callR (isNet_ok hn) ⟨[], rfl, rfl⟩ rfl ?_
 have zero : ∀ (s : St) (c : Int), (∀ d x, σ d = some x → d ≠ b6 ∧ s d = some x) → Conv (upd s b6 [.int .i64 0, .int .i64 0, .isl true 0 []]) (.tup [.agg [.int .i64 0, .int .i64 0, .isl true 0 []], .int .i64 c]) σ (.tup [exV zeroE, .int .i64 c]) := fun s c h =>
  ⟨fun d x hd => by rw [upd_ne _ _ (h d x hd).1]; exact (h d x hd).2, frz_tup (by exact ⟨zeroE_frz, .refl _, trivial⟩)⟩
 generalize netB n = q1 at *
 cases q1 with
 | false =>
  rw [hdef]
  simp (disch := omega) only [g6, go_sem]
  exact W_retC c43_ok (r := .tup [.agg [.int .i64 0, .int .i64 0, .isl true 0 []], .int .i64 1]) (r' := .tup [exV zeroE, .int .i64 1]) (σ' := σ) (resV_2E rfl (upd_same _ _ _) rfl) (zero s1 1 hσ) ⟨rfl, rfl⟩
 | true =>
 have hf6 := hbn rfl
 simp (disch := omega) only [g3, hlen, hlen2, go_sem]
 refine SRun.callR (isRouter_ok (n := n) (x := a) l1) ⟨[], rfl, rfl⟩ rfl ?_
 generalize routerB n.routers.length a = r1 at *
 cases r1 with
 | false =>
  rw [hdef]
  simp (disch := omega) only [g6, go_sem]
  exact W_retC c43_ok (r := .tup [.agg [.int .i64 0, .int .i64 0, .isl true 0 []], .int .i64 5]) (r' := .tup [exV zeroE, .int .i64 5]) (σ' := σ) (resV_2E rfl (upd_same _ _ _) rfl) (zero s1 5 hσ) ⟨rfl, rfl⟩
 | true =>
 simp (disch := omega) only [g3, hlen, hlen2, go_sem]
 refine SRun.callR (isRouter_ok (n := n) (x := t) l1) ⟨[], rfl, rfl⟩ rfl ?_
 generalize routerB n.routers.length t = r2 at *
 cases r2 with
 | false =>
  rw [hdef]
  simp (disch := omega) only [g6, go_sem]
  exact W_retC c43_ok (r := .tup [.agg [.int .i64 0, .int .i64 0, .isl true 0 []], .int .i64 5]) (r' := .tup [exV zeroE, .int .i64 5]) (σ' := σ) (resV_2E rfl (upd_same _ _ _) rfl) (zero s1 5 hσ) ⟨rfl, rfl⟩
 | true =>
 have hdef2 : fEx n a t = exA (filE a t n.filters) := hdef
 rw [hdef2]
 clear hdef hdef2
 simp (disch := omega) only [go_sem]
 refine W_loopC (α := Nat × V × St) (fun p => p.1 ≤ 4 ∧ RowF s1 3 (exsV ((List.range p.1).map fun i => varE (i : Nat))) p.2.1 p.2.2) (fun p => [(1, .int .i64 a), (2, .int .i64 t), (3, .ptr b3 0), (6, .ptr b6 0), (8, p.2.1), (32, .int .i64 (p.1 : Nat))]) (fun p => p.2.2) (fun p => 4 - p.1) (0, .isl true 0 [], s1) ⟨by simp, RowF.nil⟩ (by simp (disch := omega) only [subT, Int.natCast_add, Int.cast_ofNat_Int, go_sem] <;> (repeat' apply And.intro) <;> first | rfl | (congr 1; omega) | assumption) rfl ?_
 rintro ⟨i, tt, s⟩ ⟨hi, ho⟩ ih
 dsimp only at hi ho
 simp (disch := omega) only [go_sem]
 first | refine iteW_dec (fun hq => ?_) (fun hq => ?_) | refine iteW_of (fun hq => ?_) (fun hq => ?_)
 ·obtain ⟨ys, hy1, hy2, hy3⟩ := ho
  rw [exsV_len, List.length_map, List.length_range] at hy2
  simp (disch := omega) only [go_sem]
  refine SRun.appL hy1 rfl (rawVar_ok _) (by simp only [List.length_singleton]; omega) ?_
  intro t2 s2 ho2
  have hrow : RowF s1 3 (exsV ((List.range (i + 1)).map fun i => varE (i : Nat))) t2 s2 := by
   refine ⟨_, ho2, by simp [exsV_len, hy2], fun σ σ' => ?_⟩
   rw [flat_app1, show (List.range (i + 1)).map (fun i => varE (i : Nat)) = (List.range i).map (fun i => varE (i : Nat)) ++ [varE (i : Nat)] by simp [List.range_succ], ← exs_app, flat_app1]
   exact frzL_app (hy3 _ _) (rawVar_frz _)
  simp (disch := omega) only [go_sem]
  exact ih (i + 1, t2, s2) _ _ ⟨by simp only; omega, hrow⟩ (by simp only; omega) (by simp (disch := omega) only [subT, Int.natCast_add, Int.cast_ofNat_Int, go_sem] <;> (repeat' apply And.intro) <;> first | rfl | (congr 1; omega) | assumption) rfl
 ·have hi4 : i = 4 := by omega
  subst hi4
  have hfr : Frz s s1 tt (.isl false 3 (exsV port4)) := ho.frz (exsV_ok _) (fun _ _ => rfl) (fun _ h => h)
  obtain ⟨ys, hy1, hy2, hy3⟩ := ho
  clear ih hq
  simp (disch := omega) only [go_sem]
  refine SRun.freeze (T' := [(1, .int .i64 a), (2, .int .i64 t), (3, .ptr b3 0), (6, .ptr b6 0), (8, .isl false 3 (exsV port4))]) (σ' := s1) hy1.le ⟨.refl _, .refl _, .refl _, .refl _, hfr, trivial⟩ ?_
  clear hy1 hy2 hy3 hfr
  refine SRun.callR (constEx_ok (n := 0)) ⟨[], rfl, rfl⟩ rfl ?_
  simp (disch := omega) only [List.getD_cons_zero, List.getD_cons_succ, go_sem]
  refine SRun.allocR ?_
  intro b10 hb10
  have n103 : b10 ≠ b3 := fun e => by subst e; rw [g3] at hb10; cases hb10
  have n106 : b10 ≠ b6 := fun e => by subst e; rw [g6] at hb10; cases hb10
  have h3 := le_upd (cs := exC (constE 0)) hb10 _ _ g3
  have h6 := le_upd (cs := exC (constE 0)) hb10 _ _ g6
  have h10 := upd_same s1 b10 (exC (constE 0))
  have hσ2 : ∀ d x, σ d = some x → d ≠ b6 ∧ d ≠ b10 ∧ upd s1 b10 (exC (constE 0)) d = some x := fun d x h => ⟨(hσ d x h).1, fun e => by (subst e; rw [(hσ _ _ h).2] at hb10; cases hb10), le_upd hb10 _ _ (hσ d x h).2⟩
  simp (disch := omega) only [go_sem]
  generalize upd s1 b10 (exC (constE 0)) = s2 at *
  simp (disch := omega) only [g3, e5, go_sem]
  have hf0 : filE a t (n.filters.take 0) = constE 0 := rfl
  rw [← hf0] at h10
  refine W_loopC (α := Nat × St) (fun p => p.1 ≤ n.filters.length ∧ p.2 b3 = some (netC n) ∧ p.2 b6 = some [.int .i64 0, .int .i64 0, .isl true 0 []] ∧ p.2 b10 = some (exC (filE a t (n.filters.take p.1))) ∧ ∀ d x, σ d = some x → p.2 d = some x) (fun p => [(1, .int .i64 a), (2, .int .i64 t), (3, .ptr b3 0), (6, .ptr b6 0), (8, .isl false 3 (exsV port4)), (10, .ptr b10 0), (43, .isl false 4 (filsV n.filters)), (44, .int .i64 n.filters.length), (45, .int .i64 (p.1 : Nat))]) (fun p => p.2) (fun p => n.filters.length - p.1) (0, s2) ⟨by omega, h3, h6, h10, fun d x h => (hσ2 d x h).2.2⟩ (by simp (disch := omega) only [subT, Int.natCast_add, Int.cast_ofNat_Int, go_sem] <;> (repeat' apply And.intro) <;> first | rfl | (congr 1; omega) | assumption) rfl ?_
  clear h3 h6 h10 hf0
  rintro ⟨k, s3⟩ ⟨hk, h3, h6, h10, hle⟩ ih
  dsimp only at hk h3 h6 h10 hle
  simp (disch := omega) only [go_sem]
  first | refine iteW_dec (fun hq => ?_) (fun hq => ?_) | refine iteW_of (fun hq => ?_) (fun hq => ?_)
  ·have hsucc := filE_succ (a := a) (t := t) (fs := n.filters) (i := k) (by omega)
   simp (disch := omega) only [go_sem]
   generalize n.filters.getD k default = x at *
   have hstep : stepE a t (filE a t (n.filters.take k)) x = bif decide (x.at_ = a) && decide (x.to = t) then nodeE 5 [filE a t (n.filters.take k), nodeE 4 [nodeE 3 [lessE port4 (bits4 x.low) 4], nodeE 3 [lessE (bits4 x.high) port4 4]]] else filE a t (n.filters.take k) := rfl
   rw [hstep] at hsucc
   generalize filE a t (n.filters.take k) = e at *
   refine SRun.allocR ?_
   intro b12 hb12
   have hfc : filC x = [.int .i64 x.at_, .int .i64 x.to, .int .i64 x.low, .int .i64 x.high] := rfl
   have k3 := le_upd (cs := filC x) hb12 _ _ h3
   have k6 := le_upd (cs := filC x) hb12 _ _ h6
   have k10 := le_upd (cs := filC x) hb12 _ _ h10
   have kσ : ∀ d y, σ d = some y → upd s3 b12 (filC x) d = some y := fun d y h => le_upd hb12 _ _ (hle d y h)
   have k12 := upd_same s3 b12 (filC x)
   rw [hfc] at k3 k6 k10 kσ k12
   generalize hp1 : decide (x.at_ = a) = p1 at *
   generalize hp2 : decide (x.to = t) = p2 at *
   cases p1 with
   | false =>
    cases p2
    all_goals
     simp (disch := omega) only [hfc, hp1, hp2, go_sem]
     exact ih (k + 1, upd s3 b12 [.int .i64 x.at_, .int .i64 x.to, .int .i64 x.low, .int .i64 x.high]) _ _ ⟨by simp only; omega, k3, k6, by dsimp only; rw [hsucc]; exact k10, kσ⟩ (by simp only; omega) (by simp (disch := omega) only [subT, Int.natCast_add, Int.cast_ofNat_Int, go_sem] <;> (repeat' apply And.intro) <;> first | rfl | (congr 1; omega) | assumption) rfl
   | true =>
   cases p2 with
   | false =>
    simp (disch := omega) only [hfc, hp1, hp2, go_sem]
    exact ih (k + 1, upd s3 b12 [.int .i64 x.at_, .int .i64 x.to, .int .i64 x.low, .int .i64 x.high]) _ _ ⟨by simp only; omega, k3, k6, by dsimp only; rw [hsucc]; exact k10, kσ⟩ (by simp only; omega) (by simp (disch := omega) only [subT, Int.natCast_add, Int.cast_ofNat_Int, go_sem] <;> (repeat' apply And.intro) <;> first | rfl | (congr 1; omega) | assumption) rfl
   | true =>
    simp (disch := omega) only [hfc, hp1, hp2, go_sem]
    generalize upd s3 b12 [.int .i64 x.at_, .int .i64 x.to, .int .i64 x.low, .int .i64 x.high] = s4 at *
    rw [W_draw]
    refine DRun.start (DRun.mixNR (fun T s' => ∃ b13 b14, s4 b13 = none ∧ s4 b14 = none ∧ b13 ≠ b14 ∧ s' = upd (upd emp b13 [.int .i64 0, .int .i64 0, .isl true 0 []]) b14 [.int .i64 0, .int .i64 0, .isl true 0 []] ∧ look T 1 = .int .i64 a ∧ look T 2 = .int .i64 t ∧ look T 3 = .ptr b3 0 ∧ look T 6 = .ptr b6 0 ∧ look T 8 = .isl false 3 (exsV port4) ∧ look T 10 = .ptr b10 0 ∧ look T 43 = .isl false 4 (filsV n.filters) ∧ look T 44 = .int .i64 n.filters.length ∧ look T 45 = .int .i64 (k : Nat) ∧ look T 13 = .ptr b13 0 ∧ look T 14 = .ptr b14 0 ∧ look T 63 = exV (lessE port4 (bits4 x.low) 4) ∧ look T 68 = exV (lessE (bits4 x.high) port4 4)) rfl ?_ ?_)
    ·simp (disch := omega) only [k12, go_sem]
     refine DS.wr2 (WrF.call (constBits_ok (n := x.low) (m := 4) (by omega)) ⟨[], rfl, rfl⟩) rfl ?_ ?_
     ·rintro r s ⟨rfl, hs⟩ hd
      obtain rfl := hs.symm
      simp (disch := omega) only [go_sem]
      refine DS.wr2 (WrF.call (lessEx_ok (ea := false) (eb := false) (us := port4) (ws := bits4 x.low) (by decide) rfl) ⟨[], rfl, rfl⟩) rfl ?_ ?_
      ·rintro r s ⟨rfl, hs⟩ hd
       obtain rfl := hs.symm
       simp (disch := omega) only [go_sem]
       refine DS.wr2 (WrF.call (constBits_ok (n := x.high) (m := 4) (by omega)) ⟨[], rfl, rfl⟩) rfl ?_ ?_
       ·rintro r s ⟨rfl, hs⟩ hd
        obtain rfl := hs.symm
        simp (disch := omega) only [go_sem]
        refine DS.wr2 (WrF.call (lessEx_ok (ea := false) (eb := false) (us := bits4 x.high) (ws := port4) (by simp [bits4]) rfl) ⟨[], rfl, rfl⟩) rfl ?_ ?_
        ·rintro r s ⟨rfl, hs⟩ hd
         obtain rfl := hs.symm
         simp (disch := omega) only [go_sem]
         refine DS.wr2 WrF.alloc rfl ?_ ?_
         ·rintro _ s9 ⟨b13, hbA, rfl, rfl⟩ hdA
          simp (disch := omega) only [go_sem]
          refine DS.wrQ WrF.alloc rfl ?_
          rintro _ s9 ⟨b14, hbB, rfl, rfl⟩ hdB
          have huB := (upd_none.1 hbB).1
          exact ⟨b13, b14, disj_new hdA, (hdB b14).resolve_left (by rw [upd_same]; simp), huB.symm, rfl, rfl, rfl, rfl, rfl, rfl, rfl, rfl, rfl, rfl, rfl, rfl, rfl, rfl⟩
         ·skip
          refine DS.wrQ WrF.alloc rfl ?_
          rintro _ s9 ⟨b14, hbA, rfl, rfl⟩ hdA
          simp (disch := omega) only [go_sem]
          refine DS.wrQ WrF.alloc rfl ?_
          rintro _ s9 ⟨b13, hbB, rfl, rfl⟩ hdB
          have huB := (upd_none.1 hbB).1
          exact ⟨b13, b14, (hdB b13).resolve_left (by rw [upd_same]; simp), disj_new hdA, huB, upd_comm _ huB.symm _ _, rfl, rfl, rfl, rfl, rfl, rfl, rfl, rfl, rfl, rfl, rfl, rfl, rfl⟩
        ·skip
         refine DS.wr2 WrF.alloc rfl ?_ ?_
         ·rintro _ s9 ⟨b13, hbA, rfl, rfl⟩ hdA
          simp (disch := omega) only [go_sem]
          refine DS.wr2 (WrF.call (lessEx_ok (ea := false) (eb := false) (us := bits4 x.high) (ws := port4) (by simp [bits4]) rfl) ⟨[], rfl, rfl⟩) rfl ?_ ?_
          ·rintro r s ⟨rfl, hs⟩ hd
           obtain rfl := hs.symm
           simp (disch := omega) only [go_sem]
           refine DS.wrQ WrF.alloc rfl ?_
           rintro _ s9 ⟨b14, hbB, rfl, rfl⟩ hdB
           have huB := (upd_none.1 hbB).1
           exact ⟨b13, b14, disj_new hdA, (hdB b14).resolve_left (by rw [upd_same]; simp), huB.symm, rfl, rfl, rfl, rfl, rfl, rfl, rfl, rfl, rfl, rfl, rfl, rfl, rfl, rfl⟩
          ·skip
           refine DS.wrQ WrF.alloc rfl ?_
           rintro _ s9 ⟨b14, hbB, rfl, rfl⟩ hdB
           have huB := (upd_none.1 hbB).1
           simp (disch := omega) only [go_sem]
           refine DS.wrQ (WrF.call (lessEx_ok (ea := false) (eb := false) (us := bits4 x.high) (ws := port4) (by simp [bits4]) rfl) ⟨[], rfl, rfl⟩) rfl ?_
           rintro r s ⟨rfl, hs⟩ hd
           obtain rfl := hs.symm
           exact ⟨b13, b14, disj_new hdA, (hdB b14).resolve_left (by rw [upd_same]; simp), huB.symm, rfl, rfl, rfl, rfl, rfl, rfl, rfl, rfl, rfl, rfl, rfl, rfl, rfl, rfl⟩
         ·skip
          refine DS.wrQ WrF.alloc rfl ?_
          rintro _ s9 ⟨b14, hbA, rfl, rfl⟩ hdA
          simp (disch := omega) only [go_sem]
          refine DS.wr2 (WrF.call (lessEx_ok (ea := false) (eb := false) (us := bits4 x.high) (ws := port4) (by simp [bits4]) rfl) ⟨[], rfl, rfl⟩) rfl ?_ ?_
          ·rintro r s ⟨rfl, hs⟩ hd
           obtain rfl := hs.symm
           simp (disch := omega) only [go_sem]
           refine DS.wrQ WrF.alloc rfl ?_
           rintro _ s9 ⟨b13, hbB, rfl, rfl⟩ hdB
           have huB := (upd_none.1 hbB).1
           exact ⟨b13, b14, (hdB b13).resolve_left (by rw [upd_same]; simp), disj_new hdA, huB, upd_comm _ huB.symm _ _, rfl, rfl, rfl, rfl, rfl, rfl, rfl, rfl, rfl, rfl, rfl, rfl, rfl⟩
          ·skip
           refine DS.wrQ WrF.alloc rfl ?_
           rintro _ s9 ⟨b13, hbB, rfl, rfl⟩ hdB
           have huB := (upd_none.1 hbB).1
           simp (disch := omega) only [go_sem]
           refine DS.wrQ (WrF.call (lessEx_ok (ea := false) (eb := false) (us := bits4 x.high) (ws := port4) (by simp [bits4]) rfl) ⟨[], rfl, rfl⟩) rfl ?_
           rintro r s ⟨rfl, hs⟩ hd
           obtain rfl := hs.symm
           exact ⟨b13, b14, (hdB b13).resolve_left (by rw [upd_same]; simp), disj_new hdA, huB, upd_comm _ huB.symm _ _, rfl, rfl, rfl, rfl, rfl, rfl, rfl, rfl, rfl, rfl, rfl, rfl, rfl⟩
       ·skip
        refine DS.wr2 WrF.alloc rfl ?_ ?_
        ·rintro _ s9 ⟨b13, hbA, rfl, rfl⟩ hdA
         simp (disch := omega) only [go_sem]
         refine DS.wr2 (WrF.call (constBits_ok (n := x.high) (m := 4) (by omega)) ⟨[], rfl, rfl⟩) rfl ?_ ?_
         ·rintro r s ⟨rfl, hs⟩ hd
          obtain rfl := hs.symm
          simp (disch := omega) only [go_sem]
          refine DS.wr2 (WrF.call (lessEx_ok (ea := false) (eb := false) (us := bits4 x.high) (ws := port4) (by simp [bits4]) rfl) ⟨[], rfl, rfl⟩) rfl ?_ ?_
          ·rintro r s ⟨rfl, hs⟩ hd
           obtain rfl := hs.symm
           simp (disch := omega) only [go_sem]
           refine DS.wrQ WrF.alloc rfl ?_
           rintro _ s9 ⟨b14, hbB, rfl, rfl⟩ hdB
           have huB := (upd_none.1 hbB).1
           exact ⟨b13, b14, disj_new hdA, (hdB b14).resolve_left (by rw [upd_same]; simp), huB.symm, rfl, rfl, rfl, rfl, rfl, rfl, rfl, rfl, rfl, rfl, rfl, rfl, rfl, rfl⟩
          ·skip
           refine DS.wrQ WrF.alloc rfl ?_
           rintro _ s9 ⟨b14, hbB, rfl, rfl⟩ hdB
           have huB := (upd_none.1 hbB).1
           simp (disch := omega) only [go_sem]
           refine DS.wrQ (WrF.call (lessEx_ok (ea := false) (eb := false) (us := bits4 x.high) (ws := port4) (by simp [bits4]) rfl) ⟨[], rfl, rfl⟩) rfl ?_
           rintro r s ⟨rfl, hs⟩ hd
           obtain rfl := hs.symm
           exact ⟨b13, b14, disj_new hdA, (hdB b14).resolve_left (by rw [upd_same]; simp), huB.symm, rfl, rfl, rfl, rfl, rfl, rfl, rfl, rfl, rfl, rfl, rfl, rfl, rfl, rfl⟩
         ·skip
          refine DS.wrQ WrF.alloc rfl ?_
          rintro _ s9 ⟨b14, hbB, rfl, rfl⟩ hdB
          have huB := (upd_none.1 hbB).1
          simp (disch := omega) only [go_sem]
          refine DS.wrQ (WrF.call (constBits_ok (n := x.high) (m := 4) (by omega)) ⟨[], rfl, rfl⟩) rfl ?_
          rintro r s ⟨rfl, hs⟩ hd
          obtain rfl := hs.symm
          simp (disch := omega) only [go_sem]
          refine DS.wrQ (WrF.call (lessEx_ok (ea := false) (eb := false) (us := bits4 x.high) (ws := port4) (by simp [bits4]) rfl) ⟨[], rfl, rfl⟩) rfl ?_
          rintro r s ⟨rfl, hs⟩ hd
          obtain rfl := hs.symm
          exact ⟨b13, b14, disj_new hdA, (hdB b14).resolve_left (by rw [upd_same]; simp), huB.symm, rfl, rfl, rfl, rfl, rfl, rfl, rfl, rfl, rfl, rfl, rfl, rfl, rfl, rfl⟩
        ·skip
         refine DS.wrQ WrF.alloc rfl ?_
         rintro _ s9 ⟨b14, hbA, rfl, rfl⟩ hdA
         simp (disch := omega) only [go_sem]
         refine DS.wr2 (WrF.call (constBits_ok (n := x.high) (m := 4) (by omega)) ⟨[], rfl, rfl⟩) rfl ?_ ?_
         ·rintro r s ⟨rfl, hs⟩ hd
          obtain rfl := hs.symm
          simp (disch := omega) only [go_sem]
          refine DS.wr2 (WrF.call (lessEx_ok (ea := false) (eb := false) (us := bits4 x.high) (ws := port4) (by simp [bits4]) rfl) ⟨[], rfl, rfl⟩) rfl ?_ ?_
          ·rintro r s ⟨rfl, hs⟩ hd
           obtain rfl := hs.symm
           simp (disch := omega) only [go_sem]
           refine DS.wrQ WrF.alloc rfl ?_
           rintro _ s9 ⟨b13, hbB, rfl, rfl⟩ hdB
           have huB := (upd_none.1 hbB).1
           exact ⟨b13, b14, (hdB b13).resolve_left (by rw [upd_same]; simp), disj_new hdA, huB, upd_comm _ huB.symm _ _, rfl, rfl, rfl, rfl, rfl, rfl, rfl, rfl, rfl, rfl, rfl, rfl, rfl⟩
          ·skip
           refine DS.wrQ WrF.alloc rfl ?_
           rintro _ s9 ⟨b13, hbB, rfl, rfl⟩ hdB
           have huB := (upd_none.1 hbB).1
           simp (disch := omega) only [go_sem]
           refine DS.wrQ (WrF.call (lessEx_ok (ea := false) (eb := false) (us := bits4 x.high) (ws := port4) (by simp [bits4]) rfl) ⟨[], rfl, rfl⟩) rfl ?_
           rintro r s ⟨rfl, hs⟩ hd
           obtain rfl := hs.symm
           exact ⟨b13, b14, (hdB b13).resolve_left (by rw [upd_same]; simp), disj_new hdA, huB, upd_comm _ huB.symm _ _, rfl, rfl, rfl, rfl, rfl, rfl, rfl, rfl, rfl, rfl, rfl, rfl, rfl⟩
         ·skip
          refine DS.wrQ WrF.alloc rfl ?_
          rintro _ s9 ⟨b13, hbB, rfl, rfl⟩ hdB
          have huB := (upd_none.1 hbB).1
          simp (disch := omega) only [go_sem]
          refine DS.wrQ (WrF.call (constBits_ok (n := x.high) (m := 4) (by omega)) ⟨[], rfl, rfl⟩) rfl ?_
          rintro r s ⟨rfl, hs⟩ hd
          obtain rfl := hs.symm
          simp (disch := omega) only [go_sem]
          refine DS.wrQ (WrF.call (lessEx_ok (ea := false) (eb := false) (us := bits4 x.high) (ws := port4) (by simp [bits4]) rfl) ⟨[], rfl, rfl⟩) rfl ?_
          rintro r s ⟨rfl, hs⟩ hd
          obtain rfl := hs.symm
          exact ⟨b13, b14, (hdB b13).resolve_left (by rw [upd_same]; simp), disj_new hdA, huB, upd_comm _ huB.symm _ _, rfl, rfl, rfl, rfl, rfl, rfl, rfl, rfl, rfl, rfl, rfl, rfl, rfl⟩
      ·skip
       refine DS.wr2 WrF.alloc rfl ?_ ?_
       ·rintro _ s9 ⟨b13, hbA, rfl, rfl⟩ hdA
        simp (disch := omega) only [go_sem]
        refine DS.wr2 (WrF.call (lessEx_ok (ea := false) (eb := false) (us := port4) (ws := bits4 x.low) (by decide) rfl) ⟨[], rfl, rfl⟩) rfl ?_ ?_
        ·rintro r s ⟨rfl, hs⟩ hd
         obtain rfl := hs.symm
         simp (disch := omega) only [go_sem]
         refine DS.wr2 (WrF.call (constBits_ok (n := x.high) (m := 4) (by omega)) ⟨[], rfl, rfl⟩) rfl ?_ ?_
         ·rintro r s ⟨rfl, hs⟩ hd
          obtain rfl := hs.symm
          simp (disch := omega) only [go_sem]
          refine DS.wr2 (WrF.call (lessEx_ok (ea := false) (eb := false) (us := bits4 x.high) (ws := port4) (by simp [bits4]) rfl) ⟨[], rfl, rfl⟩) rfl ?_ ?_
          ·rintro r s ⟨rfl, hs⟩ hd
           obtain rfl := hs.symm
           simp (disch := omega) only [go_sem]
           refine DS.wrQ WrF.alloc rfl ?_
           rintro _ s9 ⟨b14, hbB, rfl, rfl⟩ hdB
           have huB := (upd_none.1 hbB).1
           exact ⟨b13, b14, disj_new hdA, (hdB b14).resolve_left (by rw [upd_same]; simp), huB.symm, rfl, rfl, rfl, rfl, rfl, rfl, rfl, rfl, rfl, rfl, rfl, rfl, rfl, rfl⟩
          ·skip
           refine DS.wrQ WrF.alloc rfl ?_
           rintro _ s9 ⟨b14, hbB, rfl, rfl⟩ hdB
           have huB := (upd_none.1 hbB).1
           simp (disch := omega) only [go_sem]
           refine DS.wrQ (WrF.call (lessEx_ok (ea := false) (eb := false) (us := bits4 x.high) (ws := port4) (by simp [bits4]) rfl) ⟨[], rfl, rfl⟩) rfl ?_
           rintro r s ⟨rfl, hs⟩ hd
           obtain rfl := hs.symm
           exact ⟨b13, b14, disj_new hdA, (hdB b14).resolve_left (by rw [upd_same]; simp), huB.symm, rfl, rfl, rfl, rfl, rfl, rfl, rfl, rfl, rfl, rfl, rfl, rfl, rfl, rfl⟩
         ·skip
          refine DS.wrQ WrF.alloc rfl ?_
          rintro _ s9 ⟨b14, hbB, rfl, rfl⟩ hdB
          have huB := (upd_none.1 hbB).1
          simp (disch := omega) only [go_sem]
          refine DS.wrQ (WrF.call (constBits_ok (n := x.high) (m := 4) (by omega)) ⟨[], rfl, rfl⟩) rfl ?_
          rintro r s ⟨rfl, hs⟩ hd
          obtain rfl := hs.symm
          simp (disch := omega) only [go_sem]
          refine DS.wrQ (WrF.call (lessEx_ok (ea := false) (eb := false) (us := bits4 x.high) (ws := port4) (by simp [bits4]) rfl) ⟨[], rfl, rfl⟩) rfl ?_
          rintro r s ⟨rfl, hs⟩ hd
          obtain rfl := hs.symm
          exact ⟨b13, b14, disj_new hdA, (hdB b14).resolve_left (by rw [upd_same]; simp), huB.symm, rfl, rfl, rfl, rfl, rfl, rfl, rfl, rfl, rfl, rfl, rfl, rfl, rfl, rfl⟩
        ·skip
         refine DS.wrQ WrF.alloc rfl ?_
         rintro _ s9 ⟨b14, hbB, rfl, rfl⟩ hdB
         have huB := (upd_none.1 hbB).1
         simp (disch := omega) only [go_sem]
         refine DS.wrQ (WrF.call (lessEx_ok (ea := false) (eb := false) (us := port4) (ws := bits4 x.low) (by decide) rfl) ⟨[], rfl, rfl⟩) rfl ?_
         rintro r s ⟨rfl, hs⟩ hd
         obtain rfl := hs.symm
         simp (disch := omega) only [go_sem]
         refine DS.wrQ (WrF.call (constBits_ok (n := x.high) (m := 4) (by omega)) ⟨[], rfl, rfl⟩) rfl ?_
         rintro r s ⟨rfl, hs⟩ hd
         obtain rfl := hs.symm
         simp (disch := omega) only [go_sem]
         refine DS.wrQ (WrF.call (lessEx_ok (ea := false) (eb := false) (us := bits4 x.high) (ws := port4) (by simp [bits4]) rfl) ⟨[], rfl, rfl⟩) rfl ?_
         rintro r s ⟨rfl, hs⟩ hd
         obtain rfl := hs.symm
         exact ⟨b13, b14, disj_new hdA, (hdB b14).resolve_left (by rw [upd_same]; simp), huB.symm, rfl, rfl, rfl, rfl, rfl, rfl, rfl, rfl, rfl, rfl, rfl, rfl, rfl, rfl⟩
       ·skip
        refine DS.wrQ WrF.alloc rfl ?_
        rintro _ s9 ⟨b14, hbA, rfl, rfl⟩ hdA
        simp (disch := omega) only [go_sem]
        refine DS.wr2 (WrF.call (lessEx_ok (ea := false) (eb := false) (us := port4) (ws := bits4 x.low) (by decide) rfl) ⟨[], rfl, rfl⟩) rfl ?_ ?_
        ·rintro r s ⟨rfl, hs⟩ hd
         obtain rfl := hs.symm
         simp (disch := omega) only [go_sem]
         refine DS.wr2 (WrF.call (constBits_ok (n := x.high) (m := 4) (by omega)) ⟨[], rfl, rfl⟩) rfl ?_ ?_
         ·rintro r s ⟨rfl, hs⟩ hd
          obtain rfl := hs.symm
          simp (disch := omega) only [go_sem]
          refine DS.wr2 (WrF.call (lessEx_ok (ea := false) (eb := false) (us := bits4 x.high) (ws := port4) (by simp [bits4]) rfl) ⟨[], rfl, rfl⟩) rfl ?_ ?_
          ·rintro r s ⟨rfl, hs⟩ hd
           obtain rfl := hs.symm
           simp (disch := omega) only [go_sem]
           refine DS.wrQ WrF.alloc rfl ?_
           rintro _ s9 ⟨b13, hbB, rfl, rfl⟩ hdB
           have huB := (upd_none.1 hbB).1
           exact ⟨b13, b14, (hdB b13).resolve_left (by rw [upd_same]; simp), disj_new hdA, huB, upd_comm _ huB.symm _ _, rfl, rfl, rfl, rfl, rfl, rfl, rfl, rfl, rfl, rfl, rfl, rfl, rfl⟩
          ·skip
           refine DS.wrQ WrF.alloc rfl ?_
           rintro _ s9 ⟨b13, hbB, rfl, rfl⟩ hdB
           have huB := (upd_none.1 hbB).1
           simp (disch := omega) only [go_sem]
           refine DS.wrQ (WrF.call (lessEx_ok (ea := false) (eb := false) (us := bits4 x.high) (ws := port4) (by simp [bits4]) rfl) ⟨[], rfl, rfl⟩) rfl ?_
           rintro r s ⟨rfl, hs⟩ hd
           obtain rfl := hs.symm
           exact ⟨b13, b14, (hdB b13).resolve_left (by rw [upd_same]; simp), disj_new hdA, huB, upd_comm _ huB.symm _ _, rfl, rfl, rfl, rfl, rfl, rfl, rfl, rfl, rfl, rfl, rfl, rfl, rfl⟩
         ·skip
          refine DS.wrQ WrF.alloc rfl ?_
          rintro _ s9 ⟨b13, hbB, rfl, rfl⟩ hdB
          have huB := (upd_none.1 hbB).1
          simp (disch := omega) only [go_sem]
          refine DS.wrQ (WrF.call (constBits_ok (n := x.high) (m := 4) (by omega)) ⟨[], rfl, rfl⟩) rfl ?_
          rintro r s ⟨rfl, hs⟩ hd
          obtain rfl := hs.symm
          simp (disch := omega) only [go_sem]
          refine DS.wrQ (WrF.call (lessEx_ok (ea := false) (eb := false) (us := bits4 x.high) (ws := port4) (by simp [bits4]) rfl) ⟨[], rfl, rfl⟩) rfl ?_
          rintro r s ⟨rfl, hs⟩ hd
          obtain rfl := hs.symm
          exact ⟨b13, b14, (hdB b13).resolve_left (by rw [upd_same]; simp), disj_new hdA, huB, upd_comm _ huB.symm _ _, rfl, rfl, rfl, rfl, rfl, rfl, rfl, rfl, rfl, rfl, rfl, rfl, rfl⟩
        ·skip
         refine DS.wrQ WrF.alloc rfl ?_
         rintro _ s9 ⟨b13, hbB, rfl, rfl⟩ hdB
         have huB := (upd_none.1 hbB).1
         simp (disch := omega) only [go_sem]
         refine DS.wrQ (WrF.call (lessEx_ok (ea := false) (eb := false) (us := port4) (ws := bits4 x.low) (by decide) rfl) ⟨[], rfl, rfl⟩) rfl ?_
         rintro r s ⟨rfl, hs⟩ hd
         obtain rfl := hs.symm
         simp (disch := omega) only [go_sem]
         refine DS.wrQ (WrF.call (constBits_ok (n := x.high) (m := 4) (by omega)) ⟨[], rfl, rfl⟩) rfl ?_
         rintro r s ⟨rfl, hs⟩ hd
         obtain rfl := hs.symm
         simp (disch := omega) only [go_sem]
         refine DS.wrQ (WrF.call (lessEx_ok (ea := false) (eb := false) (us := bits4 x.high) (ws := port4) (by simp [bits4]) rfl) ⟨[], rfl, rfl⟩) rfl ?_
         rintro r s ⟨rfl, hs⟩ hd
         obtain rfl := hs.symm
         exact ⟨b13, b14, (hdB b13).resolve_left (by rw [upd_same]; simp), disj_new hdA, huB, upd_comm _ huB.symm _ _, rfl, rfl, rfl, rfl, rfl, rfl, rfl, rfl, rfl, rfl, rfl, rfl, rfl⟩
     ·skip
      refine DS.wr2 WrF.alloc rfl ?_ ?_
      ·rintro _ s9 ⟨b13, hbA, rfl, rfl⟩ hdA
       simp (disch := omega) only [go_sem]
       refine DS.wr2 (WrF.call (constBits_ok (n := x.low) (m := 4) (by omega)) ⟨[], rfl, rfl⟩) rfl ?_ ?_
       ·rintro r s ⟨rfl, hs⟩ hd
        obtain rfl := hs.symm
        simp (disch := omega) only [go_sem]
        refine DS.wr2 (WrF.call (lessEx_ok (ea := false) (eb := false) (us := port4) (ws := bits4 x.low) (by decide) rfl) ⟨[], rfl, rfl⟩) rfl ?_ ?_
        ·rintro r s ⟨rfl, hs⟩ hd
         obtain rfl := hs.symm
         simp (disch := omega) only [go_sem]
         refine DS.wr2 (WrF.call (constBits_ok (n := x.high) (m := 4) (by omega)) ⟨[], rfl, rfl⟩) rfl ?_ ?_
         ·rintro r s ⟨rfl, hs⟩ hd
          obtain rfl := hs.symm
          simp (disch := omega) only [go_sem]
          refine DS.wr2 (WrF.call (lessEx_ok (ea := false) (eb := false) (us := bits4 x.high) (ws := port4) (by simp [bits4]) rfl) ⟨[], rfl, rfl⟩) rfl ?_ ?_
          ·rintro r s ⟨rfl, hs⟩ hd
           obtain rfl := hs.symm
           simp (disch := omega) only [go_sem]
           refine DS.wrQ WrF.alloc rfl ?_
           rintro _ s9 ⟨b14, hbB, rfl, rfl⟩ hdB
           have huB := (upd_none.1 hbB).1
           exact ⟨b13, b14, disj_new hdA, (hdB b14).resolve_left (by rw [upd_same]; simp), huB.symm, rfl, rfl, rfl, rfl, rfl, rfl, rfl, rfl, rfl, rfl, rfl, rfl, rfl, rfl⟩
          ·skip
           refine DS.wrQ WrF.alloc rfl ?_
           rintro _ s9 ⟨b14, hbB, rfl, rfl⟩ hdB
           have huB := (upd_none.1 hbB).1
           simp (disch := omega) only [go_sem]
           refine DS.wrQ (WrF.call (lessEx_ok (ea := false) (eb := false) (us := bits4 x.high) (ws := port4) (by simp [bits4]) rfl) ⟨[], rfl, rfl⟩) rfl ?_
           rintro r s ⟨rfl, hs⟩ hd
           obtain rfl := hs.symm
           exact ⟨b13, b14, disj_new hdA, (hdB b14).resolve_left (by rw [upd_same]; simp), huB.symm, rfl, rfl, rfl, rfl, rfl, rfl, rfl, rfl, rfl, rfl, rfl, rfl, rfl, rfl⟩
         ·skip
          refine DS.wrQ WrF.alloc rfl ?_
          rintro _ s9 ⟨b14, hbB, rfl, rfl⟩ hdB
          have huB := (upd_none.1 hbB).1
          simp (disch := omega) only [go_sem]
          refine DS.wrQ (WrF.call (constBits_ok (n := x.high) (m := 4) (by omega)) ⟨[], rfl, rfl⟩) rfl ?_
          rintro r s ⟨rfl, hs⟩ hd
          obtain rfl := hs.symm
          simp (disch := omega) only [go_sem]
          refine DS.wrQ (WrF.call (lessEx_ok (ea := false) (eb := false) (us := bits4 x.high) (ws := port4) (by simp [bits4]) rfl) ⟨[], rfl, rfl⟩) rfl ?_
          rintro r s ⟨rfl, hs⟩ hd
          obtain rfl := hs.symm
          exact ⟨b13, b14, disj_new hdA, (hdB b14).resolve_left (by rw [upd_same]; simp), huB.symm, rfl, rfl, rfl, rfl, rfl, rfl, rfl, rfl, rfl, rfl, rfl, rfl, rfl, rfl⟩
        ·skip
         refine DS.wrQ WrF.alloc rfl ?_
         rintro _ s9 ⟨b14, hbB, rfl, rfl⟩ hdB
         have huB := (upd_none.1 hbB).1
         simp (disch := omega) only [go_sem]
         refine DS.wrQ (WrF.call (lessEx_ok (ea := false) (eb := false) (us := port4) (ws := bits4 x.low) (by decide) rfl) ⟨[], rfl, rfl⟩) rfl ?_
         rintro r s ⟨rfl, hs⟩ hd
         obtain rfl := hs.symm
         simp (disch := omega) only [go_sem]
         refine DS.wrQ (WrF.call (constBits_ok (n := x.high) (m := 4) (by omega)) ⟨[], rfl, rfl⟩) rfl ?_
         rintro r s ⟨rfl, hs⟩ hd
         obtain rfl := hs.symm
         simp (disch := omega) only [go_sem]
         refine DS.wrQ (WrF.call (lessEx_ok (ea := false) (eb := false) (us := bits4 x.high) (ws := port4) (by simp [bits4]) rfl) ⟨[], rfl, rfl⟩) rfl ?_
         rintro r s ⟨rfl, hs⟩ hd
         obtain rfl := hs.symm
         exact ⟨b13, b14, disj_new hdA, (hdB b14).resolve_left (by rw [upd_same]; simp), huB.symm, rfl, rfl, rfl, rfl, rfl, rfl, rfl, rfl, rfl, rfl, rfl, rfl, rfl, rfl⟩
       ·skip
        refine DS.wrQ WrF.alloc rfl ?_
        rintro _ s9 ⟨b14, hbB, rfl, rfl⟩ hdB
        have huB := (upd_none.1 hbB).1
        simp (disch := omega) only [go_sem]
        refine DS.wrQ (WrF.call (constBits_ok (n := x.low) (m := 4) (by omega)) ⟨[], rfl, rfl⟩) rfl ?_
        rintro r s ⟨rfl, hs⟩ hd
        obtain rfl := hs.symm
        simp (disch := omega) only [go_sem]
        refine DS.wrQ (WrF.call (lessEx_ok (ea := false) (eb := false) (us := port4) (ws := bits4 x.low) (by decide) rfl) ⟨[], rfl, rfl⟩) rfl ?_
        rintro r s ⟨rfl, hs⟩ hd
        obtain rfl := hs.symm
        simp (disch := omega) only [go_sem]
        refine DS.wrQ (WrF.call (constBits_ok (n := x.high) (m := 4) (by omega)) ⟨[], rfl, rfl⟩) rfl ?_
        rintro r s ⟨rfl, hs⟩ hd
        obtain rfl := hs.symm
        simp (disch := omega) only [go_sem]
        refine DS.wrQ (WrF.call (lessEx_ok (ea := false) (eb := false) (us := bits4 x.high) (ws := port4) (by simp [bits4]) rfl) ⟨[], rfl, rfl⟩) rfl ?_
        rintro r s ⟨rfl, hs⟩ hd
        obtain rfl := hs.symm
        exact ⟨b13, b14, disj_new hdA, (hdB b14).resolve_left (by rw [upd_same]; simp), huB.symm, rfl, rfl, rfl, rfl, rfl, rfl, rfl, rfl, rfl, rfl, rfl, rfl, rfl, rfl⟩
      ·skip
       refine DS.wrQ WrF.alloc rfl ?_
       rintro _ s9 ⟨b14, hbA, rfl, rfl⟩ hdA
       simp (disch := omega) only [go_sem]
       refine DS.wr2 (WrF.call (constBits_ok (n := x.low) (m := 4) (by omega)) ⟨[], rfl, rfl⟩) rfl ?_ ?_
       ·rintro r s ⟨rfl, hs⟩ hd
        obtain rfl := hs.symm
        simp (disch := omega) only [go_sem]
        refine DS.wr2 (WrF.call (lessEx_ok (ea := false) (eb := false) (us := port4) (ws := bits4 x.low) (by decide) rfl) ⟨[], rfl, rfl⟩) rfl ?_ ?_
        ·rintro r s ⟨rfl, hs⟩ hd
         obtain rfl := hs.symm
         simp (disch := omega) only [go_sem]
         refine DS.wr2 (WrF.call (constBits_ok (n := x.high) (m := 4) (by omega)) ⟨[], rfl, rfl⟩) rfl ?_ ?_
         ·rintro r s ⟨rfl, hs⟩ hd
          obtain rfl := hs.symm
          simp (disch := omega) only [go_sem]
          refine DS.wr2 (WrF.call (lessEx_ok (ea := false) (eb := false) (us := bits4 x.high) (ws := port4) (by simp [bits4]) rfl) ⟨[], rfl, rfl⟩) rfl ?_ ?_
          ·rintro r s ⟨rfl, hs⟩ hd
           obtain rfl := hs.symm
           simp (disch := omega) only [go_sem]
           refine DS.wrQ WrF.alloc rfl ?_
           rintro _ s9 ⟨b13, hbB, rfl, rfl⟩ hdB
           have huB := (upd_none.1 hbB).1
           exact ⟨b13, b14, (hdB b13).resolve_left (by rw [upd_same]; simp), disj_new hdA, huB, upd_comm _ huB.symm _ _, rfl, rfl, rfl, rfl, rfl, rfl, rfl, rfl, rfl, rfl, rfl, rfl, rfl⟩
          ·skip
           refine DS.wrQ WrF.alloc rfl ?_
           rintro _ s9 ⟨b13, hbB, rfl, rfl⟩ hdB
           have huB := (upd_none.1 hbB).1
           simp (disch := omega) only [go_sem]
           refine DS.wrQ (WrF.call (lessEx_ok (ea := false) (eb := false) (us := bits4 x.high) (ws := port4) (by simp [bits4]) rfl) ⟨[], rfl, rfl⟩) rfl ?_
           rintro r s ⟨rfl, hs⟩ hd
           obtain rfl := hs.symm
           exact ⟨b13, b14, (hdB b13).resolve_left (by rw [upd_same]; simp), disj_new hdA, huB, upd_comm _ huB.symm _ _, rfl, rfl, rfl, rfl, rfl, rfl, rfl, rfl, rfl, rfl, rfl, rfl, rfl⟩
         ·skip
          refine DS.wrQ WrF.alloc rfl ?_
          rintro _ s9 ⟨b13, hbB, rfl, rfl⟩ hdB
          have huB := (upd_none.1 hbB).1
          simp (disch := omega) only [go_sem]
          refine DS.wrQ (WrF.call (constBits_ok (n := x.high) (m := 4) (by omega)) ⟨[], rfl, rfl⟩) rfl ?_
          rintro r s ⟨rfl, hs⟩ hd
          obtain rfl := hs.symm
          simp (disch := omega) only [go_sem]
          refine DS.wrQ (WrF.call (lessEx_ok (ea := false) (eb := false) (us := bits4 x.high) (ws := port4) (by simp [bits4]) rfl) ⟨[], rfl, rfl⟩) rfl ?_
          rintro r s ⟨rfl, hs⟩ hd
          obtain rfl := hs.symm
          exact ⟨b13, b14, (hdB b13).resolve_left (by rw [upd_same]; simp), disj_new hdA, huB, upd_comm _ huB.symm _ _, rfl, rfl, rfl, rfl, rfl, rfl, rfl, rfl, rfl, rfl, rfl, rfl, rfl⟩
        ·skip
         refine DS.wrQ WrF.alloc rfl ?_
         rintro _ s9 ⟨b13, hbB, rfl, rfl⟩ hdB
         have huB := (upd_none.1 hbB).1
         simp (disch := omega) only [go_sem]
         refine DS.wrQ (WrF.call (lessEx_ok (ea := false) (eb := false) (us := port4) (ws := bits4 x.low) (by decide) rfl) ⟨[], rfl, rfl⟩) rfl ?_
         rintro r s ⟨rfl, hs⟩ hd
         obtain rfl := hs.symm
         simp (disch := omega) only [go_sem]
         refine DS.wrQ (WrF.call (constBits_ok (n := x.high) (m := 4) (by omega)) ⟨[], rfl, rfl⟩) rfl ?_
         rintro r s ⟨rfl, hs⟩ hd
         obtain rfl := hs.symm
         simp (disch := omega) only [go_sem]
         refine DS.wrQ (WrF.call (lessEx_ok (ea := false) (eb := false) (us := bits4 x.high) (ws := port4) (by simp [bits4]) rfl) ⟨[], rfl, rfl⟩) rfl ?_
         rintro r s ⟨rfl, hs⟩ hd
         obtain rfl := hs.symm
         exact ⟨b13, b14, (hdB b13).resolve_left (by rw [upd_same]; simp), disj_new hdA, huB, upd_comm _ huB.symm _ _, rfl, rfl, rfl, rfl, rfl, rfl, rfl, rfl, rfl, rfl, rfl, rfl, rfl⟩
       ·skip
        refine DS.wrQ WrF.alloc rfl ?_
        rintro _ s9 ⟨b13, hbB, rfl, rfl⟩ hdB
        have huB := (upd_none.1 hbB).1
        simp (disch := omega) only [go_sem]
        refine DS.wrQ (WrF.call (constBits_ok (n := x.low) (m := 4) (by omega)) ⟨[], rfl, rfl⟩) rfl ?_
        rintro r s ⟨rfl, hs⟩ hd
        obtain rfl := hs.symm
        simp (disch := omega) only [go_sem]
        refine DS.wrQ (WrF.call (lessEx_ok (ea := false) (eb := false) (us := port4) (ws := bits4 x.low) (by decide) rfl) ⟨[], rfl, rfl⟩) rfl ?_
        rintro r s ⟨rfl, hs⟩ hd
        obtain rfl := hs.symm
        simp (disch := omega) only [go_sem]
        refine DS.wrQ (WrF.call (constBits_ok (n := x.high) (m := 4) (by omega)) ⟨[], rfl, rfl⟩) rfl ?_
        rintro r s ⟨rfl, hs⟩ hd
        obtain rfl := hs.symm
        simp (disch := omega) only [go_sem]
        refine DS.wrQ (WrF.call (lessEx_ok (ea := false) (eb := false) (us := bits4 x.high) (ws := port4) (by simp [bits4]) rfl) ⟨[], rfl, rfl⟩) rfl ?_
        rintro r s ⟨rfl, hs⟩ hd
        obtain rfl := hs.symm
        exact ⟨b13, b14, (hdB b13).resolve_left (by rw [upd_same]; simp), disj_new hdA, huB, upd_comm _ huB.symm _ _, rfl, rfl, rfl, rfl, rfl, rfl, rfl, rfl, rfl, rfl, rfl, rfl, rfl⟩
    ·rintro T _ ⟨b13, b14, hb13, hb14, n1314, rfl, t1, t2, t3, t6, t8, t10, t43, t44, t45, t13, t14, t63, t68⟩
     rw [cup_upd, cup_new]
     generalize lessE port4 (bits4 x.low) 4 = e1 at *
     generalize lessE (bits4 x.high) port4 4 = e2 at *
     have hb14' : upd s4 b13 (exC e1) b14 = none := by rw [upd_ne _ _ n1314.symm]; exact hb14
     simp (disch := omega) only [t13, t14, t63, t68, n1314, n1314.symm, go_sem]
     have n10_13 : b10 ≠ b13 := fun e => by subst e; rw [k10] at hb13; cases hb13
     have n10_14 : b10 ≠ b14 := fun e => by subst e; rw [k10] at hb14; cases hb14
     have hk : ∀ d y, s4 d = some y → upd (upd (upd (upd s4 b13 [V.int .i64 0, .int .i64 0, .isl true 0 []]) b14 [V.int .i64 0, .int .i64 0, .isl true 0 []]) b13 (exC e1)) b14 (exC e2) d = some y := fun d y h => by
      have h1 : d ≠ b13 := fun e => by subst e; rw [h] at hb13; cases hb13
      have h2 : d ≠ b14 := fun e => by subst e; rw [h] at hb14; cases hb14
      rw [upd_ne _ _ h2, upd_ne _ _ h1, upd_ne _ _ h2, upd_ne _ _ h1]; exact h
     have q13 : upd (upd (upd (upd s4 b13 [V.int .i64 0, .int .i64 0, .isl true 0 []]) b14 [V.int .i64 0, .int .i64 0, .isl true 0 []]) b13 (exC e1)) b14 (exC e2) b13 = some (exC e1) := by rw [upd_ne _ _ n1314, upd_same]
     have q14 : upd (upd (upd (upd s4 b13 [V.int .i64 0, .int .i64 0, .isl true 0 []]) b14 [V.int .i64 0, .int .i64 0, .isl true 0 []]) b13 (exC e1)) b14 (exC e2) b14 = some (exC e2) := upd_same _ _ _
     generalize upd (upd (upd (upd s4 b13 [V.int .i64 0, .int .i64 0, .isl true 0 []]) b14 [V.int .i64 0, .int .i64 0, .isl true 0 []]) b13 (exC e1)) b14 (exC e2) = s5 at *
     have q3 := hk _ _ k3
     have q6 := hk _ _ k6
     have q10 := hk _ _ k10
     rw [W_draw]
     refine SRun.freeze (T' := [(1, .int .i64 a), (2, .int .i64 t), (3, .ptr b3 0), (6, .ptr b6 0), (8, .isl false 3 (exsV port4)), (10, .ptr b10 0), (43, .isl false 4 (filsV n.filters)), (44, .int .i64 n.filters.length), (45, .int .i64 (k : Nat)), (13, .ptr b13 0), (14, .ptr b14 0)]) (σ' := s5) (fun _ _ h => h) ⟨?_, ?_, ?_, ?_, ?_, ?_, ?_, ?_, ?_, ?_, ?_, trivial⟩ ?_
     all_goals try (simp only [look_cons, Nat.reduceEqDiff, ↓reduceIte, t1, t2, t3, t6, t8, t10, t43, t44, t45, t13, t14]; exact .refl _)
     refine DRun.start (DRun.mixE rfl ?_)
     simp (disch := omega) only [q10, q13, q14, go_sem]
     refine DS.callB (implEx_ok (k := 3) (ks := [e1]) (e := true)) ⟨[], rfl, rfl⟩ rfl rfl ?_
     simp (disch := omega) only [go_sem]
     refine DS.callB (implEx_ok (k := 3) (ks := [e2]) (e := true)) ⟨[], rfl, rfl⟩ rfl rfl ?_
     simp (disch := omega) only [go_sem]
     refine DS.callB (implEx_ok (k := 4) (ks := [nodeE 3 [e1], nodeE 3 [e2]]) (e := true)) ⟨[], rfl, rfl⟩ rfl rfl ?_
     simp (disch := omega) only [go_sem]
     refine DRun.callQ (implEx_ok (k := 5) (ks := [e, nodeE 4 [nodeE 3 [e1], nodeE 3 [e2]]]) (e := true)) ⟨[], rfl, rfl⟩ ?_
     rintro r s ⟨rfl, hs⟩
     obtain rfl := hs.symm
     simp (disch := omega) only [q10, go_sem]
     have n310 : b3 ≠ b10 := n103.symm
     have n610 : b6 ≠ b10 := n106.symm
     exact ih (k + 1, upd s5 b10 (exC (nodeE 5 [e, nodeE 4 [nodeE 3 [e1], nodeE 3 [e2]]]))) _ _ ⟨by simp only; omega, by dsimp only; rw [upd_ne _ _ n310]; exact q3, by dsimp only; rw [upd_ne _ _ n610]; exact q6, by dsimp only; rw [hsucc]; exact upd_same _ _ _, fun d y h => by dsimp only; rw [upd_ne _ _ (hσ2 d y h).2.1]; exact hk _ _ (kσ _ _ h)⟩ (by simp only; omega) (by simp (disch := omega) only [subT, Int.natCast_add, Int.cast_ofNat_Int, go_sem] <;> (repeat' apply And.intro) <;> first | rfl | (congr 1; omega) | assumption) rfl
  ·have hkl : k = n.filters.length := by omega
   rw [hkl, List.take_length] at h10
   have hsz := filE_size a t n.filters
   generalize filE a t n.filters = e at *
   simp (disch := omega) only [h10, go_sem]
   refine SRun.callR (checkedEx_ok (e := e) (by omega)) ⟨[], rfl, rfl⟩ rfl ?_
   have hA : exA e = bif okE e then .tup [exV e, .int .i64 0] else .tup [exV zeroE, .int .i64 11] := rfl
   rw [hA]
   cases okE e with
   | true =>
    dsimp only [cond_true]
    simp (disch := omega) only [h6, go_sem]
    exact W_retC c43_ok (r := .tup [.agg (exC e), .int .i64 0]) (r' := .tup [exV e, .int .i64 0]) (σ' := σ) (resV_2E rfl (upd_same _ _ _) (exC_len e).symm) ⟨fun d x hd => by rw [upd_ne _ _ (hσ d x hd).1]; exact hle _ _ hd, frz_tup (by exact ⟨by rw [agg_exC]; exact .refl _, .refl _, trivial⟩)⟩ ⟨rfl, rfl⟩
   | false =>
    dsimp only [cond_false]
    simp (disch := omega) only [h6, go_sem]
    exact W_retC c43_ok (r := .tup [.agg (exC zeroE), .int .i64 11]) (r' := .tup [exV zeroE, .int .i64 11]) (σ' := σ) (resV_2E rfl (upd_same _ _ _) (exC_len zeroE).symm) ⟨fun d x hd => by rw [upd_ne _ _ (hσ d x hd).1]; exact hle _ _ hd, frz_tup (by exact ⟨by rw [agg_exC]; exact .refl _, .refl _, trivial⟩)⟩ ⟨rfl, rfl⟩
end
end Go.Proofs.Ytlidjjjpjndneaa.Lg
