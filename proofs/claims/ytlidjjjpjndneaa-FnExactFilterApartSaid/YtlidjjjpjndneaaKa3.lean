/- What is told of the functions that are reached, as far as it is asked here. -/
import Derived.Test.YtlidjjjpjndneaaKa2
import Derived.KernelRfl
set_option linter.unusedSimpArgs false
set_option linter.unusedVariables false
namespace Go.Proofs.Ytlidjjjpjndneaa.Lg
open Go
section
attribute [local irreducible] SRun DS DRun
variable {Γ : St} {σ σ0 : St}
def filtB (at_ to p : Int) (x : Fil) : Bool := decide (x.at_ = at_) && decide (x.to = to) && (decide (x.low ≤ p) && decide (p ≤ x.high))
theorem isFiltered1_ok {x : Fil} {b1 b2 b3 : Nat} {at_ to p : Int} (h1 : σ b1 = some [.int .i64 at_]) (h2 : σ b2 = some [.int .i64 to]) (h3 : σ b3 = some [.int .i64 p]) : Ret Try.prog Γ 187 [.agg (filC x), .ptr b1 0, .ptr b2 0, .ptr b3 0] σ (.bool (filtB at_ to p x)) σ := by
  refine ret_of c187_ok rfl ?_
  simp (disch := omega) only [c187, filC, go_sem, ↓if_pos, ne_eq, ↓reduceIte]
  refine SRun.boxR (by simp [ev, look, V.cells, V.one]) ?_
  intro b4 hb4
  have n1 : b1 ≠ b4 := fun e => by subst e; rw [h1] at hb4; cases hb4
  have n2 : b2 ≠ b4 := fun e => by subst e; rw [h2] at hb4; cases hb4
  have n3 : b3 ≠ b4 := fun e => by subst e; rw [h3] at hb4; cases hb4
  unfold filtB
  generalize h4 : decide (x.at_ = at_) = p1
  generalize h5 : decide (x.to = to) = p2
  cases p1 <;> cases p2
  case' true.true =>
    simp (disch := omega) only [h1, h2, h3, n1, n2, n3, h4, h5, go_sem, ↓if_pos, ne_eq, ↓reduceIte]
    refine SRun.callR (within_ok p x.low x.high) ⟨[], rfl, rfl⟩ rfl ?_
  all_goals
    simp (disch := omega) only [h1, h2, h3, n1, n2, n3, h4, h5, go_sem, ↓if_pos, ne_eq, ↓reduceIte]
    exact W_retC c187_ok rfl (Conv.drop _ (le_upd hb4)) ⟨rfl, rfl⟩
theorem isFiltered_ok {n : Net} {at_ to p : Int} (hl : n.filters.length ≤ 1000000000000) : Ret Try.prog Γ 115 [netV n, .int .i64 at_, .int .i64 to, .int .i64 p] σ (.bool (n.filters.any (filtB at_ to p))) σ := by
  have e5 : (netC n)[5]? = some (.isl false 4 (filsV n.filters)) := rfl
  refine ret_of c115_ok rfl ?_
  simp (disch := omega) only [c115, netV, go_sem, ↓if_pos, ne_eq, ↓reduceIte]
  refine SRun.boxR (net_one n) ?_
  intro b4 hb4
  simp (disch := omega) only [go_sem, ↓if_pos, ne_eq, ↓reduceIte]
  refine SRun.boxR (by simp [ev, look, V.cells, V.one]) ?_
  intro b5 hb5
  simp (disch := omega) only [go_sem, ↓if_pos, ne_eq, ↓reduceIte]
  refine SRun.boxR (by simp [ev, look, V.cells, V.one]) ?_
  intro b6 hb6
  simp (disch := omega) only [go_sem, ↓if_pos, ne_eq, ↓reduceIte]
  refine SRun.boxR (by simp [ev, look, V.cells, V.one]) ?_
  intro b7 hb7
  simp (disch := omega) only [go_sem, ↓if_pos, ne_eq, ↓reduceIte]
  have n7 := upd_none.1 hb7
  have n7' := upd_none.1 n7.2
  have n7'' := upd_none.1 n7'.2
  have n6 := upd_none.1 hb6
  have n6' := upd_none.1 n6.2
  have n5 := upd_none.1 hb5
  have g4 : upd (upd (upd (upd σ b4 (netC n)) b5 [V.int .i64 at_]) b6 [V.int .i64 to]) b7 [V.int .i64 p] b4 = some (netC n) := by rw [upd_ne _ _ n7''.1.symm, upd_ne _ _ n6'.1.symm, upd_ne _ _ n5.1.symm, upd_same]
  have g5 : upd (upd (upd (upd σ b4 (netC n)) b5 [V.int .i64 at_]) b6 [V.int .i64 to]) b7 [V.int .i64 p] b5 = some [V.int .i64 at_] := by rw [upd_ne _ _ n7'.1.symm, upd_ne _ _ n6.1.symm, upd_same]
  have g6 : upd (upd (upd (upd σ b4 (netC n)) b5 [V.int .i64 at_]) b6 [V.int .i64 to]) b7 [V.int .i64 p] b6 = some [V.int .i64 to] := by rw [upd_ne _ _ n7.1.symm, upd_same]
  have g7 := upd_same (upd (upd (upd σ b4 (netC n)) b5 [V.int .i64 at_]) b6 [V.int .i64 to]) b7 [V.int .i64 p]
  have hσ : ∀ d z, σ d = some z → upd (upd (upd (upd σ b4 (netC n)) b5 [V.int .i64 at_]) b6 [V.int .i64 to]) b7 [V.int .i64 p] d = some z := fun d z h => le_upd hb7 _ _ (le_upd hb6 _ _ (le_upd hb5 _ _ (le_upd hb4 _ _ h)))
  generalize upd (upd (upd (upd σ b4 (netC n)) b5 [V.int .i64 at_]) b6 [V.int .i64 to]) b7 [V.int .i64 p] = s1 at *
  simp (disch := omega) only [g4, e5, go_sem, ↓if_pos, ne_eq, ↓reduceIte]
  refine SRun.callR (containsFi_ok (ex := false) (xs := n.filters) (F := 187) (caps := [.ptr b5 0, .ptr b6 0, .ptr b7 0]) (p := filtB at_ to p) hl fun x _ => isFiltered1_ok g5 g6 g7) ⟨[], rfl, rfl⟩ rfl ?_
  simp (disch := omega) only [go_sem, ↓if_pos, ne_eq, ↓reduceIte]
  exact W_retC c115_ok rfl (Conv.drop _ hσ) ⟨rfl, rfl⟩
theorem any_takeD {α : Type} [Inhabited α] {p : α → Bool} {xs : List α} {i : Nat} (hi : i < xs.length) (h : (xs.take i).any p = false) (hp : p (xs.getD i default) = false) : (xs.take (i + 1)).any p = false := by
  rw [take_succ default hi, List.any_append, h, List.any_cons, hp]; rfl
theorem any_trueD {α : Type} [Inhabited α] {p : α → Bool} {xs : List α} {i : Nat} (hi : i < xs.length) (hp : p (xs.getD i default) = true) : xs.any p = true := by
  rw [List.any_eq_true]; exact ⟨_, getD_mem default hi, hp⟩
theorem l08Filtered_ok {n : Net} {at_ to p : Int} (hl : n.filters.length ≤ 1000000000000) : Ret Try.prog Γ 116 [netV n, .int .i64 at_, .int .i64 to, .int .i64 p] σ (.bool (n.filters.any (filtB at_ to p))) σ := by
  have e5 : (netC n)[5]? = some (.isl false 4 (filsV n.filters)) := rfl
  refine ret_of c116_ok rfl ?_
  simp (disch := omega) only [c116, netV, go_sem, ↓if_pos, ne_eq, ↓reduceIte]
  refine SRun.boxR (net_one n) ?_
  intro b4 hb4
  have g4 := upd_same σ b4 (netC n)
  have hσ : ∀ d z, σ d = some z → upd σ b4 (netC n) d = some z := le_upd hb4
  simp (disch := omega) only [go_sem, ↓if_pos, ne_eq, ↓reduceIte]
  generalize upd σ b4 (netC n) = s1 at *
  refine W_loopC (α := Nat × St) (fun q => q.1 ≤ n.filters.length ∧ (n.filters.take q.1).any (filtB at_ to p) = false ∧ ∀ d x, s1 d = some x → q.2 d = some x) (fun q => [(1, .int .i64 at_), (2, .int .i64 to), (3, .int .i64 p), (4, .ptr b4 0), (9, .int .i64 (q.1 : Nat))]) (fun q => q.2) (fun q => n.filters.length - q.1) (0, s1) ⟨by omega, rfl, fun _ _ h => h⟩ (by simp (disch := omega) only [subT, Int.natCast_add, Int.cast_ofNat_Int, go_sem, ↓if_pos, ne_eq, ↓reduceIte] <;> (repeat' apply And.intro) <;> first | rfl | (congr 1; omega) | assumption) rfl ?_
  rintro ⟨i, s2⟩ ⟨hi, hall, hle2⟩ ih
  dsimp only at hi hall hle2
  have hσ2 : ∀ d x, σ d = some x → s2 d = some x := fun d x h => hle2 _ _ (hσ d x h)
  have g1 := hle2 _ _ g4
  simp (disch := omega) only [g1, e5, go_sem, ↓if_pos, ne_eq, ↓reduceIte]
  first | refine iteW_dec (fun hq => ?_) (fun hq => ?_) | refine iteW_of (fun hq => ?_) (fun hq => ?_)
  · have hnx := any_takeD (xs := n.filters) (p := filtB at_ to p) (i := i) (by omega) hall
    have hyes := any_trueD (xs := n.filters) (p := filtB at_ to p) (i := i) (by omega)
    simp (disch := omega) only [g1, e5, go_sem, ↓if_pos, ne_eq, ↓reduceIte]
    generalize n.filters.getD i default = x at *
    have hdef : filtB at_ to p x = (decide (x.at_ = at_) && decide (x.to = to) && (decide (x.low ≤ p) && decide (p ≤ x.high))) := rfl
    refine SRun.allocR ?_
    intro b10 hb10
    have hσ3 : ∀ z, ∀ d x, σ d = some x → upd s2 b10 z d = some x := fun z d x h => le_upd hb10 _ _ (hσ2 d x h)
    have hfc : filC x = [.int .i64 x.at_, .int .i64 x.to, .int .i64 x.low, .int .i64 x.high] := rfl
    generalize h4 : decide (x.at_ = at_) = p1 at *
    generalize h5 : decide (x.to = to) = p2 at *
    cases p1 <;> cases p2
    case' true.true =>
      simp (disch := omega) only [hfc, h4, h5, go_sem, ↓if_pos, ne_eq, ↓reduceIte]
      refine SRun.callR (l01In_ok p x.low x.high) ⟨[], rfl, rfl⟩ rfl ?_
      generalize (decide (x.low ≤ p) && decide (p ≤ x.high)) = p3 at *
      cases p3
      case' true =>
        simp (disch := omega) only [go_sem, ↓if_pos, ne_eq, ↓reduceIte]
        exact W_retC c116_ok rfl (Conv.drop _ (hσ3 _)) ⟨by rw [hyes hdef]; rfl, rfl⟩
    all_goals
      simp (disch := omega) only [hfc, h4, h5, go_sem, ↓if_pos, ne_eq, ↓reduceIte]
      exact ih (i + 1, _) _ _ ⟨by simp only; omega, hnx (by rw [hdef]; rfl), fun d x h => le_upd hb10 _ _ (hle2 _ _ h)⟩ (by simp only; omega) (by simp (disch := omega) only [subT, Int.natCast_add, Int.cast_ofNat_Int, go_sem, ↓if_pos, ne_eq, ↓reduceIte] <;> (repeat' apply And.intro) <;> first | rfl | (congr 1; omega) | assumption) rfl
  · have hir : i = n.filters.length := by omega
    rw [hir, List.take_length] at hall
    rw [hall]
    simp (disch := omega) only [go_sem, ↓if_pos, ne_eq, ↓reduceIte]
    exact W_retC c116_ok rfl (Conv.drop _ hσ2) ⟨rfl, rfl⟩
/-- Where two answer differently first. -/
def apartP (f g : Int → Bool) : Option Nat := (List.range 16).findIdx? fun (i : Nat) => f i != g i
def apartA (f g : Int → Bool) : V := match apartP f g with | some i => .tup [.int .i64 i, .int .i64 0] | none => .tup [.int .i64 0, .int .i64 6]
theorem apart_some {f g : Int → Bool} {i : Nat} (hi : i < 16) (hno : ∀ j : Nat, j < i → f j = g j) (he : f i ≠ g i) : apartP f g = some i := by
  unfold apartP
  rw [List.findIdx?_eq_some_iff_getElem]
  refine ⟨by simpa using hi, by simpa using he, fun j hj => ?_⟩
  have := hno j hj
  simpa using this
theorem apart_none {f g : Int → Bool} (hno : ∀ j : Nat, j < 16 → f j = g j) : apartP f g = none := by
  unfold apartP
  rw [List.findIdx?_eq_none_iff]
  intro x hx
  have := hno x (List.mem_range.1 hx)
  simp [this]
def fApart (n : Net) (a t : Int) (m : Net) (b u : Int) : V :=
  if !(netB n && netB m) then .tup [.int .i64 0, .int .i64 1] else if !(routerB n.routers.length a && routerB n.routers.length t && routerB m.routers.length b && routerB m.routers.length u) then .tup [.int .i64 0, .int .i64 5]
  else apartA (fun p => n.filters.any (filtB a t p)) (fun p => m.filters.any (filtB b u p))
end
section
attribute [local irreducible] SRun DS DRun
variable {Γ : St} {σ σ0 : St}
theorem FilterApart_ok {n m : Net} {a t b u : Int} (hn : NetLen n) (hm : NetLen m) : Ret Try.prog Γ 45 [netV n, .int .i64 a, .int .i64 t, netV m, .int .i64 b, .int .i64 u] σ (fApart n a t m b u) σ := by
  have hlen : (netC n).take 6 = netC n := rfl
  have hlen2 : (netC n).length = 6 := rfl
  have hlen' : (netC m).take 6 = netC m := rfl
  have hlen2' : (netC m).length = 6 := rfl
  have e0 : (netC n)[0]? = some (.isl false 1 (strsV n.routers)) := rfl
  have e0' : (netC m)[0]? = some (.isl false 1 (strsV m.routers)) := rfl
  have l1 := hn.routers
  have l1' := hm.routers
  have hdef : fApart n a t m b u = (if !(netB n && netB m) then .tup [.int .i64 0, .int .i64 1] else if !(routerB n.routers.length a && routerB n.routers.length t && routerB m.routers.length b && routerB m.routers.length u) then .tup [.int .i64 0, .int .i64 5] else apartA (fun p => n.filters.any (filtB a t p)) (fun p => m.filters.any (filtB b u p))) := rfl
  refine ret_of c45_ok rfl ?_
  simp (disch := omega) only [c45, netV, go_sem, ↓if_pos, ne_eq, ↓reduceIte]
  refine SRun.boxR (net_one n) ?_
  intro b6 hb6
  simp (disch := omega) only [go_sem, ↓if_pos, ne_eq, ↓reduceIte]
  refine SRun.boxR (net_one m) ?_
  intro b9 hb9
  simp (disch := omega) only [go_sem, ↓if_pos, ne_eq, ↓reduceIte]
  have n9 := upd_none.1 hb9
  have g6 : upd (upd σ b6 (netC n)) b9 (netC m) b6 = some (netC n) := by rw [upd_ne _ _ n9.1.symm, upd_same]
  have g9 := upd_same (upd σ b6 (netC n)) b9 (netC m)
  have hσ : ∀ d z, σ d = some z → upd (upd σ b6 (netC n)) b9 (netC m) d = some z := fun d z h => le_upd hb9 _ _ (le_upd hb6 _ _ h)
  generalize upd (upd σ b6 (netC n)) b9 (netC m) = s1 at *
  simp (disch := omega) only [g6, hlen, hlen2, go_sem, ↓if_pos, ne_eq, ↓reduceIte]
  refine SRun.callR (isNet_ok hn) ⟨[], rfl, rfl⟩ rfl ?_
  generalize netB n = q1 at *
  cases q1 with
  | false =>
    rw [hdef]
    simp (disch := omega) only [go_sem, ↓if_pos, ne_eq, ↓reduceIte]
    exact W_retC c45_ok rfl (Conv.drop _ hσ) ⟨rfl, rfl⟩
  | true =>
  simp (disch := omega) only [g9, hlen', hlen2', go_sem, ↓if_pos, ne_eq, ↓reduceIte]
  refine SRun.callR (isNet_ok hm) ⟨[], rfl, rfl⟩ rfl ?_
  generalize netB m = q2 at *
  cases q2 with
  | false =>
    rw [hdef]
    simp (disch := omega) only [go_sem, ↓if_pos, ne_eq, ↓reduceIte]
    exact W_retC c45_ok rfl (Conv.drop _ hσ) ⟨rfl, rfl⟩
  | true =>
  simp (disch := omega) only [g6, hlen, hlen2, e0, go_sem, ↓if_pos, ne_eq, ↓reduceIte]
  refine SRun.callR (isRouter_ok (n := n) (x := a) l1) ⟨[], rfl, rfl⟩ rfl ?_
  generalize routerB n.routers.length a = r0 at *
  cases r0 with
  | false =>
    rw [hdef]
    simp (disch := omega) only [go_sem, ↓if_pos, ne_eq, ↓reduceIte]
    refine W_retC c45_ok rfl (Conv.drop _ hσ) ⟨?_, rfl⟩
    simp [look]
  | true =>
  simp (disch := omega) only [g6, hlen, hlen2, e0, go_sem, ↓if_pos, ne_eq, ↓reduceIte]
  refine SRun.callR (isRouter_ok (n := n) (x := t) l1) ⟨[], rfl, rfl⟩ rfl ?_
  generalize routerB n.routers.length t = r1 at *
  cases r1 with
  | false =>
    rw [hdef]
    simp (disch := omega) only [go_sem, ↓if_pos, ne_eq, ↓reduceIte]
    refine W_retC c45_ok rfl (Conv.drop _ hσ) ⟨?_, rfl⟩
    simp [look]
  | true =>
  simp (disch := omega) only [g9, hlen', hlen2', e0', go_sem, ↓if_pos, ne_eq, ↓reduceIte]
  refine SRun.callR (isRouter_ok (n := m) (x := b) l1') ⟨[], rfl, rfl⟩ rfl ?_
  generalize routerB m.routers.length b = r2 at *
  cases r2 with
  | false =>
    rw [hdef]
    simp (disch := omega) only [go_sem, ↓if_pos, ne_eq, ↓reduceIte]
    refine W_retC c45_ok rfl (Conv.drop _ hσ) ⟨?_, rfl⟩
    simp [look]
  | true =>
  simp (disch := omega) only [g9, hlen', hlen2', e0', go_sem, ↓if_pos, ne_eq, ↓reduceIte]
  refine SRun.callR (isRouter_ok (n := m) (x := u) l1') ⟨[], rfl, rfl⟩ rfl ?_
  generalize routerB m.routers.length u = r3 at *
  cases r3 with
  | false =>
    rw [hdef]
    simp (disch := omega) only [go_sem, ↓if_pos, ne_eq, ↓reduceIte]
    refine W_retC c45_ok rfl (Conv.drop _ hσ) ⟨?_, rfl⟩
    simp [look]
  | true =>
  have hdef2 : fApart n a t m b u = apartA (fun p => n.filters.any (filtB a t p)) (fun p => m.filters.any (filtB b u p)) := hdef
  rw [hdef2]
  clear hdef hdef2
  simp (disch := omega) only [go_sem, ↓if_pos, ne_eq, ↓reduceIte]
  refine W_loopC (α := Nat) (fun i => i ≤ 16 ∧ ∀ j : Nat, j < i → n.filters.any (filtB a t j) = m.filters.any (filtB b u j)) (fun i => [(1, .int .i64 a), (2, .int .i64 t), (4, .int .i64 b), (5, .int .i64 u), (6, .ptr b6 0), (9, .ptr b9 0), (47, .int .i64 (i : Nat))]) (fun _ => s1) (fun i => 16 - i) 0 ⟨by omega, fun j hj => by omega⟩ (by simp (disch := omega) only [subT, Int.natCast_add, Int.cast_ofNat_Int, go_sem, ↓if_pos, ne_eq, ↓reduceIte] <;> (repeat' apply And.intro) <;> first | rfl | (congr 1; omega) | assumption) rfl ?_
  rintro i ⟨hi, hno⟩ ih
  simp (disch := omega) only [go_sem, ↓if_pos, ne_eq, ↓reduceIte]
  first | refine iteW_dec (fun hq => ?_) (fun hq => ?_) | refine iteW_of (fun hq => ?_) (fun hq => ?_)
  · simp (disch := omega) only [go_sem, ↓if_pos, ne_eq, ↓reduceIte]
    refine W_drawW ?_
    refine DRun.mixE rfl ?_
    simp (disch := omega) only [g6, g9, hlen, hlen', hlen2, hlen2', go_sem, ↓if_pos, ne_eq, ↓reduceIte]
    refine DS.callB (isFiltered_ok (n := n) hn.filters) ⟨[], rfl, rfl⟩ rfl rfl ?_
    simp (disch := omega) only [go_sem, ↓if_pos, ne_eq, ↓reduceIte]
    refine DRun.callQ (isFiltered_ok (n := m) hm.filters) ⟨[], rfl, rfl⟩ ?_
    rintro r s ⟨rfl, hs⟩
    obtain rfl := hs.symm
    by_cases he : n.filters.any (filtB a t i) = m.filters.any (filtB b u i)
    · have hx : (!(n.filters.any (filtB a t i) == m.filters.any (filtB b u i))) = false := by rw [he]; simp
      simp (disch := omega) only [hx, go_sem, ↓if_pos, ne_eq, ↓reduceIte]
      refine ih (i + 1) _ _ ⟨by omega, fun j hj => ?_⟩ (by omega) (by simp (disch := omega) only [subT, Int.natCast_add, Int.cast_ofNat_Int, go_sem, ↓if_pos, ne_eq, ↓reduceIte] <;> (repeat' apply And.intro) <;> first | rfl | (congr 1; omega) | assumption) rfl
      by_cases e : j = i
      · subst e; exact he
      · exact hno j (by omega)
    · have hx : (!(n.filters.any (filtB a t i) == m.filters.any (filtB b u i))) = true := by simpa using he
      simp (disch := omega) only [hx, go_sem, ↓if_pos, ne_eq, ↓reduceIte]
      refine W_retC c45_ok rfl (Conv.drop _ hσ) ⟨?_, rfl⟩
      unfold apartA
      rw [apart_some (f := fun p => n.filters.any (filtB a t p)) (g := fun p => m.filters.any (filtB b u p)) (by omega) hno he]
      rfl
  · have hi16 : i = 16 := by omega
    subst hi16
    simp (disch := omega) only [go_sem, ↓if_pos, ne_eq, ↓reduceIte]
    refine W_retC c45_ok rfl (Conv.drop _ hσ) ⟨?_, rfl⟩
    unfold apartA
    rw [apart_none (f := fun p => n.filters.any (filtB a t p)) (g := fun p => m.filters.any (filtB b u p)) hno]
    rfl
theorem FilterAparts_ok {n m : Net} {a t b u : Int} (hn : NetLen n) (hm : NetLen m) : Ret Try.prog Γ 46 [netV n, .int .i64 a, .int .i64 t, netV m, .int .i64 b, .int .i64 u] σ (fApart n a t m b u) σ := by
  have hlen : (netC n).take 6 = netC n := rfl
  have hlen2 : (netC n).length = 6 := rfl
  have hlen' : (netC m).take 6 = netC m := rfl
  have hlen2' : (netC m).length = 6 := rfl
  have e0 : (netC n)[0]? = some (.isl false 1 (strsV n.routers)) := rfl
  have e0' : (netC m)[0]? = some (.isl false 1 (strsV m.routers)) := rfl
  have l1 := hn.routers
  have l1' := hm.routers
  have hdef : fApart n a t m b u = (if !(netB n && netB m) then .tup [.int .i64 0, .int .i64 1] else if !(routerB n.routers.length a && routerB n.routers.length t && routerB m.routers.length b && routerB m.routers.length u) then .tup [.int .i64 0, .int .i64 5] else apartA (fun p => n.filters.any (filtB a t p)) (fun p => m.filters.any (filtB b u p))) := rfl
  refine ret_of c46_ok rfl ?_
  simp (disch := omega) only [c46, netV, go_sem, ↓if_pos, ne_eq, ↓reduceIte]
  refine SRun.boxR (net_one n) ?_
  intro b6 hb6
  simp (disch := omega) only [go_sem, ↓if_pos, ne_eq, ↓reduceIte]
  refine SRun.boxR (net_one m) ?_
  intro b9 hb9
  simp (disch := omega) only [go_sem, ↓if_pos, ne_eq, ↓reduceIte]
  have n9 := upd_none.1 hb9
  have g6 : upd (upd σ b6 (netC n)) b9 (netC m) b6 = some (netC n) := by rw [upd_ne _ _ n9.1.symm, upd_same]
  have g9 := upd_same (upd σ b6 (netC n)) b9 (netC m)
  have hσ : ∀ d z, σ d = some z → upd (upd σ b6 (netC n)) b9 (netC m) d = some z := fun d z h => le_upd hb9 _ _ (le_upd hb6 _ _ h)
  generalize upd (upd σ b6 (netC n)) b9 (netC m) = s1 at *
  simp (disch := omega) only [g6, hlen, hlen2, go_sem, ↓if_pos, ne_eq, ↓reduceIte]
  refine SRun.callR (NetOK_ok hn) ⟨[], rfl, rfl⟩ rfl ?_
  generalize netB n = q1 at *
  cases q1 with
  | false =>
    rw [hdef]
    simp (disch := omega) only [go_sem, ↓if_pos, ne_eq, ↓reduceIte]
    exact W_retC c46_ok rfl (Conv.drop _ hσ) ⟨rfl, rfl⟩
  | true =>
  simp (disch := omega) only [g9, hlen', hlen2', go_sem, ↓if_pos, ne_eq, ↓reduceIte]
  refine SRun.callR (NetOK_ok hm) ⟨[], rfl, rfl⟩ rfl ?_
  generalize netB m = q2 at *
  cases q2 with
  | false =>
    rw [hdef]
    simp (disch := omega) only [go_sem, ↓if_pos, ne_eq, ↓reduceIte]
    exact W_retC c46_ok rfl (Conv.drop _ hσ) ⟨rfl, rfl⟩
  | true =>
  simp (disch := omega) only [g6, hlen, hlen2, e0, go_sem, ↓if_pos, ne_eq, ↓reduceIte]
  refine SRun.callR (l01In_ok a 0 ((n.routers.length : Int) - 1)) ⟨[], rfl, rfl⟩ rfl ?_
  rw [show (decide (0 ≤ a) && decide (a ≤ (n.routers.length : Int) - 1)) = routerB n.routers.length a from rfl]
  generalize routerB n.routers.length a = r0 at *
  cases r0 with
  | false =>
    rw [hdef]
    simp (disch := omega) only [go_sem, ↓if_pos, ne_eq, ↓reduceIte]
    refine W_retC c46_ok rfl (Conv.drop _ hσ) ⟨?_, rfl⟩
    simp [look]
  | true =>
  simp (disch := omega) only [g6, hlen, hlen2, e0, go_sem, ↓if_pos, ne_eq, ↓reduceIte]
  refine SRun.callR (l01In_ok t 0 ((n.routers.length : Int) - 1)) ⟨[], rfl, rfl⟩ rfl ?_
  rw [show (decide (0 ≤ t) && decide (t ≤ (n.routers.length : Int) - 1)) = routerB n.routers.length t from rfl]
  generalize routerB n.routers.length t = r1 at *
  cases r1 with
  | false =>
    rw [hdef]
    simp (disch := omega) only [go_sem, ↓if_pos, ne_eq, ↓reduceIte]
    refine W_retC c46_ok rfl (Conv.drop _ hσ) ⟨?_, rfl⟩
    simp [look]
  | true =>
  simp (disch := omega) only [g9, hlen', hlen2', e0', go_sem, ↓if_pos, ne_eq, ↓reduceIte]
  refine SRun.callR (l01In_ok b 0 ((m.routers.length : Int) - 1)) ⟨[], rfl, rfl⟩ rfl ?_
  rw [show (decide (0 ≤ b) && decide (b ≤ (m.routers.length : Int) - 1)) = routerB m.routers.length b from rfl]
  generalize routerB m.routers.length b = r2 at *
  cases r2 with
  | false =>
    rw [hdef]
    simp (disch := omega) only [go_sem, ↓if_pos, ne_eq, ↓reduceIte]
    refine W_retC c46_ok rfl (Conv.drop _ hσ) ⟨?_, rfl⟩
    simp [look]
  | true =>
  simp (disch := omega) only [g9, hlen', hlen2', e0', go_sem, ↓if_pos, ne_eq, ↓reduceIte]
  refine SRun.callR (l01In_ok u 0 ((m.routers.length : Int) - 1)) ⟨[], rfl, rfl⟩ rfl ?_
  rw [show (decide (0 ≤ u) && decide (u ≤ (m.routers.length : Int) - 1)) = routerB m.routers.length u from rfl]
  generalize routerB m.routers.length u = r3 at *
  cases r3 with
  | false =>
    rw [hdef]
    simp (disch := omega) only [go_sem, ↓if_pos, ne_eq, ↓reduceIte]
    refine W_retC c46_ok rfl (Conv.drop _ hσ) ⟨?_, rfl⟩
    simp [look]
  | true =>
  have hdef2 : fApart n a t m b u = apartA (fun p => n.filters.any (filtB a t p)) (fun p => m.filters.any (filtB b u p)) := hdef
  rw [hdef2]
  clear hdef hdef2
  simp (disch := omega) only [go_sem, ↓if_pos, ne_eq, ↓reduceIte]
  refine W_loopC (α := Nat) (fun i => i ≤ 16 ∧ ∀ j : Nat, j < i → n.filters.any (filtB a t j) = m.filters.any (filtB b u j)) (fun i => [(1, .int .i64 a), (2, .int .i64 t), (4, .int .i64 b), (5, .int .i64 u), (6, .ptr b6 0), (9, .ptr b9 0), (14, .int .i64 (i : Nat))]) (fun _ => s1) (fun i => 16 - i) 0 ⟨by omega, fun j hj => by omega⟩ (by simp (disch := omega) only [subT, Int.natCast_add, Int.cast_ofNat_Int, go_sem, ↓if_pos, ne_eq, ↓reduceIte] <;> (repeat' apply And.intro) <;> first | rfl | (congr 1; omega) | assumption) rfl ?_
  rintro i ⟨hi, hno⟩ ih
  simp (disch := omega) only [go_sem, ↓if_pos, ne_eq, ↓reduceIte]
  first | refine iteW_dec (fun hq => ?_) (fun hq => ?_) | refine iteW_of (fun hq => ?_) (fun hq => ?_)
  · simp (disch := omega) only [go_sem, ↓if_pos, ne_eq, ↓reduceIte]
    refine W_drawW ?_
    refine DRun.mixE rfl ?_
    simp (disch := omega) only [g6, g9, hlen, hlen', hlen2, hlen2', go_sem, ↓if_pos, ne_eq, ↓reduceIte]
    refine DS.callB (l08Filtered_ok (n := n) hn.filters) ⟨[], rfl, rfl⟩ rfl rfl ?_
    simp (disch := omega) only [go_sem, ↓if_pos, ne_eq, ↓reduceIte]
    refine DRun.callQ (l08Filtered_ok (n := m) hm.filters) ⟨[], rfl, rfl⟩ ?_
    rintro r s ⟨rfl, hs⟩
    obtain rfl := hs.symm
    by_cases he : n.filters.any (filtB a t i) = m.filters.any (filtB b u i)
    · have hx : (!(n.filters.any (filtB a t i) == m.filters.any (filtB b u i))) = false := by rw [he]; simp
      simp (disch := omega) only [hx, go_sem, ↓if_pos, ne_eq, ↓reduceIte]
      refine ih (i + 1) _ _ ⟨by omega, fun j hj => ?_⟩ (by omega) (by simp (disch := omega) only [subT, Int.natCast_add, Int.cast_ofNat_Int, go_sem, ↓if_pos, ne_eq, ↓reduceIte] <;> (repeat' apply And.intro) <;> first | rfl | (congr 1; omega) | assumption) rfl
      by_cases e : j = i
      · subst e; exact he
      · exact hno j (by omega)
    · have hx : (!(n.filters.any (filtB a t i) == m.filters.any (filtB b u i))) = true := by simpa using he
      simp (disch := omega) only [hx, go_sem, ↓if_pos, ne_eq, ↓reduceIte]
      refine W_retC c46_ok rfl (Conv.drop _ hσ) ⟨?_, rfl⟩
      unfold apartA
      rw [apart_some (f := fun p => n.filters.any (filtB a t p)) (g := fun p => m.filters.any (filtB b u p)) (by omega) hno he]
      rfl
  · have hi16 : i = 16 := by omega
    subst hi16
    simp (disch := omega) only [go_sem, ↓if_pos, ne_eq, ↓reduceIte]
    refine W_retC c46_ok rfl (Conv.drop _ hσ) ⟨?_, rfl⟩
    unfold apartA
    rw [apart_none (f := fun p => n.filters.any (filtB a t p)) (g := fun p => m.filters.any (filtB b u p)) hno]
    rfl
end
end Go.Proofs.Ytlidjjjpjndneaa.Lg
