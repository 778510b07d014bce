/- What is told of the functions that are reached, as far as it is asked here. -/
import Derived.Test.YtlidjjjpjndneaaKf5
import Derived.KernelRfl
set_option linter.unusedSimpArgs false
set_option linter.unusedVariables false
namespace Go.Proofs.Ytlidjjjpjndneaa.Lg
open Go
section
attribute [local irreducible] SRun DS DRun
variable {Γ : St} {σ σ0 : St}
def filtB (at_ to p : Int) (x : Fil) : Bool := decide (x.at_ = at_) && decide (x.to = to) && (decide (x.low ≤ p) && decide (p ≤ x.high))
theorem isFiltered1_ok {x : Fil} {b1 b2 b3 : Nat} {at_ to p : Int} (h1 : σ b1 = some [.int .i64 at_]) (h2 : σ b2 = some [.int .i64 to]) (h3 : σ b3 = some [.int .i64 p]) : Ret Try.prog Γ 187 [.agg (filC x), .ptr b1 0, .ptr b2 0, .ptr b3 0] σ (.bool (filtB at_ to p x)) σ := by
  refine ret_of c187_ok rfl ?_
  simp (disch := omega) only [c187, filC, go_sem, ↓if_pos, ne_eq, ↓reduceIte]
  refine SRun.boxR (by simp [ev, look, V.cells, V.one]) ?_
  intro b4 hb4
  have n1 : b1 ≠ b4 := fun e => by subst e; rw [h1] at hb4; cases hb4
  have n2 : b2 ≠ b4 := fun e => by subst e; rw [h2] at hb4; cases hb4
  have n3 : b3 ≠ b4 := fun e => by subst e; rw [h3] at hb4; cases hb4
  unfold filtB
  generalize h4 : decide (x.at_ = at_) = p1
  generalize h5 : decide (x.to = to) = p2
  cases p1 <;> cases p2
  case' true.true =>
    simp (disch := omega) only [h1, h2, h3, n1, n2, n3, h4, h5, go_sem, ↓if_pos, ne_eq, ↓reduceIte]
    refine SRun.callR (within_ok p x.low x.high) ⟨[], rfl, rfl⟩ rfl ?_
  all_goals
    simp (disch := omega) only [h1, h2, h3, n1, n2, n3, h4, h5, go_sem, ↓if_pos, ne_eq, ↓reduceIte]
    exact W_retC c187_ok rfl (Conv.drop _ (le_upd hb4)) ⟨rfl, rfl⟩
theorem isFiltered_ok {n : Net} {at_ to p : Int} (hl : n.filters.length ≤ 1000000000000) : Ret Try.prog Γ 115 [netV n, .int .i64 at_, .int .i64 to, .int .i64 p] σ (.bool (n.filters.any (filtB at_ to p))) σ := by
  have e5 : (netC n)[5]? = some (.isl false 4 (filsV n.filters)) := rfl
  refine ret_of c115_ok rfl ?_
  simp (disch := omega) only [c115, netV, go_sem, ↓if_pos, ne_eq, ↓reduceIte]
  refine SRun.boxR (net_one n) ?_
  intro b4 hb4
  simp (disch := omega) only [go_sem, ↓if_pos, ne_eq, ↓reduceIte]
  refine SRun.boxR (by simp [ev, look, V.cells, V.one]) ?_
  intro b5 hb5
  simp (disch := omega) only [go_sem, ↓if_pos, ne_eq, ↓reduceIte]
  refine SRun.boxR (by simp [ev, look, V.cells, V.one]) ?_
  intro b6 hb6
  simp (disch := omega) only [go_sem, ↓if_pos, ne_eq, ↓reduceIte]
  refine SRun.boxR (by simp [ev, look, V.cells, V.one]) ?_
  intro b7 hb7
  simp (disch := omega) only [go_sem, ↓if_pos, ne_eq, ↓reduceIte]
  have n7 := upd_none.1 hb7
  have n7' := upd_none.1 n7.2
  have n7'' := upd_none.1 n7'.2
  have n6 := upd_none.1 hb6
  have n6' := upd_none.1 n6.2
  have n5 := upd_none.1 hb5
  have g4 : upd (upd (upd (upd σ b4 (netC n)) b5 [V.int .i64 at_]) b6 [V.int .i64 to]) b7 [V.int .i64 p] b4 = some (netC n) := by rw [upd_ne _ _ n7''.1.symm, upd_ne _ _ n6'.1.symm, upd_ne _ _ n5.1.symm, upd_same]
  have g5 : upd (upd (upd (upd σ b4 (netC n)) b5 [V.int .i64 at_]) b6 [V.int .i64 to]) b7 [V.int .i64 p] b5 = some [V.int .i64 at_] := by rw [upd_ne _ _ n7'.1.symm, upd_ne _ _ n6.1.symm, upd_same]
  have g6 : upd (upd (upd (upd σ b4 (netC n)) b5 [V.int .i64 at_]) b6 [V.int .i64 to]) b7 [V.int .i64 p] b6 = some [V.int .i64 to] := by rw [upd_ne _ _ n7.1.symm, upd_same]
  have g7 := upd_same (upd (upd (upd σ b4 (netC n)) b5 [V.int .i64 at_]) b6 [V.int .i64 to]) b7 [V.int .i64 p]
  have hσ : ∀ d z, σ d = some z → upd (upd (upd (upd σ b4 (netC n)) b5 [V.int .i64 at_]) b6 [V.int .i64 to]) b7 [V.int .i64 p] d = some z := fun d z h => le_upd hb7 _ _ (le_upd hb6 _ _ (le_upd hb5 _ _ (le_upd hb4 _ _ h)))
  generalize upd (upd (upd (upd σ b4 (netC n)) b5 [V.int .i64 at_]) b6 [V.int .i64 to]) b7 [V.int .i64 p] = s1 at *
  simp (disch := omega) only [g4, e5, go_sem, ↓if_pos, ne_eq, ↓reduceIte]
  refine SRun.callR (containsFi_ok (ex := false) (xs := n.filters) (F := 187) (caps := [.ptr b5 0, .ptr b6 0, .ptr b7 0]) (p := filtB at_ to p) hl fun x _ => isFiltered1_ok g5 g6 g7) ⟨[], rfl, rfl⟩ rfl ?_
  simp (disch := omega) only [go_sem, ↓if_pos, ne_eq, ↓reduceIte]
  exact W_retC c115_ok rfl (Conv.drop _ hσ) ⟨rfl, rfl⟩
theorem any_takeD {α : Type} [Inhabited α] {p : α → Bool} {xs : List α} {i : Nat} (hi : i < xs.length) (h : (xs.take i).any p = false) (hp : p (xs.getD i default) = false) : (xs.take (i + 1)).any p = false := by
  rw [take_succ default hi, List.any_append, h, List.any_cons, hp]; rfl
theorem any_trueD {α : Type} [Inhabited α] {p : α → Bool} {xs : List α} {i : Nat} (hi : i < xs.length) (hp : p (xs.getD i default) = true) : xs.any p = true := by
  rw [List.any_eq_true]; exact ⟨_, getD_mem default hi, hp⟩
theorem l08Filtered_ok {n : Net} {at_ to p : Int} (hl : n.filters.length ≤ 1000000000000) : Ret Try.prog Γ 116 [netV n, .int .i64 at_, .int .i64 to, .int .i64 p] σ (.bool (n.filters.any (filtB at_ to p))) σ := by
  have e5 : (netC n)[5]? = some (.isl false 4 (filsV n.filters)) := rfl
  refine ret_of c116_ok rfl ?_
  simp (disch := omega) only [c116, netV, go_sem, ↓if_pos, ne_eq, ↓reduceIte]
  refine SRun.boxR (net_one n) ?_
  intro b4 hb4
  have g4 := upd_same σ b4 (netC n)
  have hσ : ∀ d z, σ d = some z → upd σ b4 (netC n) d = some z := le_upd hb4
  simp (disch := omega) only [go_sem, ↓if_pos, ne_eq, ↓reduceIte]
  generalize upd σ b4 (netC n) = s1 at *
  refine W_loopC (α := Nat × St) (fun q => q.1 ≤ n.filters.length ∧ (n.filters.take q.1).any (filtB at_ to p) = false ∧ ∀ d x, s1 d = some x → q.2 d = some x) (fun q => [(1, .int .i64 at_), (2, .int .i64 to), (3, .int .i64 p), (4, .ptr b4 0), (9, .int .i64 (q.1 : Nat))]) (fun q => q.2) (fun q => n.filters.length - q.1) (0, s1) ⟨by omega, rfl, fun _ _ h => h⟩ (by simp (disch := omega) only [subT, Int.natCast_add, Int.cast_ofNat_Int, go_sem, ↓if_pos, ne_eq, ↓reduceIte] <;> (repeat' apply And.intro) <;> first | rfl | (congr 1; omega) | assumption) rfl ?_
  rintro ⟨i, s2⟩ ⟨hi, hall, hle2⟩ ih
  dsimp only at hi hall hle2
  have hσ2 : ∀ d x, σ d = some x → s2 d = some x := fun d x h => hle2 _ _ (hσ d x h)
  have g1 := hle2 _ _ g4
  simp (disch := omega) only [g1, e5, go_sem, ↓if_pos, ne_eq, ↓reduceIte]
  first | refine iteW_dec (fun hq => ?_) (fun hq => ?_) | refine iteW_of (fun hq => ?_) (fun hq => ?_)
  · have hnx := any_takeD (xs := n.filters) (p := filtB at_ to p) (i := i) (by omega) hall
    have hyes := any_trueD (xs := n.filters) (p := filtB at_ to p) (i := i) (by omega)
    simp (disch := omega) only [g1, e5, go_sem, ↓if_pos, ne_eq, ↓reduceIte]
    generalize n.filters.getD i default = x at *
    have hdef : filtB at_ to p x = (decide (x.at_ = at_) && decide (x.to = to) && (decide (x.low ≤ p) && decide (p ≤ x.high))) := rfl
    refine SRun.allocR ?_
    intro b10 hb10
    have hσ3 : ∀ z, ∀ d x, σ d = some x → upd s2 b10 z d = some x := fun z d x h => le_upd hb10 _ _ (hσ2 d x h)
    have hfc : filC x = [.int .i64 x.at_, .int .i64 x.to, .int .i64 x.low, .int .i64 x.high] := rfl
    generalize h4 : decide (x.at_ = at_) = p1 at *
    generalize h5 : decide (x.to = to) = p2 at *
    cases p1 <;> cases p2
    case' true.true =>
      simp (disch := omega) only [hfc, h4, h5, go_sem, ↓if_pos, ne_eq, ↓reduceIte]
      refine SRun.callR (l01In_ok p x.low x.high) ⟨[], rfl, rfl⟩ rfl ?_
      generalize (decide (x.low ≤ p) && decide (p ≤ x.high)) = p3 at *
      cases p3
      case' true =>
        simp (disch := omega) only [go_sem, ↓if_pos, ne_eq, ↓reduceIte]
        exact W_retC c116_ok rfl (Conv.drop _ (hσ3 _)) ⟨by rw [hyes hdef]; rfl, rfl⟩
    all_goals
      simp (disch := omega) only [hfc, h4, h5, go_sem, ↓if_pos, ne_eq, ↓reduceIte]
      exact ih (i + 1, _) _ _ ⟨by simp only; omega, hnx (by rw [hdef]; rfl), fun d x h => le_upd hb10 _ _ (hle2 _ _ h)⟩ (by simp only; omega) (by simp (disch := omega) only [subT, Int.natCast_add, Int.cast_ofNat_Int, go_sem, ↓if_pos, ne_eq, ↓reduceIte] <;> (repeat' apply And.intro) <;> first | rfl | (congr 1; omega) | assumption) rfl
  · have hir : i = n.filters.length := by omega
    rw [hir, List.take_length] at hall
    rw [hall]
    simp (disch := omega) only [go_sem, ↓if_pos, ne_eq, ↓reduceIte]
    exact W_retC c116_ok rfl (Conv.drop _ hσ2) ⟨rfl, rfl⟩
/-- Where two answer differently first. -/
def apartP (f g : Int → Bool) : Option Nat := (List.range 16).findIdx? fun (i : Nat) => f i != g i
def apartA (f g : Int → Bool) : V := match apartP f g with | some i => .tup [.int .i64 i, .int .i64 0] | none => .tup [.int .i64 0, .int .i64 6]
theorem apart_some {f g : Int → Bool} {i : Nat} (hi : i < 16) (hno : ∀ j : Nat, j < i → f j = g j) (he : f i ≠ g i) : apartP f g = some i := by
  unfold apartP
  rw [List.findIdx?_eq_some_iff_getElem]
  refine ⟨by simpa using hi, by simpa using he, fun j hj => ?_⟩
  have := hno j hj
  simpa using this
theorem apart_none {f g : Int → Bool} (hno : ∀ j : Nat, j < 16 → f j = g j) : apartP f g = none := by
  unfold apartP
  rw [List.findIdx?_eq_none_iff]
  intro x hx
  have := hno x (List.mem_range.1 hx)
  simp [this]
def fApart (n : Net) (a t : Int) (m : Net) (b u : Int) : V :=
  if !(netB n && netB m) then .tup [.int .i64 0, .int .i64 1] else if !(routerB n.routers.length a && routerB n.routers.length t && routerB m.routers.length b && routerB m.routers.length u) then .tup [.int .i64 0, .int .i64 5]
  else apartA (fun p => n.filters.any (filtB a t p)) (fun p => m.filters.any (filtB b u p))
end
section
attribute [local irreducible] SRun DS DRun
variable {Γ : St} {σ σ0 : St}
theorem FilterApart_ok {n m : Net} {a t b u : Int} (hn : NetLen n) (hm : NetLen m) : Ret Try.prog Γ 45 [netV n, .int .i64 a, .int .i64 t, netV m, .int .i64 b, .int .i64 u] σ (fApart n a t m b u) σ := by
  have hlen : (netC n).take 6 = netC n := rfl
  have hlen2 : (netC n).length = 6 := rfl
  have hlen' : (netC m).take 6 = netC m := rfl
  have hlen2' : (netC m).length = 6 := rfl
  have e0 : (netC n)[0]? = some (.isl false 1 (strsV n.routers)) := rfl
  have e0' : (netC m)[0]? = some (.isl false 1 (strsV m.routers)) := rfl
  have l1 := hn.routers
  have l1' := hm.routers
  have hdef : fApart n a t m b u = (if !(netB n && netB m) then .tup [.int .i64 0, .int .i64 1] else if !(routerB n.routers.length a && routerB n.routers.length t && routerB m.routers.length b && routerB m.routers.length u) then .tup [.int .i64 0, .int .i64 5] else apartA (fun p => n.filters.any (filtB a t p)) (fun p => m.filters.any (filtB b u p))) := rfl
  refine ret_of c45_ok rfl ?_
  simp (disch := omega) only [c45, netV, go_sem, ↓if_pos, ne_eq, ↓reduceIte]
  refine SRun.boxR (net_one n) ?_
  intro b6 hb6
  simp (disch := omega) only [go_sem, ↓if_pos, ne_eq, ↓reduceIte]
  refine SRun.boxR (net_one m) ?_
  intro b9 hb9
  simp (disch := omega) only [go_sem, ↓if_pos, ne_eq, ↓reduceIte]
  have n9 := upd_none.1 hb9
  have g6 : upd (upd σ b6 (netC n)) b9 (netC m) b6 = some (netC n) := by rw [upd_ne _ _ n9.1.symm, upd_same]
  have g9 := upd_same (upd σ b6 (netC n)) b9 (netC m)
  have hσ : ∀ d z, σ d = some z → upd (upd σ b6 (netC n)) b9 (netC m) d = some z := fun d z h => le_upd hb9 _ _ (le_upd hb6 _ _ h)
  generalize upd (upd σ b6 (netC n)) b9 (netC m) = s1 at *
  simp (disch := omega) only [g6, hlen, hlen2, go_sem, ↓if_pos, ne_eq, ↓reduceIte]
  refine SRun.callR (isNet_ok hn) ⟨[], rfl, rfl⟩ rfl ?_
  generalize netB n = q1 at *
  cases q1 with
  | false =>
    rw [hdef]
    simp (disch := omega) only [go_sem, ↓if_pos, ne_eq, ↓reduceIte]
    exact W_retC c45_ok rfl (Conv.drop _ hσ) ⟨rfl, rfl⟩
  | true =>
  simp (disch := omega) only [g9, hlen', hlen2', go_sem, ↓if_pos, ne_eq, ↓reduceIte]
  refine SRun.callR (isNet_ok hm) ⟨[], rfl, rfl⟩ rfl ?_
  generalize netB m = q2 at *
  cases q2 with
  | false =>
    rw [hdef]
    simp (disch := omega) only [go_sem, ↓if_pos, ne_eq, ↓reduceIte]
    exact W_retC c45_ok rfl (Conv.drop _ hσ) ⟨rfl, rfl⟩
  | true =>
  simp (disch := omega) only [g6, hlen, hlen2, e0, go_sem, ↓if_pos, ne_eq, ↓reduceIte]
  refine SRun.callR (isRouter_ok (n := n) (x := a) l1) ⟨[], rfl, rfl⟩ rfl ?_
  generalize routerB n.routers.length a = r0 at *
  cases r0 with
  | false =>
    rw [hdef]
    simp (disch := omega) only [go_sem, ↓if_pos, ne_eq, ↓reduceIte]
    refine W_retC c45_ok rfl (Conv.drop _ hσ) ⟨?_, rfl⟩
    simp [look]
  | true =>
  simp (disch := omega) only [g6, hlen, hlen2, e0, go_sem, ↓if_pos, ne_eq, ↓reduceIte]
  refine SRun.callR (isRouter_ok (n := n) (x := t) l1) ⟨[], rfl, rfl⟩ rfl ?_
  generalize routerB n.routers.length t = r1 at *
  cases r1 with
  | false =>
    rw [hdef]
    simp (disch := omega) only [go_sem, ↓if_pos, ne_eq, ↓reduceIte]
    refine W_retC c45_ok rfl (Conv.drop _ hσ) ⟨?_, rfl⟩
    simp [look]
  | true =>
  simp (disch := omega) only [g9, hlen', hlen2', e0', go_sem, ↓if_pos, ne_eq, ↓reduceIte]
  refine SRun.callR (isRouter_ok (n := m) (x := b) l1') ⟨[], rfl, rfl⟩ rfl ?_
  generalize routerB m.routers.length b = r2 at *
  cases r2 with
  | false =>
    rw [hdef]
    simp (disch := omega) only [go_sem, ↓if_pos, ne_eq, ↓reduceIte]
    refine W_retC c45_ok rfl (Conv.drop _ hσ) ⟨?_, rfl⟩
    simp [look]
  | true =>
  simp (disch := omega) only [g9, hlen', hlen2', e0', go_sem, ↓if_pos, ne_eq, ↓reduceIte]
  refine SRun.callR (isRouter_ok (n := m) (x := u) l1') ⟨[], rfl, rfl⟩ rfl ?_
  generalize routerB m.routers.length u = r3 at *
  cases r3 with
  | false =>
    rw [hdef]
    simp (disch := omega) only [go_sem, ↓if_pos, ne_eq, ↓reduceIte]
    refine W_retC c45_ok rfl (Conv.drop _ hσ) ⟨?_, rfl⟩
    simp [look]
  | true =>
  have hdef2 : fApart n a t m b u = apartA (fun p => n.filters.any (filtB a t p)) (fun p => m.filters.any (filtB b u p)) := hdef
  rw [hdef2]
  clear hdef hdef2
  simp (disch := omega) only [go_sem, ↓if_pos, ne_eq, ↓reduceIte]
  refine W_loopC (α := Nat) (fun i => i ≤ 16 ∧ ∀ j : Nat, j < i → n.filters.any (filtB a t j) = m.filters.any (filtB b u j)) (fun i => [(1, .int .i64 a), (2, .int .i64 t), (4, .int .i64 b), (5, .int .i64 u), (6, .ptr b6 0), (9, .ptr b9 0), (47, .int .i64 (i : Nat))]) (fun _ => s1) (fun i => 16 - i) 0 ⟨by omega, fun j hj => by omega⟩ (by simp (disch := omega) only [subT, Int.natCast_add, Int.cast_ofNat_Int, go_sem, ↓if_pos, ne_eq, ↓reduceIte] <;> (repeat' apply And.intro) <;> first | rfl | (congr 1; omega) | assumption) rfl ?_
  rintro i ⟨hi, hno⟩ ih
  simp (disch := omega) only [go_sem, ↓if_pos, ne_eq, ↓reduceIte]
  first | refine iteW_dec (fun hq => ?_) (fun hq => ?_) | refine iteW_of (fun hq => ?_) (fun hq => ?_)
  · simp (disch := omega) only [go_sem, ↓if_pos, ne_eq, ↓reduceIte]
    refine W_drawW ?_
    refine DRun.mixE rfl ?_
    simp (disch := omega) only [g6, g9, hlen, hlen', hlen2, hlen2', go_sem, ↓if_pos, ne_eq, ↓reduceIte]
    refine DS.callB (isFiltered_ok (n := n) hn.filters) ⟨[], rfl, rfl⟩ rfl rfl ?_
    simp (disch := omega) only [go_sem, ↓if_pos, ne_eq, ↓reduceIte]
    refine DRun.callQ (isFiltered_ok (n := m) hm.filters) ⟨[], rfl, rfl⟩ ?_
    rintro r s ⟨rfl, hs⟩
    obtain rfl := hs.symm
    by_cases he : n.filters.any (filtB a t i) = m.filters.any (filtB b u i)
    · have hx : (!(n.filters.any (filtB a t i) == m.filters.any (filtB b u i))) = false := by rw [he]; simp
      simp (disch := omega) only [hx, go_sem, ↓if_pos, ne_eq, ↓reduceIte]
      refine ih (i + 1) _ _ ⟨by omega, fun j hj => ?_⟩ (by omega) (by simp (disch := omega) only [subT, Int.natCast_add, Int.cast_ofNat_Int, go_sem, ↓if_pos, ne_eq, ↓reduceIte] <;> (repeat' apply And.intro) <;> first | rfl | (congr 1; omega) | assumption) rfl
      by_cases e : j = i
      · subst e; exact he
      · exact hno j (by omega)
    · have hx : (!(n.filters.any (filtB a t i) == m.filters.any (filtB b u i))) = true := by simpa using he
      simp (disch := omega) only [hx, go_sem, ↓if_pos, ne_eq, ↓reduceIte]
      refine W_retC c45_ok rfl (Conv.drop _ hσ) ⟨?_, rfl⟩
      unfold apartA
      rw [apart_some (f := fun p => n.filters.any (filtB a t p)) (g := fun p => m.filters.any (filtB b u p)) (by omega) hno he]
      rfl
  · have hi16 : i = 16 := by omega
    subst hi16
    simp (disch := omega) only [go_sem, ↓if_pos, ne_eq, ↓reduceIte]
    refine W_retC c45_ok rfl (Conv.drop _ hσ) ⟨?_, rfl⟩
    unfold apartA
    rw [apart_none (f := fun p => n.filters.any (filtB a t p)) (g := fun p => m.filters.any (filtB b u p)) hno]
    rfl
theorem FilterAparts_ok {n m : Net} {a t b u : Int} (hn : NetLen n) (hm : NetLen m) : Ret Try.prog Γ 46 [netV n, .int .i64 a, .int .i64 t, netV m, .int .i64 b, .int .i64 u] σ (fApart n a t m b u) σ := by
  have hlen : (netC n).take 6 = netC n := rfl
  have hlen2 : (netC n).length = 6 := rfl
  have hlen' : (netC m).take 6 = netC m := rfl
  have hlen2' : (netC m).length = 6 := rfl
  have e0 : (netC n)[0]? = some (.isl false 1 (strsV n.routers)) := rfl
  have e0' : (netC m)[0]? = some (.isl false 1 (strsV m.routers)) := rfl
  have l1 := hn.routers
  have l1' := hm.routers
  have hdef : fApart n a t m b u = (if !(netB n && netB m) then .tup [.int .i64 0, .int .i64 1] else if !(routerB n.routers.length a && routerB n.routers.length t && routerB m.routers.length b && routerB m.routers.length u) then .tup [.int .i64 0, .int .i64 5] else apartA (fun p => n.filters.any (filtB a t p)) (fun p => m.filters.any (filtB b u p))) := rfl
  refine ret_of c46_ok rfl ?_
  simp (disch := omega) only [c46, netV, go_sem, ↓if_pos, ne_eq, ↓reduceIte]
  refine SRun.boxR (net_one n) ?_
  intro b6 hb6
  simp (disch := omega) only [go_sem, ↓if_pos, ne_eq, ↓reduceIte]
  refine SRun.boxR (net_one m) ?_
  intro b9 hb9
  simp (disch := omega) only [go_sem, ↓if_pos, ne_eq, ↓reduceIte]
  have n9 := upd_none.1 hb9
  have g6 : upd (upd σ b6 (netC n)) b9 (netC m) b6 = some (netC n) := by rw [upd_ne _ _ n9.1.symm, upd_same]
  have g9 := upd_same (upd σ b6 (netC n)) b9 (netC m)
  have hσ : ∀ d z, σ d = some z → upd (upd σ b6 (netC n)) b9 (netC m) d = some z := fun d z h => le_upd hb9 _ _ (le_upd hb6 _ _ h)
  generalize upd (upd σ b6 (netC n)) b9 (netC m) = s1 at *
  simp (disch := omega) only [g6, hlen, hlen2, go_sem, ↓if_pos, ne_eq, ↓reduceIte]
  refine SRun.callR (NetOK_ok hn) ⟨[], rfl, rfl⟩ rfl ?_
  generalize netB n = q1 at *
  cases q1 with
  | false =>
    rw [hdef]
    simp (disch := omega) only [go_sem, ↓if_pos, ne_eq, ↓reduceIte]
    exact W_retC c46_ok rfl (Conv.drop _ hσ) ⟨rfl, rfl⟩
  | true =>
  simp (disch := omega) only [g9, hlen', hlen2', go_sem, ↓if_pos, ne_eq, ↓reduceIte]
  refine SRun.callR (NetOK_ok hm) ⟨[], rfl, rfl⟩ rfl ?_
  generalize netB m = q2 at *
  cases q2 with
  | false =>
    rw [hdef]
    simp (disch := omega) only [go_sem, ↓if_pos, ne_eq, ↓reduceIte]
    exact W_retC c46_ok rfl (Conv.drop _ hσ) ⟨rfl, rfl⟩
  | true =>
  simp (disch := omega) only [g6, hlen, hlen2, e0, go_sem, ↓if_pos, ne_eq, ↓reduceIte]
  refine SRun.callR (l01In_ok a 0 ((n.routers.length : Int) - 1)) ⟨[], rfl, rfl⟩ rfl ?_
  rw [show (decide (0 ≤ a) && decide (a ≤ (n.routers.length : Int) - 1)) = routerB n.routers.length a from rfl]
  generalize routerB n.routers.length a = r0 at *
  cases r0 with
  | false =>
    rw [hdef]
    simp (disch := omega) only [go_sem, ↓if_pos, ne_eq, ↓reduceIte]
    refine W_retC c46_ok rfl (Conv.drop _ hσ) ⟨?_, rfl⟩
    simp [look]
  | true =>
  simp (disch := omega) only [g6, hlen, hlen2, e0, go_sem, ↓if_pos, ne_eq, ↓reduceIte]
  refine SRun.callR (l01In_ok t 0 ((n.routers.length : Int) - 1)) ⟨[], rfl, rfl⟩ rfl ?_
  rw [show (decide (0 ≤ t) && decide (t ≤ (n.routers.length : Int) - 1)) = routerB n.routers.length t from rfl]
  generalize routerB n.routers.length t = r1 at *
  cases r1 with
  | false =>
    rw [hdef]
    simp (disch := omega) only [go_sem, ↓if_pos, ne_eq, ↓reduceIte]
    refine W_retC c46_ok rfl (Conv.drop _ hσ) ⟨?_, rfl⟩
    simp [look]
  | true =>
  simp (disch := omega) only [g9, hlen', hlen2', e0', go_sem, ↓if_pos, ne_eq, ↓reduceIte]
  refine SRun.callR (l01In_ok b 0 ((m.routers.length : Int) - 1)) ⟨[], rfl, rfl⟩ rfl ?_
  rw [show (decide (0 ≤ b) && decide (b ≤ (m.routers.length : Int) - 1)) = routerB m.routers.length b from rfl]
  generalize routerB m.routers.length b = r2 at *
  cases r2 with
  | false =>
    rw [hdef]
    simp (disch := omega) only [go_sem, ↓if_pos, ne_eq, ↓reduceIte]
    refine W_retC c46_ok rfl (Conv.drop _ hσ) ⟨?_, rfl⟩
    simp [look]
  | true =>
  simp (disch := omega) only [g9, hlen', hlen2', e0', go_sem, ↓if_pos, ne_eq, ↓reduceIte]
  refine SRun.callR (l01In_ok u 0 ((m.routers.length : Int) - 1)) ⟨[], rfl, rfl⟩ rfl ?_
  rw [show (decide (0 ≤ u) && decide (u ≤ (m.routers.length : Int) - 1)) = routerB m.routers.length u from rfl]
  generalize routerB m.routers.length u = r3 at *
  cases r3 with
  | false =>
    rw [hdef]
    simp (disch := omega) only [go_sem, ↓if_pos, ne_eq, ↓reduceIte]
    refine W_retC c46_ok rfl (Conv.drop _ hσ) ⟨?_, rfl⟩
    simp [look]
  | true =>
  have hdef2 : fApart n a t m b u = apartA (fun p => n.filters.any (filtB a t p)) (fun p => m.filters.any (filtB b u p)) := hdef
  rw [hdef2]
  clear hdef hdef2
  simp (disch := omega) only [go_sem, ↓if_pos, ne_eq, ↓reduceIte]
  refine W_loopC (α := Nat) (fun i => i ≤ 16 ∧ ∀ j : Nat, j < i → n.filters.any (filtB a t j) = m.filters.any (filtB b u j)) (fun i => [(1, .int .i64 a), (2, .int .i64 t), (4, .int .i64 b), (5, .int .i64 u), (6, .ptr b6 0), (9, .ptr b9 0), (14, .int .i64 (i : Nat))]) (fun _ => s1) (fun i => 16 - i) 0 ⟨by omega, fun j hj => by omega⟩ (by simp (disch := omega) only [subT, Int.natCast_add, Int.cast_ofNat_Int, go_sem, ↓if_pos, ne_eq, ↓reduceIte] <;> (repeat' apply And.intro) <;> first | rfl | (congr 1; omega) | assumption) rfl ?_
  rintro i ⟨hi, hno⟩ ih
  simp (disch := omega) only [go_sem, ↓if_pos, ne_eq, ↓reduceIte]
  first | refine iteW_dec (fun hq => ?_) (fun hq => ?_) | refine iteW_of (fun hq => ?_) (fun hq => ?_)
  · simp (disch := omega) only [go_sem, ↓if_pos, ne_eq, ↓reduceIte]
    refine W_drawW ?_
    refine DRun.mixE rfl ?_
    simp (disch := omega) only [g6, g9, hlen, hlen', hlen2, hlen2', go_sem, ↓if_pos, ne_eq, ↓reduceIte]
    refine DS.callB (l08Filtered_ok (n := n) hn.filters) ⟨[], rfl, rfl⟩ rfl rfl ?_
    simp (disch := omega) only [go_sem, ↓if_pos, ne_eq, ↓reduceIte]
    refine DRun.callQ (l08Filtered_ok (n := m) hm.filters) ⟨[], rfl, rfl⟩ ?_
    rintro r s ⟨rfl, hs⟩
    obtain rfl := hs.symm
    by_cases he : n.filters.any (filtB a t i) = m.filters.any (filtB b u i)
    · have hx : (!(n.filters.any (filtB a t i) == m.filters.any (filtB b u i))) = false := by rw [he]; simp
      simp (disch := omega) only [hx, go_sem, ↓if_pos, ne_eq, ↓reduceIte]
      refine ih (i + 1) _ _ ⟨by omega, fun j hj => ?_⟩ (by omega) (by simp (disch := omega) only [subT, Int.natCast_add, Int.cast_ofNat_Int, go_sem, ↓if_pos, ne_eq, ↓reduceIte] <;> (repeat' apply And.intro) <;> first | rfl | (congr 1; omega) | assumption) rfl
      by_cases e : j = i
      · subst e; exact he
      · exact hno j (by omega)
    · have hx : (!(n.filters.any (filtB a t i) == m.filters.any (filtB b u i))) = true := by simpa using he
      simp (disch := omega) only [hx, go_sem, ↓if_pos, ne_eq, ↓reduceIte]
      refine W_retC c46_ok rfl (Conv.drop _ hσ) ⟨?_, rfl⟩
      unfold apartA
      rw [apart_some (f := fun p => n.filters.any (filtB a t p)) (g := fun p => m.filters.any (filtB b u p)) (by omega) hno he]
      rfl
  · have hi16 : i = 16 := by omega
    subst hi16
    simp (disch := omega) only [go_sem, ↓if_pos, ne_eq, ↓reduceIte]
    refine W_retC c46_ok rfl (Conv.drop _ hσ) ⟨?_, rfl⟩
    unfold apartA
    rw [apart_none (f := fun p => n.filters.any (filtB a t p)) (g := fun p => m.filters.any (filtB b u p)) hno]
    rfl
end
section
attribute [local irreducible] SRun DS DRun
variable {Γ : St} {σ σ0 : St}
def zeroE : Ex := .mk 0 0 []
theorem zeroE_frz {σ σ' : St} : Frz σ σ' (.agg [.int .i64 0, .int .i64 0, .isl true 0 []]) (exV zeroE) := exV_conv (frz_nil _ _)
def exA (e : Ex) : V := bif okE e then .tup [exV e, .int .i64 0] else .tup [exV zeroE, .int .i64 11]
theorem resV_2E {T : Ts} {a nn b p : Nat} {cs : List V} (h : look T a = .ptr b 0) (hb : σ b = some cs) (hl : nn = cs.length) : resV [.cell a true nn, .t p] T σ = some (.tup [.agg cs, look T p]) := by
  subst hl
  simp [resV, resV1, h, hb]
theorem checkedEx_ok {e : Ex} (hsz : sizeE e ≤ 1000000) : Ret Try.prog Γ 112 [exV e] σ (exA e) σ := by
  refine ret_of c112_ok rfl ?_
  simp (disch := omega) only [c112, go_sem, ↓if_pos, ne_eq, ↓reduceIte]
  refine SRun.boxR (by show ∀ c ∈ (exV e).cells, _; rw [cells_exV]; exact exC_one e) ?_
  intro b1 hb1
  simp (disch := omega) only [go_sem, ↓if_pos, ne_eq, ↓reduceIte]
  refine SRun.allocR ?_
  intro b2 hb2
  have n21 := (upd_none.1 hb2).1
  have g1 : upd (upd σ b1 (exC e)) b2 [.int .i64 0, .int .i64 0, .isl true 0 []] b1 = some (exC e) := by rw [upd_ne _ _ n21.symm, upd_same]
  have g2 := upd_same (upd σ b1 (exC e)) b2 [.int .i64 0, .int .i64 0, .isl true 0 []]
  have hσ : ∀ d x, σ d = some x → d ≠ b2 ∧ upd (upd σ b1 (exC e)) b2 [.int .i64 0, .int .i64 0, .isl true 0 []] d = some x := fun d x h => ⟨fun e => by (subst e; rw [(upd_none.1 hb2).2] at h; cases h), le_upd hb2 _ _ (le_upd hb1 _ _ h)⟩
  generalize upd (upd σ b1 (exC e)) b2 [.int .i64 0, .int .i64 0, .isl true 0 []] = s1 at *
  simp (disch := omega) only [g1, go_sem, ↓if_pos, ne_eq, ↓reduceIte]
  refine SRun.callR (isEx_ok (e := e) hsz) ⟨[], rfl, rfl⟩ rfl ?_
  simp (disch := omega) only [List.getD_cons_zero, List.getD_cons_succ, go_sem, ↓if_pos, ne_eq, ↓reduceIte]
  have hA : exA e = bif okE e then .tup [exV e, .int .i64 0] else .tup [exV zeroE, .int .i64 11] := rfl
  generalize okE e = q at *
  cases q with
  | false =>
    simp (disch := omega) only [g2, go_sem, ↓if_pos, ne_eq, ↓reduceIte]
    exact W_retC c112_ok (r := .tup [.agg [.int .i64 0, .int .i64 0, .isl true 0 []], .int .i64 11]) (r' := .tup [exV zeroE, .int .i64 11]) (σ' := σ) (resV_2E rfl (upd_same _ _ _) rfl) ⟨fun d x hd => by rw [upd_ne _ _ (hσ d x hd).1]; exact (hσ d x hd).2, frz_tup (by exact ⟨zeroE_frz, .refl _, trivial⟩)⟩ ⟨hA.symm, rfl⟩
  | true =>
    simp (disch := omega) only [g1, go_sem, ↓if_pos, ne_eq, ↓reduceIte]
    refine SRun.callR (cloneEx_ok e hsz) ⟨[], rfl, rfl⟩ rfl ?_
    simp (disch := omega) only [List.getD_cons_zero, List.getD_cons_succ, go_sem, ↓if_pos, ne_eq, ↓reduceIte]
    simp (disch := omega) only [g2, go_sem, ↓if_pos, ne_eq, ↓reduceIte]
    exact W_retC c112_ok (r := .tup [.agg (exC e), .int .i64 0]) (r' := .tup [exV e, .int .i64 0]) (σ' := σ) (resV_2E rfl (upd_same _ _ _) (exC_len e).symm) ⟨fun d x hd => by rw [upd_ne _ _ (hσ d x hd).1]; exact (hσ d x hd).2, frz_tup (by exact ⟨by rw [agg_exC]; exact .refl _, .refl _, trivial⟩)⟩ ⟨hA.symm, rfl⟩
def bits4 (n : Int) : List Ex := (List.range 4).map fun i => constE (bitI n i)
def port4 : List Ex := (List.range 4).map fun i => varE (i : Nat)
def stepE (a t : Int) (e : Ex) (x : Fil) : Ex := bif decide (x.at_ = a) && decide (x.to = t) then nodeE 5 [e, nodeE 4 [nodeE 3 [lessE port4 (bits4 x.low) 4], nodeE 3 [lessE (bits4 x.high) port4 4]]] else e
def filE (a t : Int) (fs : List Fil) : Ex := fs.foldl (stepE a t) (constE 0)
theorem filE_succ {a t : Int} {fs : List Fil} {i : Nat} (h : i < fs.length) : filE a t (fs.take (i + 1)) = stepE a t (filE a t (fs.take i)) (fs.getD i default) := by
  rw [take_succ default h]; simp only [filE, List.foldl_append, List.foldl_cons, List.foldl_nil]
theorem less_size {us ws : List Ex} (hu : ∀ e ∈ us, sizeE e ≤ 1) (hw : ∀ e ∈ ws, sizeE e ≤ 1) : ∀ i, i ≤ us.length → i ≤ ws.length → sizeE (lessE us ws i) ≤ 1 + 10 * i := by
  intro i
  induction i with
  | zero => intro _ _; simp [lessE, constE, sizeE, sizeL]
  | succ i ih =>
    intro h1 h2
    have := ih (by omega) (by omega)
    have := hu _ (getD_mem default (by omega : i < us.length))
    have := hw _ (getD_mem default (by omega : i < ws.length))
    simp only [lessE, nodeE, sizeE, sizeL]; omega
theorem bits4_size (n : Int) : ∀ e ∈ bits4 n, sizeE e ≤ 1 := by
  intro e he; simp only [bits4, List.mem_map] at he; obtain ⟨i, _, rfl⟩ := he; simp [constE, sizeE, sizeL]
theorem port4_size : ∀ e ∈ port4, sizeE e ≤ 1 := by
  intro e he; simp only [port4, List.mem_map] at he; obtain ⟨i, _, rfl⟩ := he; simp [varE, sizeE, sizeL]
theorem filE_size (a t : Int) (fs : List Fil) : sizeE (filE a t fs) ≤ 1 + 90 * fs.length := by
  have : ∀ (fs : List Fil) (e : Ex), sizeE (fs.foldl (stepE a t) e) ≤ sizeE e + 90 * fs.length := by
    intro fs
    induction fs with
    | nil => intro e; simp
    | cons x r ih =>
      intro e
      have h := ih (stepE a t e x)
      have hs : sizeE (stepE a t e x) ≤ sizeE e + 90 := by
        unfold stepE
        cases (decide (x.at_ = a) && decide (x.to = t)) with
        | false => simp
        | true =>
          have h1 := less_size port4_size (bits4_size x.low) 4 (by decide) (by simp [bits4])
          have h2 := less_size (bits4_size x.high) port4_size 4 (by simp [bits4]) (by decide)
          simp only [cond_true, nodeE, sizeE, sizeL]; omega
      simp only [List.foldl_cons, List.length_cons]; omega
  have h := this fs (constE 0)
  have h1 : sizeE (constE 0) = 1 := by simp [constE, sizeE, sizeL]
  unfold filE; omega
def fEx (n : Net) (a t : Int) : V :=
  if !netB n then .tup [exV zeroE, .int .i64 1] else if !(routerB n.routers.length a && routerB n.routers.length t) then .tup [exV zeroE, .int .i64 5] else exA (filE a t n.filters)
set_option maxHeartbeats 2000000 in
theorem FilterEx_ok {n : Net} {a t : Int} (hn : NetLen n) : Ret Try.prog Γ 43 [netV n, .int .i64 a, .int .i64 t] σ (fEx n a t) σ := by
  have hlen : (netC n).take 6 = netC n := rfl
  have hlen2 : (netC n).length = 6 := rfl
  have e5 : (netC n)[5]? = some (.isl false 4 (filsV n.filters)) := rfl
  have l1 := hn.routers
  have l4 := hn.filters
  have hdef : fEx n a t = (if !netB n then .tup [exV zeroE, .int .i64 1] else if !(routerB n.routers.length a && routerB n.routers.length t) then .tup [exV zeroE, .int .i64 5] else exA (filE a t n.filters)) := rfl
  have hbn : netB n = true → n.filters.length ≤ 6 := fun h => by
    unfold netB at h
    simp only [Bool.and_eq_true, decide_eq_true_eq] at h
    exact h.1.1.1.1.1.1.1.2
  refine ret_of c43_ok rfl ?_
  simp (disch := omega) only [c43, netV, go_sem, ↓if_pos, ne_eq, ↓reduceIte]
  refine SRun.boxR (net_one n) ?_
  intro b3 hb3
  simp (disch := omega) only [go_sem, ↓if_pos, ne_eq, ↓reduceIte]
  refine SRun.allocR ?_
  intro b6 hb6
  have n63 := (upd_none.1 hb6).1
  have g3 : upd (upd σ b3 (netC n)) b6 [.int .i64 0, .int .i64 0, .isl true 0 []] b3 = some (netC n) := by rw [upd_ne _ _ n63.symm, upd_same]
  have g6 := upd_same (upd σ b3 (netC n)) b6 [.int .i64 0, .int .i64 0, .isl true 0 []]
  have hσ : ∀ d x, σ d = some x → d ≠ b6 ∧ upd (upd σ b3 (netC n)) b6 [.int .i64 0, .int .i64 0, .isl true 0 []] d = some x := fun d x h => ⟨fun e => by (subst e; rw [(upd_none.1 hb6).2] at h; cases h), le_upd hb6 _ _ (le_upd hb3 _ _ h)⟩
  simp (disch := omega) only [go_sem, ↓if_pos, ne_eq, ↓reduceIte]
  generalize upd (upd σ b3 (netC n)) b6 [.int .i64 0, .int .i64 0, .isl true 0 []] = s1 at *
  simp (disch := omega) only [g3, hlen, hlen2, go_sem, ↓if_pos, ne_eq, ↓reduceIte]
  refine SRun.callR (isNet_ok hn) ⟨[], rfl, rfl⟩ rfl ?_
  have zero : ∀ (s : St) (c : Int), (∀ d x, σ d = some x → d ≠ b6 ∧ s d = some x) → Conv (upd s b6 [.int .i64 0, .int .i64 0, .isl true 0 []]) (.tup [.agg [.int .i64 0, .int .i64 0, .isl true 0 []], .int .i64 c]) σ (.tup [exV zeroE, .int .i64 c]) := fun s c h =>
    ⟨fun d x hd => by rw [upd_ne _ _ (h d x hd).1]; exact (h d x hd).2, frz_tup (by exact ⟨zeroE_frz, .refl _, trivial⟩)⟩
  generalize netB n = q1 at *
  cases q1 with
  | false =>
    rw [hdef]
    simp (disch := omega) only [g6, go_sem, ↓if_pos, ne_eq, ↓reduceIte]
    exact W_retC c43_ok (r := .tup [.agg [.int .i64 0, .int .i64 0, .isl true 0 []], .int .i64 1]) (r' := .tup [exV zeroE, .int .i64 1]) (σ' := σ) (resV_2E rfl (upd_same _ _ _) rfl) (zero s1 1 hσ) ⟨rfl, rfl⟩
  | true =>
  have hf6 := hbn rfl
  simp (disch := omega) only [g3, hlen, hlen2, go_sem, ↓if_pos, ne_eq, ↓reduceIte]
  refine SRun.callR (isRouter_ok (n := n) (x := a) l1) ⟨[], rfl, rfl⟩ rfl ?_
  generalize routerB n.routers.length a = r1 at *
  cases r1 with
  | false =>
    rw [hdef]
    simp (disch := omega) only [g6, go_sem, ↓if_pos, ne_eq, ↓reduceIte]
    exact W_retC c43_ok (r := .tup [.agg [.int .i64 0, .int .i64 0, .isl true 0 []], .int .i64 5]) (r' := .tup [exV zeroE, .int .i64 5]) (σ' := σ) (resV_2E rfl (upd_same _ _ _) rfl) (zero s1 5 hσ) ⟨rfl, rfl⟩
  | true =>
  simp (disch := omega) only [g3, hlen, hlen2, go_sem, ↓if_pos, ne_eq, ↓reduceIte]
  refine SRun.callR (isRouter_ok (n := n) (x := t) l1) ⟨[], rfl, rfl⟩ rfl ?_
  generalize routerB n.routers.length t = r2 at *
  cases r2 with
  | false =>
    rw [hdef]
    simp (disch := omega) only [g6, go_sem, ↓if_pos, ne_eq, ↓reduceIte]
    exact W_retC c43_ok (r := .tup [.agg [.int .i64 0, .int .i64 0, .isl true 0 []], .int .i64 5]) (r' := .tup [exV zeroE, .int .i64 5]) (σ' := σ) (resV_2E rfl (upd_same _ _ _) rfl) (zero s1 5 hσ) ⟨rfl, rfl⟩
  | true =>
  have hdef2 : fEx n a t = exA (filE a t n.filters) := hdef
  rw [hdef2]
  clear hdef hdef2
  simp (disch := omega) only [go_sem, ↓if_pos, ne_eq, ↓reduceIte]
  refine W_loopC (α := Nat × V × St) (fun p => p.1 ≤ 4 ∧ RowF s1 3 (exsV ((List.range p.1).map fun i => varE (i : Nat))) p.2.1 p.2.2) (fun p => [(1, .int .i64 a), (2, .int .i64 t), (3, .ptr b3 0), (6, .ptr b6 0), (8, p.2.1), (32, .int .i64 (p.1 : Nat))]) (fun p => p.2.2) (fun p => 4 - p.1) (0, .isl true 0 [], s1) ⟨by simp, RowF.nil⟩ (by simp (disch := omega) only [subT, Int.natCast_add, Int.cast_ofNat_Int, go_sem, ↓if_pos, ne_eq, ↓reduceIte] <;> (repeat' apply And.intro) <;> first | rfl | (congr 1; omega) | assumption) rfl ?_
  rintro ⟨i, tt, s⟩ ⟨hi, ho⟩ ih
  dsimp only at hi ho
  simp (disch := omega) only [go_sem, ↓if_pos, ne_eq, ↓reduceIte]
  first | refine iteW_dec (fun hq => ?_) (fun hq => ?_) | refine iteW_of (fun hq => ?_) (fun hq => ?_)
  · obtain ⟨ys, hy1, hy2, hy3⟩ := ho
    rw [exsV_len, List.length_map, List.length_range] at hy2
    simp (disch := omega) only [go_sem, ↓if_pos, ne_eq, ↓reduceIte]
    refine SRun.appL hy1 rfl (rawVar_ok _) (by simp only [List.length_singleton]; omega) ?_
    intro t2 s2 ho2
    have hrow : RowF s1 3 (exsV ((List.range (i + 1)).map fun i => varE (i : Nat))) t2 s2 := by
      refine ⟨_, ho2, by simp [exsV_len, hy2], fun σ σ' => ?_⟩
      rw [flat_app1, show (List.range (i + 1)).map (fun i => varE (i : Nat)) = (List.range i).map (fun i => varE (i : Nat)) ++ [varE (i : Nat)] by simp [List.range_succ], ← exs_app, flat_app1]
      exact frzL_app (hy3 _ _) (rawVar_frz _)
    simp (disch := omega) only [go_sem, ↓if_pos, ne_eq, ↓reduceIte]
    exact ih (i + 1, t2, s2) _ _ ⟨by simp only; omega, hrow⟩ (by simp only; omega) (by simp (disch := omega) only [subT, Int.natCast_add, Int.cast_ofNat_Int, go_sem, ↓if_pos, ne_eq, ↓reduceIte] <;> (repeat' apply And.intro) <;> first | rfl | (congr 1; omega) | assumption) rfl
  · have hi4 : i = 4 := by omega
    subst hi4
    have hfr : Frz s s1 tt (.isl false 3 (exsV port4)) := ho.frz (exsV_ok _) (fun _ _ => rfl) (fun _ h => h)
    obtain ⟨ys, hy1, hy2, hy3⟩ := ho
    clear ih hq
    simp (disch := omega) only [go_sem, ↓if_pos, ne_eq, ↓reduceIte]
    refine SRun.freeze (T' := [(1, .int .i64 a), (2, .int .i64 t), (3, .ptr b3 0), (6, .ptr b6 0), (8, .isl false 3 (exsV port4))]) (σ' := s1) hy1.le ⟨.refl _, .refl _, .refl _, .refl _, hfr, trivial⟩ ?_
    clear hy1 hy2 hy3 hfr
    refine SRun.callR (constEx_ok (n := 0)) ⟨[], rfl, rfl⟩ rfl ?_
    simp (disch := omega) only [List.getD_cons_zero, List.getD_cons_succ, go_sem, ↓if_pos, ne_eq, ↓reduceIte]
    refine SRun.allocR ?_
    intro b10 hb10
    have n103 : b10 ≠ b3 := fun e => by subst e; rw [g3] at hb10; cases hb10
    have n106 : b10 ≠ b6 := fun e => by subst e; rw [g6] at hb10; cases hb10
    have h3 := le_upd (cs := exC (constE 0)) hb10 _ _ g3
    have h6 := le_upd (cs := exC (constE 0)) hb10 _ _ g6
    have h10 := upd_same s1 b10 (exC (constE 0))
    have hσ2 : ∀ d x, σ d = some x → d ≠ b6 ∧ d ≠ b10 ∧ upd s1 b10 (exC (constE 0)) d = some x := fun d x h => ⟨(hσ d x h).1, fun e => by (subst e; rw [(hσ _ _ h).2] at hb10; cases hb10), le_upd hb10 _ _ (hσ d x h).2⟩
    simp (disch := omega) only [go_sem, ↓if_pos, ne_eq, ↓reduceIte]
    generalize upd s1 b10 (exC (constE 0)) = s2 at *
    simp (disch := omega) only [g3, e5, go_sem, ↓if_pos, ne_eq, ↓reduceIte]
    have hf0 : filE a t (n.filters.take 0) = constE 0 := rfl
    rw [← hf0] at h10
    refine W_loopC (α := Nat × St) (fun p => p.1 ≤ n.filters.length ∧ p.2 b3 = some (netC n) ∧ p.2 b6 = some [.int .i64 0, .int .i64 0, .isl true 0 []] ∧ p.2 b10 = some (exC (filE a t (n.filters.take p.1))) ∧ ∀ d x, σ d = some x → p.2 d = some x) (fun p => [(1, .int .i64 a), (2, .int .i64 t), (3, .ptr b3 0), (6, .ptr b6 0), (8, .isl false 3 (exsV port4)), (10, .ptr b10 0), (43, .isl false 4 (filsV n.filters)), (44, .int .i64 n.filters.length), (45, .int .i64 (p.1 : Nat))]) (fun p => p.2) (fun p => n.filters.length - p.1) (0, s2) ⟨by omega, h3, h6, h10, fun d x h => (hσ2 d x h).2.2⟩ (by simp (disch := omega) only [subT, Int.natCast_add, Int.cast_ofNat_Int, go_sem, ↓if_pos, ne_eq, ↓reduceIte] <;> (repeat' apply And.intro) <;> first | rfl | (congr 1; omega) | assumption) rfl ?_
    clear h3 h6 h10 hf0
    rintro ⟨k, s3⟩ ⟨hk, h3, h6, h10, hle⟩ ih
    dsimp only at hk h3 h6 h10 hle
    simp (disch := omega) only [go_sem, ↓if_pos, ne_eq, ↓reduceIte]
    first | refine iteW_dec (fun hq => ?_) (fun hq => ?_) | refine iteW_of (fun hq => ?_) (fun hq => ?_)
    · have hsucc := filE_succ (a := a) (t := t) (fs := n.filters) (i := k) (by omega)
      simp (disch := omega) only [go_sem, ↓if_pos, ne_eq, ↓reduceIte]
      generalize n.filters.getD k default = x at *
      have hstep : stepE a t (filE a t (n.filters.take k)) x = bif decide (x.at_ = a) && decide (x.to = t) then nodeE 5 [filE a t (n.filters.take k), nodeE 4 [nodeE 3 [lessE port4 (bits4 x.low) 4], nodeE 3 [lessE (bits4 x.high) port4 4]]] else filE a t (n.filters.take k) := rfl
      rw [hstep] at hsucc
      generalize filE a t (n.filters.take k) = e at *
      refine SRun.allocR ?_
      intro b12 hb12
      have hfc : filC x = [.int .i64 x.at_, .int .i64 x.to, .int .i64 x.low, .int .i64 x.high] := rfl
      have k3 := le_upd (cs := filC x) hb12 _ _ h3
      have k6 := le_upd (cs := filC x) hb12 _ _ h6
      have k10 := le_upd (cs := filC x) hb12 _ _ h10
      have kσ : ∀ d y, σ d = some y → upd s3 b12 (filC x) d = some y := fun d y h => le_upd hb12 _ _ (hle d y h)
      have k12 := upd_same s3 b12 (filC x)
      rw [hfc] at k3 k6 k10 kσ k12
      generalize hp1 : decide (x.at_ = a) = p1 at *
      generalize hp2 : decide (x.to = t) = p2 at *
      cases p1 with
      | false =>
        cases p2
        all_goals
          simp (disch := omega) only [hfc, hp1, hp2, go_sem, ↓if_pos, ne_eq, ↓reduceIte]
          exact ih (k + 1, upd s3 b12 [.int .i64 x.at_, .int .i64 x.to, .int .i64 x.low, .int .i64 x.high]) _ _ ⟨by simp only; omega, k3, k6, by dsimp only; rw [hsucc]; exact k10, kσ⟩ (by simp only; omega) (by simp (disch := omega) only [subT, Int.natCast_add, Int.cast_ofNat_Int, go_sem, ↓if_pos, ne_eq, ↓reduceIte] <;> (repeat' apply And.intro) <;> first | rfl | (congr 1; omega) | assumption) rfl
      | true =>
      cases p2 with
      | false =>
        simp (disch := omega) only [hfc, hp1, hp2, go_sem, ↓if_pos, ne_eq, ↓reduceIte]
        exact ih (k + 1, upd s3 b12 [.int .i64 x.at_, .int .i64 x.to, .int .i64 x.low, .int .i64 x.high]) _ _ ⟨by simp only; omega, k3, k6, by dsimp only; rw [hsucc]; exact k10, kσ⟩ (by simp only; omega) (by simp (disch := omega) only [subT, Int.natCast_add, Int.cast_ofNat_Int, go_sem, ↓if_pos, ne_eq, ↓reduceIte] <;> (repeat' apply And.intro) <;> first | rfl | (congr 1; omega) | assumption) rfl
      | true =>
        simp (disch := omega) only [hfc, hp1, hp2, go_sem, ↓if_pos, ne_eq, ↓reduceIte]
        generalize upd s3 b12 [.int .i64 x.at_, .int .i64 x.to, .int .i64 x.low, .int .i64 x.high] = s4 at *
        rw [W_draw]
        refine DRun.start (DRun.mixNR (fun T s' => ∃ b13 b14, s4 b13 = none ∧ s4 b14 = none ∧ b13 ≠ b14 ∧ s' = upd (upd emp b13 [.int .i64 0, .int .i64 0, .isl true 0 []]) b14 [.int .i64 0, .int .i64 0, .isl true 0 []] ∧ look T 1 = .int .i64 a ∧ look T 2 = .int .i64 t ∧ look T 3 = .ptr b3 0 ∧ look T 6 = .ptr b6 0 ∧ look T 8 = .isl false 3 (exsV port4) ∧ look T 10 = .ptr b10 0 ∧ look T 43 = .isl false 4 (filsV n.filters) ∧ look T 44 = .int .i64 n.filters.length ∧ look T 45 = .int .i64 (k : Nat) ∧ look T 13 = .ptr b13 0 ∧ look T 14 = .ptr b14 0 ∧ look T 63 = exV (lessE port4 (bits4 x.low) 4) ∧ look T 68 = exV (lessE (bits4 x.high) port4 4)) rfl ?_ ?_)
        · simp (disch := omega) only [k12, go_sem, ↓if_pos, ne_eq, ↓reduceIte]
          refine DS.wr2 (WrF.call (constBits_ok (n := x.low) (m := 4) (by omega)) ⟨[], rfl, rfl⟩) rfl ?_ ?_
          · rintro r s ⟨rfl, hs⟩ hd
            obtain rfl := hs.symm
            simp (disch := omega) only [go_sem, ↓if_pos, ne_eq, ↓reduceIte]
            refine DS.wr2 (WrF.call (lessEx_ok (ea := false) (eb := false) (us := port4) (ws := bits4 x.low) (by decide) rfl) ⟨[], rfl, rfl⟩) rfl ?_ ?_
            · rintro r s ⟨rfl, hs⟩ hd
              obtain rfl := hs.symm
              simp (disch := omega) only [go_sem, ↓if_pos, ne_eq, ↓reduceIte]
              refine DS.wr2 (WrF.call (constBits_ok (n := x.high) (m := 4) (by omega)) ⟨[], rfl, rfl⟩) rfl ?_ ?_
              · rintro r s ⟨rfl, hs⟩ hd
                obtain rfl := hs.symm
                simp (disch := omega) only [go_sem, ↓if_pos, ne_eq, ↓reduceIte]
                refine DS.wr2 (WrF.call (lessEx_ok (ea := false) (eb := false) (us := bits4 x.high) (ws := port4) (by simp [bits4]) rfl) ⟨[], rfl, rfl⟩) rfl ?_ ?_
                · rintro r s ⟨rfl, hs⟩ hd
                  obtain rfl := hs.symm
                  simp (disch := omega) only [go_sem, ↓if_pos, ne_eq, ↓reduceIte]
                  refine DS.wr2 WrF.alloc rfl ?_ ?_
                  · rintro _ s9 ⟨b13, hbA, rfl, rfl⟩ hdA
                    simp (disch := omega) only [go_sem, ↓if_pos, ne_eq, ↓reduceIte]
                    refine DS.wrQ WrF.alloc rfl ?_
                    rintro _ s9 ⟨b14, hbB, rfl, rfl⟩ hdB
                    have huB := (upd_none.1 hbB).1
                    exact ⟨b13, b14, disj_new hdA, (hdB b14).resolve_left (by rw [upd_same]; simp), huB.symm, rfl, rfl, rfl, rfl, rfl, rfl, rfl, rfl, rfl, rfl, rfl, rfl, rfl, rfl⟩
                  · skip
                    refine DS.wrQ WrF.alloc rfl ?_
                    rintro _ s9 ⟨b14, hbA, rfl, rfl⟩ hdA
                    simp (disch := omega) only [go_sem, ↓if_pos, ne_eq, ↓reduceIte]
                    refine DS.wrQ WrF.alloc rfl ?_
                    rintro _ s9 ⟨b13, hbB, rfl, rfl⟩ hdB
                    have huB := (upd_none.1 hbB).1
                    exact ⟨b13, b14, (hdB b13).resolve_left (by rw [upd_same]; simp), disj_new hdA, huB, upd_comm _ huB.symm _ _, rfl, rfl, rfl, rfl, rfl, rfl, rfl, rfl, rfl, rfl, rfl, rfl, rfl⟩
                · skip
                  refine DS.wr2 WrF.alloc rfl ?_ ?_
                  · rintro _ s9 ⟨b13, hbA, rfl, rfl⟩ hdA
                    simp (disch := omega) only [go_sem, ↓if_pos, ne_eq, ↓reduceIte]
                    refine DS.wr2 (WrF.call (lessEx_ok (ea := false) (eb := false) (us := bits4 x.high) (ws := port4) (by simp [bits4]) rfl) ⟨[], rfl, rfl⟩) rfl ?_ ?_
                    · rintro r s ⟨rfl, hs⟩ hd
                      obtain rfl := hs.symm
                      simp (disch := omega) only [go_sem, ↓if_pos, ne_eq, ↓reduceIte]
                      refine DS.wrQ WrF.alloc rfl ?_
                      rintro _ s9 ⟨b14, hbB, rfl, rfl⟩ hdB
                      have huB := (upd_none.1 hbB).1
                      exact ⟨b13, b14, disj_new hdA, (hdB b14).resolve_left (by rw [upd_same]; simp), huB.symm, rfl, rfl, rfl, rfl, rfl, rfl, rfl, rfl, rfl, rfl, rfl, rfl, rfl, rfl⟩
                    · skip
                      refine DS.wrQ WrF.alloc rfl ?_
                      rintro _ s9 ⟨b14, hbB, rfl, rfl⟩ hdB
                      have huB := (upd_none.1 hbB).1
                      simp (disch := omega) only [go_sem, ↓if_pos, ne_eq, ↓reduceIte]
                      refine DS.wrQ (WrF.call (lessEx_ok (ea := false) (eb := false) (us := bits4 x.high) (ws := port4) (by simp [bits4]) rfl) ⟨[], rfl, rfl⟩) rfl ?_
                      rintro r s ⟨rfl, hs⟩ hd
                      obtain rfl := hs.symm
                      exact ⟨b13, b14, disj_new hdA, (hdB b14).resolve_left (by rw [upd_same]; simp), huB.symm, rfl, rfl, rfl, rfl, rfl, rfl, rfl, rfl, rfl, rfl, rfl, rfl, rfl, rfl⟩
                  · skip
                    refine DS.wrQ WrF.alloc rfl ?_
                    rintro _ s9 ⟨b14, hbA, rfl, rfl⟩ hdA
                    simp (disch := omega) only [go_sem, ↓if_pos, ne_eq, ↓reduceIte]
                    refine DS.wr2 (WrF.call (lessEx_ok (ea := false) (eb := false) (us := bits4 x.high) (ws := port4) (by simp [bits4]) rfl) ⟨[], rfl, rfl⟩) rfl ?_ ?_
                    · rintro r s ⟨rfl, hs⟩ hd
                      obtain rfl := hs.symm
                      simp (disch := omega) only [go_sem, ↓if_pos, ne_eq, ↓reduceIte]
                      refine DS.wrQ WrF.alloc rfl ?_
                      rintro _ s9 ⟨b13, hbB, rfl, rfl⟩ hdB
                      have huB := (upd_none.1 hbB).1
                      exact ⟨b13, b14, (hdB b13).resolve_left (by rw [upd_same]; simp), disj_new hdA, huB, upd_comm _ huB.symm _ _, rfl, rfl, rfl, rfl, rfl, rfl, rfl, rfl, rfl, rfl, rfl, rfl, rfl⟩
                    · skip
                      refine DS.wrQ WrF.alloc rfl ?_
                      rintro _ s9 ⟨b13, hbB, rfl, rfl⟩ hdB
                      have huB := (upd_none.1 hbB).1
                      simp (disch := omega) only [go_sem, ↓if_pos, ne_eq, ↓reduceIte]
                      refine DS.wrQ (WrF.call (lessEx_ok (ea := false) (eb := false) (us := bits4 x.high) (ws := port4) (by simp [bits4]) rfl) ⟨[], rfl, rfl⟩) rfl ?_
                      rintro r s ⟨rfl, hs⟩ hd
                      obtain rfl := hs.symm
                      exact ⟨b13, b14, (hdB b13).resolve_left (by rw [upd_same]; simp), disj_new hdA, huB, upd_comm _ huB.symm _ _, rfl, rfl, rfl, rfl, rfl, rfl, rfl, rfl, rfl, rfl, rfl, rfl, rfl⟩
              · skip
                refine DS.wr2 WrF.alloc rfl ?_ ?_
                · rintro _ s9 ⟨b13, hbA, rfl, rfl⟩ hdA
                  simp (disch := omega) only [go_sem, ↓if_pos, ne_eq, ↓reduceIte]
                  refine DS.wr2 (WrF.call (constBits_ok (n := x.high) (m := 4) (by omega)) ⟨[], rfl, rfl⟩) rfl ?_ ?_
                  · rintro r s ⟨rfl, hs⟩ hd
                    obtain rfl := hs.symm
                    simp (disch := omega) only [go_sem, ↓if_pos, ne_eq, ↓reduceIte]
                    refine DS.wr2 (WrF.call (lessEx_ok (ea := false) (eb := false) (us := bits4 x.high) (ws := port4) (by simp [bits4]) rfl) ⟨[], rfl, rfl⟩) rfl ?_ ?_
                    · rintro r s ⟨rfl, hs⟩ hd
                      obtain rfl := hs.symm
                      simp (disch := omega) only [go_sem, ↓if_pos, ne_eq, ↓reduceIte]
                      refine DS.wrQ WrF.alloc rfl ?_
                      rintro _ s9 ⟨b14, hbB, rfl, rfl⟩ hdB
                      have huB := (upd_none.1 hbB).1
                      exact ⟨b13, b14, disj_new hdA, (hdB b14).resolve_left (by rw [upd_same]; simp), huB.symm, rfl, rfl, rfl, rfl, rfl, rfl, rfl, rfl, rfl, rfl, rfl, rfl, rfl, rfl⟩
                    · skip
                      refine DS.wrQ WrF.alloc rfl ?_
                      rintro _ s9 ⟨b14, hbB, rfl, rfl⟩ hdB
                      have huB := (upd_none.1 hbB).1
                      simp (disch := omega) only [go_sem, ↓if_pos, ne_eq, ↓reduceIte]
                      refine DS.wrQ (WrF.call (lessEx_ok (ea := false) (eb := false) (us := bits4 x.high) (ws := port4) (by simp [bits4]) rfl) ⟨[], rfl, rfl⟩) rfl ?_
                      rintro r s ⟨rfl, hs⟩ hd
                      obtain rfl := hs.symm
                      exact ⟨b13, b14, disj_new hdA, (hdB b14).resolve_left (by rw [upd_same]; simp), huB.symm, rfl, rfl, rfl, rfl, rfl, rfl, rfl, rfl, rfl, rfl, rfl, rfl, rfl, rfl⟩
                  · skip
                    refine DS.wrQ WrF.alloc rfl ?_
                    rintro _ s9 ⟨b14, hbB, rfl, rfl⟩ hdB
                    have huB := (upd_none.1 hbB).1
                    simp (disch := omega) only [go_sem, ↓if_pos, ne_eq, ↓reduceIte]
                    refine DS.wrQ (WrF.call (constBits_ok (n := x.high) (m := 4) (by omega)) ⟨[], rfl, rfl⟩) rfl ?_
                    rintro r s ⟨rfl, hs⟩ hd
                    obtain rfl := hs.symm
                    simp (disch := omega) only [go_sem, ↓if_pos, ne_eq, ↓reduceIte]
                    refine DS.wrQ (WrF.call (lessEx_ok (ea := false) (eb := false) (us := bits4 x.high) (ws := port4) (by simp [bits4]) rfl) ⟨[], rfl, rfl⟩) rfl ?_
                    rintro r s ⟨rfl, hs⟩ hd
                    obtain rfl := hs.symm
                    exact ⟨b13, b14, disj_new hdA, (hdB b14).resolve_left (by rw [upd_same]; simp), huB.symm, rfl, rfl, rfl, rfl, rfl, rfl, rfl, rfl, rfl, rfl, rfl, rfl, rfl, rfl⟩
                · skip
                  refine DS.wrQ WrF.alloc rfl ?_
                  rintro _ s9 ⟨b14, hbA, rfl, rfl⟩ hdA
                  simp (disch := omega) only [go_sem, ↓if_pos, ne_eq, ↓reduceIte]
                  refine DS.wr2 (WrF.call (constBits_ok (n := x.high) (m := 4) (by omega)) ⟨[], rfl, rfl⟩) rfl ?_ ?_
                  · rintro r s ⟨rfl, hs⟩ hd
                    obtain rfl := hs.symm
                    simp (disch := omega) only [go_sem, ↓if_pos, ne_eq, ↓reduceIte]
                    refine DS.wr2 (WrF.call (lessEx_ok (ea := false) (eb := false) (us := bits4 x.high) (ws := port4) (by simp [bits4]) rfl) ⟨[], rfl, rfl⟩) rfl ?_ ?_
                    · rintro r s ⟨rfl, hs⟩ hd
                      obtain rfl := hs.symm
                      simp (disch := omega) only [go_sem, ↓if_pos, ne_eq, ↓reduceIte]
                      refine DS.wrQ WrF.alloc rfl ?_
                      rintro _ s9 ⟨b13, hbB, rfl, rfl⟩ hdB
                      have huB := (upd_none.1 hbB).1
                      exact ⟨b13, b14, (hdB b13).resolve_left (by rw [upd_same]; simp), disj_new hdA, huB, upd_comm _ huB.symm _ _, rfl, rfl, rfl, rfl, rfl, rfl, rfl, rfl, rfl, rfl, rfl, rfl, rfl⟩
                    · skip
                      refine DS.wrQ WrF.alloc rfl ?_
                      rintro _ s9 ⟨b13, hbB, rfl, rfl⟩ hdB
                      have huB := (upd_none.1 hbB).1
                      simp (disch := omega) only [go_sem, ↓if_pos, ne_eq, ↓reduceIte]
                      refine DS.wrQ (WrF.call (lessEx_ok (ea := false) (eb := false) (us := bits4 x.high) (ws := port4) (by simp [bits4]) rfl) ⟨[], rfl, rfl⟩) rfl ?_
                      rintro r s ⟨rfl, hs⟩ hd
                      obtain rfl := hs.symm
                      exact ⟨b13, b14, (hdB b13).resolve_left (by rw [upd_same]; simp), disj_new hdA, huB, upd_comm _ huB.symm _ _, rfl, rfl, rfl, rfl, rfl, rfl, rfl, rfl, rfl, rfl, rfl, rfl, rfl⟩
                  · skip
                    refine DS.wrQ WrF.alloc rfl ?_
                    rintro _ s9 ⟨b13, hbB, rfl, rfl⟩ hdB
                    have huB := (upd_none.1 hbB).1
                    simp (disch := omega) only [go_sem, ↓if_pos, ne_eq, ↓reduceIte]
                    refine DS.wrQ (WrF.call (constBits_ok (n := x.high) (m := 4) (by omega)) ⟨[], rfl, rfl⟩) rfl ?_
                    rintro r s ⟨rfl, hs⟩ hd
                    obtain rfl := hs.symm
                    simp (disch := omega) only [go_sem, ↓if_pos, ne_eq, ↓reduceIte]
                    refine DS.wrQ (WrF.call (lessEx_ok (ea := false) (eb := false) (us := bits4 x.high) (ws := port4) (by simp [bits4]) rfl) ⟨[], rfl, rfl⟩) rfl ?_
                    rintro r s ⟨rfl, hs⟩ hd
                    obtain rfl := hs.symm
                    exact ⟨b13, b14, (hdB b13).resolve_left (by rw [upd_same]; simp), disj_new hdA, huB, upd_comm _ huB.symm _ _, rfl, rfl, rfl, rfl, rfl, rfl, rfl, rfl, rfl, rfl, rfl, rfl, rfl⟩
            · skip
              refine DS.wr2 WrF.alloc rfl ?_ ?_
              · rintro _ s9 ⟨b13, hbA, rfl, rfl⟩ hdA
                simp (disch := omega) only [go_sem, ↓if_pos, ne_eq, ↓reduceIte]
                refine DS.wr2 (WrF.call (lessEx_ok (ea := false) (eb := false) (us := port4) (ws := bits4 x.low) (by decide) rfl) ⟨[], rfl, rfl⟩) rfl ?_ ?_
                · rintro r s ⟨rfl, hs⟩ hd
                  obtain rfl := hs.symm
                  simp (disch := omega) only [go_sem, ↓if_pos, ne_eq, ↓reduceIte]
                  refine DS.wr2 (WrF.call (constBits_ok (n := x.high) (m := 4) (by omega)) ⟨[], rfl, rfl⟩) rfl ?_ ?_
                  · rintro r s ⟨rfl, hs⟩ hd
                    obtain rfl := hs.symm
                    simp (disch := omega) only [go_sem, ↓if_pos, ne_eq, ↓reduceIte]
                    refine DS.wr2 (WrF.call (lessEx_ok (ea := false) (eb := false) (us := bits4 x.high) (ws := port4) (by simp [bits4]) rfl) ⟨[], rfl, rfl⟩) rfl ?_ ?_
                    · rintro r s ⟨rfl, hs⟩ hd
                      obtain rfl := hs.symm
                      simp (disch := omega) only [go_sem, ↓if_pos, ne_eq, ↓reduceIte]
                      refine DS.wrQ WrF.alloc rfl ?_
                      rintro _ s9 ⟨b14, hbB, rfl, rfl⟩ hdB
                      have huB := (upd_none.1 hbB).1
                      exact ⟨b13, b14, disj_new hdA, (hdB b14).resolve_left (by rw [upd_same]; simp), huB.symm, rfl, rfl, rfl, rfl, rfl, rfl, rfl, rfl, rfl, rfl, rfl, rfl, rfl, rfl⟩
                    · skip
                      refine DS.wrQ WrF.alloc rfl ?_
                      rintro _ s9 ⟨b14, hbB, rfl, rfl⟩ hdB
                      have huB := (upd_none.1 hbB).1
                      simp (disch := omega) only [go_sem, ↓if_pos, ne_eq, ↓reduceIte]
                      refine DS.wrQ (WrF.call (lessEx_ok (ea := false) (eb := false) (us := bits4 x.high) (ws := port4) (by simp [bits4]) rfl) ⟨[], rfl, rfl⟩) rfl ?_
                      rintro r s ⟨rfl, hs⟩ hd
                      obtain rfl := hs.symm
                      exact ⟨b13, b14, disj_new hdA, (hdB b14).resolve_left (by rw [upd_same]; simp), huB.symm, rfl, rfl, rfl, rfl, rfl, rfl, rfl, rfl, rfl, rfl, rfl, rfl, rfl, rfl⟩
                  · skip
                    refine DS.wrQ WrF.alloc rfl ?_
                    rintro _ s9 ⟨b14, hbB, rfl, rfl⟩ hdB
                    have huB := (upd_none.1 hbB).1
                    simp (disch := omega) only [go_sem, ↓if_pos, ne_eq, ↓reduceIte]
                    refine DS.wrQ (WrF.call (constBits_ok (n := x.high) (m := 4) (by omega)) ⟨[], rfl, rfl⟩) rfl ?_
                    rintro r s ⟨rfl, hs⟩ hd
                    obtain rfl := hs.symm
                    simp (disch := omega) only [go_sem, ↓if_pos, ne_eq, ↓reduceIte]
                    refine DS.wrQ (WrF.call (lessEx_ok (ea := false) (eb := false) (us := bits4 x.high) (ws := port4) (by simp [bits4]) rfl) ⟨[], rfl, rfl⟩) rfl ?_
                    rintro r s ⟨rfl, hs⟩ hd
                    obtain rfl := hs.symm
                    exact ⟨b13, b14, disj_new hdA, (hdB b14).resolve_left (by rw [upd_same]; simp), huB.symm, rfl, rfl, rfl, rfl, rfl, rfl, rfl, rfl, rfl, rfl, rfl, rfl, rfl, rfl⟩
                · skip
                  refine DS.wrQ WrF.alloc rfl ?_
                  rintro _ s9 ⟨b14, hbB, rfl, rfl⟩ hdB
                  have huB := (upd_none.1 hbB).1
                  simp (disch := omega) only [go_sem, ↓if_pos, ne_eq, ↓reduceIte]
                  refine DS.wrQ (WrF.call (lessEx_ok (ea := false) (eb := false) (us := port4) (ws := bits4 x.low) (by decide) rfl) ⟨[], rfl, rfl⟩) rfl ?_
                  rintro r s ⟨rfl, hs⟩ hd
                  obtain rfl := hs.symm
                  simp (disch := omega) only [go_sem, ↓if_pos, ne_eq, ↓reduceIte]
                  refine DS.wrQ (WrF.call (constBits_ok (n := x.high) (m := 4) (by omega)) ⟨[], rfl, rfl⟩) rfl ?_
                  rintro r s ⟨rfl, hs⟩ hd
                  obtain rfl := hs.symm
                  simp (disch := omega) only [go_sem, ↓if_pos, ne_eq, ↓reduceIte]
                  refine DS.wrQ (WrF.call (lessEx_ok (ea := false) (eb := false) (us := bits4 x.high) (ws := port4) (by simp [bits4]) rfl) ⟨[], rfl, rfl⟩) rfl ?_
                  rintro r s ⟨rfl, hs⟩ hd
                  obtain rfl := hs.symm
                  exact ⟨b13, b14, disj_new hdA, (hdB b14).resolve_left (by rw [upd_same]; simp), huB.symm, rfl, rfl, rfl, rfl, rfl, rfl, rfl, rfl, rfl, rfl, rfl, rfl, rfl, rfl⟩
              · skip
                refine DS.wrQ WrF.alloc rfl ?_
                rintro _ s9 ⟨b14, hbA, rfl, rfl⟩ hdA
                simp (disch := omega) only [go_sem, ↓if_pos, ne_eq, ↓reduceIte]
                refine DS.wr2 (WrF.call (lessEx_ok (ea := false) (eb := false) (us := port4) (ws := bits4 x.low) (by decide) rfl) ⟨[], rfl, rfl⟩) rfl ?_ ?_
                · rintro r s ⟨rfl, hs⟩ hd
                  obtain rfl := hs.symm
                  simp (disch := omega) only [go_sem, ↓if_pos, ne_eq, ↓reduceIte]
                  refine DS.wr2 (WrF.call (constBits_ok (n := x.high) (m := 4) (by omega)) ⟨[], rfl, rfl⟩) rfl ?_ ?_
                  · rintro r s ⟨rfl, hs⟩ hd
                    obtain rfl := hs.symm
                    simp (disch := omega) only [go_sem, ↓if_pos, ne_eq, ↓reduceIte]
                    refine DS.wr2 (WrF.call (lessEx_ok (ea := false) (eb := false) (us := bits4 x.high) (ws := port4) (by simp [bits4]) rfl) ⟨[], rfl, rfl⟩) rfl ?_ ?_
                    · rintro r s ⟨rfl, hs⟩ hd
                      obtain rfl := hs.symm
                      simp (disch := omega) only [go_sem, ↓if_pos, ne_eq, ↓reduceIte]
                      refine DS.wrQ WrF.alloc rfl ?_
                      rintro _ s9 ⟨b13, hbB, rfl, rfl⟩ hdB
                      have huB := (upd_none.1 hbB).1
                      exact ⟨b13, b14, (hdB b13).resolve_left (by rw [upd_same]; simp), disj_new hdA, huB, upd_comm _ huB.symm _ _, rfl, rfl, rfl, rfl, rfl, rfl, rfl, rfl, rfl, rfl, rfl, rfl, rfl⟩
                    · skip
                      refine DS.wrQ WrF.alloc rfl ?_
                      rintro _ s9 ⟨b13, hbB, rfl, rfl⟩ hdB
                      have huB := (upd_none.1 hbB).1
                      simp (disch := omega) only [go_sem, ↓if_pos, ne_eq, ↓reduceIte]
                      refine DS.wrQ (WrF.call (lessEx_ok (ea := false) (eb := false) (us := bits4 x.high) (ws := port4) (by simp [bits4]) rfl) ⟨[], rfl, rfl⟩) rfl ?_
                      rintro r s ⟨rfl, hs⟩ hd
                      obtain rfl := hs.symm
                      exact ⟨b13, b14, (hdB b13).resolve_left (by rw [upd_same]; simp), disj_new hdA, huB, upd_comm _ huB.symm _ _, rfl, rfl, rfl, rfl, rfl, rfl, rfl, rfl, rfl, rfl, rfl, rfl, rfl⟩
                  · skip
                    refine DS.wrQ WrF.alloc rfl ?_
                    rintro _ s9 ⟨b13, hbB, rfl, rfl⟩ hdB
                    have huB := (upd_none.1 hbB).1
                    simp (disch := omega) only [go_sem, ↓if_pos, ne_eq, ↓reduceIte]
                    refine DS.wrQ (WrF.call (constBits_ok (n := x.high) (m := 4) (by omega)) ⟨[], rfl, rfl⟩) rfl ?_
                    rintro r s ⟨rfl, hs⟩ hd
                    obtain rfl := hs.symm
                    simp (disch := omega) only [go_sem, ↓if_pos, ne_eq, ↓reduceIte]
                    refine DS.wrQ (WrF.call (lessEx_ok (ea := false) (eb := false) (us := bits4 x.high) (ws := port4) (by simp [bits4]) rfl) ⟨[], rfl, rfl⟩) rfl ?_
                    rintro r s ⟨rfl, hs⟩ hd
                    obtain rfl := hs.symm
                    exact ⟨b13, b14, (hdB b13).resolve_left (by rw [upd_same]; simp), disj_new hdA, huB, upd_comm _ huB.symm _ _, rfl, rfl, rfl, rfl, rfl, rfl, rfl, rfl, rfl, rfl, rfl, rfl, rfl⟩
                · skip
                  refine DS.wrQ WrF.alloc rfl ?_
                  rintro _ s9 ⟨b13, hbB, rfl, rfl⟩ hdB
                  have huB := (upd_none.1 hbB).1
                  simp (disch := omega) only [go_sem, ↓if_pos, ne_eq, ↓reduceIte]
                  refine DS.wrQ (WrF.call (lessEx_ok (ea := false) (eb := false) (us := port4) (ws := bits4 x.low) (by decide) rfl) ⟨[], rfl, rfl⟩) rfl ?_
                  rintro r s ⟨rfl, hs⟩ hd
                  obtain rfl := hs.symm
                  simp (disch := omega) only [go_sem, ↓if_pos, ne_eq, ↓reduceIte]
                  refine DS.wrQ (WrF.call (constBits_ok (n := x.high) (m := 4) (by omega)) ⟨[], rfl, rfl⟩) rfl ?_
                  rintro r s ⟨rfl, hs⟩ hd
                  obtain rfl := hs.symm
                  simp (disch := omega) only [go_sem, ↓if_pos, ne_eq, ↓reduceIte]
                  refine DS.wrQ (WrF.call (lessEx_ok (ea := false) (eb := false) (us := bits4 x.high) (ws := port4) (by simp [bits4]) rfl) ⟨[], rfl, rfl⟩) rfl ?_
                  rintro r s ⟨rfl, hs⟩ hd
                  obtain rfl := hs.symm
                  exact ⟨b13, b14, (hdB b13).resolve_left (by rw [upd_same]; simp), disj_new hdA, huB, upd_comm _ huB.symm _ _, rfl, rfl, rfl, rfl, rfl, rfl, rfl, rfl, rfl, rfl, rfl, rfl, rfl⟩
          · skip
            refine DS.wr2 WrF.alloc rfl ?_ ?_
            · rintro _ s9 ⟨b13, hbA, rfl, rfl⟩ hdA
              simp (disch := omega) only [go_sem, ↓if_pos, ne_eq, ↓reduceIte]
              refine DS.wr2 (WrF.call (constBits_ok (n := x.low) (m := 4) (by omega)) ⟨[], rfl, rfl⟩) rfl ?_ ?_
              · rintro r s ⟨rfl, hs⟩ hd
                obtain rfl := hs.symm
                simp (disch := omega) only [go_sem, ↓if_pos, ne_eq, ↓reduceIte]
                refine DS.wr2 (WrF.call (lessEx_ok (ea := false) (eb := false) (us := port4) (ws := bits4 x.low) (by decide) rfl) ⟨[], rfl, rfl⟩) rfl ?_ ?_
                · rintro r s ⟨rfl, hs⟩ hd
                  obtain rfl := hs.symm
                  simp (disch := omega) only [go_sem, ↓if_pos, ne_eq, ↓reduceIte]
                  refine DS.wr2 (WrF.call (constBits_ok (n := x.high) (m := 4) (by omega)) ⟨[], rfl, rfl⟩) rfl ?_ ?_
                  · rintro r s ⟨rfl, hs⟩ hd
                    obtain rfl := hs.symm
                    simp (disch := omega) only [go_sem, ↓if_pos, ne_eq, ↓reduceIte]
                    refine DS.wr2 (WrF.call (lessEx_ok (ea := false) (eb := false) (us := bits4 x.high) (ws := port4) (by simp [bits4]) rfl) ⟨[], rfl, rfl⟩) rfl ?_ ?_
                    · rintro r s ⟨rfl, hs⟩ hd
                      obtain rfl := hs.symm
                      simp (disch := omega) only [go_sem, ↓if_pos, ne_eq, ↓reduceIte]
                      refine DS.wrQ WrF.alloc rfl ?_
                      rintro _ s9 ⟨b14, hbB, rfl, rfl⟩ hdB
                      have huB := (upd_none.1 hbB).1
                      exact ⟨b13, b14, disj_new hdA, (hdB b14).resolve_left (by rw [upd_same]; simp), huB.symm, rfl, rfl, rfl, rfl, rfl, rfl, rfl, rfl, rfl, rfl, rfl, rfl, rfl, rfl⟩
                    · skip
                      refine DS.wrQ WrF.alloc rfl ?_
                      rintro _ s9 ⟨b14, hbB, rfl, rfl⟩ hdB
                      have huB := (upd_none.1 hbB).1
                      simp (disch := omega) only [go_sem, ↓if_pos, ne_eq, ↓reduceIte]
                      refine DS.wrQ (WrF.call (lessEx_ok (ea := false) (eb := false) (us := bits4 x.high) (ws := port4) (by simp [bits4]) rfl) ⟨[], rfl, rfl⟩) rfl ?_
                      rintro r s ⟨rfl, hs⟩ hd
                      obtain rfl := hs.symm
                      exact ⟨b13, b14, disj_new hdA, (hdB b14).resolve_left (by rw [upd_same]; simp), huB.symm, rfl, rfl, rfl, rfl, rfl, rfl, rfl, rfl, rfl, rfl, rfl, rfl, rfl, rfl⟩
                  · skip
                    refine DS.wrQ WrF.alloc rfl ?_
                    rintro _ s9 ⟨b14, hbB, rfl, rfl⟩ hdB
                    have huB := (upd_none.1 hbB).1
                    simp (disch := omega) only [go_sem, ↓if_pos, ne_eq, ↓reduceIte]
                    refine DS.wrQ (WrF.call (constBits_ok (n := x.high) (m := 4) (by omega)) ⟨[], rfl, rfl⟩) rfl ?_
                    rintro r s ⟨rfl, hs⟩ hd
                    obtain rfl := hs.symm
                    simp (disch := omega) only [go_sem, ↓if_pos, ne_eq, ↓reduceIte]
                    refine DS.wrQ (WrF.call (lessEx_ok (ea := false) (eb := false) (us := bits4 x.high) (ws := port4) (by simp [bits4]) rfl) ⟨[], rfl, rfl⟩) rfl ?_
                    rintro r s ⟨rfl, hs⟩ hd
                    obtain rfl := hs.symm
                    exact ⟨b13, b14, disj_new hdA, (hdB b14).resolve_left (by rw [upd_same]; simp), huB.symm, rfl, rfl, rfl, rfl, rfl, rfl, rfl, rfl, rfl, rfl, rfl, rfl, rfl, rfl⟩
                · skip
                  refine DS.wrQ WrF.alloc rfl ?_
                  rintro _ s9 ⟨b14, hbB, rfl, rfl⟩ hdB
                  have huB := (upd_none.1 hbB).1
                  simp (disch := omega) only [go_sem, ↓if_pos, ne_eq, ↓reduceIte]
                  refine DS.wrQ (WrF.call (lessEx_ok (ea := false) (eb := false) (us := port4) (ws := bits4 x.low) (by decide) rfl) ⟨[], rfl, rfl⟩) rfl ?_
                  rintro r s ⟨rfl, hs⟩ hd
                  obtain rfl := hs.symm
                  simp (disch := omega) only [go_sem, ↓if_pos, ne_eq, ↓reduceIte]
                  refine DS.wrQ (WrF.call (constBits_ok (n := x.high) (m := 4) (by omega)) ⟨[], rfl, rfl⟩) rfl ?_
                  rintro r s ⟨rfl, hs⟩ hd
                  obtain rfl := hs.symm
                  simp (disch := omega) only [go_sem, ↓if_pos, ne_eq, ↓reduceIte]
                  refine DS.wrQ (WrF.call (lessEx_ok (ea := false) (eb := false) (us := bits4 x.high) (ws := port4) (by simp [bits4]) rfl) ⟨[], rfl, rfl⟩) rfl ?_
                  rintro r s ⟨rfl, hs⟩ hd
                  obtain rfl := hs.symm
                  exact ⟨b13, b14, disj_new hdA, (hdB b14).resolve_left (by rw [upd_same]; simp), huB.symm, rfl, rfl, rfl, rfl, rfl, rfl, rfl, rfl, rfl, rfl, rfl, rfl, rfl, rfl⟩
              · skip
                refine DS.wrQ WrF.alloc rfl ?_
                rintro _ s9 ⟨b14, hbB, rfl, rfl⟩ hdB
                have huB := (upd_none.1 hbB).1
                simp (disch := omega) only [go_sem, ↓if_pos, ne_eq, ↓reduceIte]
                refine DS.wrQ (WrF.call (constBits_ok (n := x.low) (m := 4) (by omega)) ⟨[], rfl, rfl⟩) rfl ?_
                rintro r s ⟨rfl, hs⟩ hd
                obtain rfl := hs.symm
                simp (disch := omega) only [go_sem, ↓if_pos, ne_eq, ↓reduceIte]
                refine DS.wrQ (WrF.call (lessEx_ok (ea := false) (eb := false) (us := port4) (ws := bits4 x.low) (by decide) rfl) ⟨[], rfl, rfl⟩) rfl ?_
                rintro r s ⟨rfl, hs⟩ hd
                obtain rfl := hs.symm
                simp (disch := omega) only [go_sem, ↓if_pos, ne_eq, ↓reduceIte]
                refine DS.wrQ (WrF.call (constBits_ok (n := x.high) (m := 4) (by omega)) ⟨[], rfl, rfl⟩) rfl ?_
                rintro r s ⟨rfl, hs⟩ hd
                obtain rfl := hs.symm
                simp (disch := omega) only [go_sem, ↓if_pos, ne_eq, ↓reduceIte]
                refine DS.wrQ (WrF.call (lessEx_ok (ea := false) (eb := false) (us := bits4 x.high) (ws := port4) (by simp [bits4]) rfl) ⟨[], rfl, rfl⟩) rfl ?_
                rintro r s ⟨rfl, hs⟩ hd
                obtain rfl := hs.symm
                exact ⟨b13, b14, disj_new hdA, (hdB b14).resolve_left (by rw [upd_same]; simp), huB.symm, rfl, rfl, rfl, rfl, rfl, rfl, rfl, rfl, rfl, rfl, rfl, rfl, rfl, rfl⟩
            · skip
              refine DS.wrQ WrF.alloc rfl ?_
              rintro _ s9 ⟨b14, hbA, rfl, rfl⟩ hdA
              simp (disch := omega) only [go_sem, ↓if_pos, ne_eq, ↓reduceIte]
              refine DS.wr2 (WrF.call (constBits_ok (n := x.low) (m := 4) (by omega)) ⟨[], rfl, rfl⟩) rfl ?_ ?_
              · rintro r s ⟨rfl, hs⟩ hd
                obtain rfl := hs.symm
                simp (disch := omega) only [go_sem, ↓if_pos, ne_eq, ↓reduceIte]
                refine DS.wr2 (WrF.call (lessEx_ok (ea := false) (eb := false) (us := port4) (ws := bits4 x.low) (by decide) rfl) ⟨[], rfl, rfl⟩) rfl ?_ ?_
                · rintro r s ⟨rfl, hs⟩ hd
                  obtain rfl := hs.symm
                  simp (disch := omega) only [go_sem, ↓if_pos, ne_eq, ↓reduceIte]
                  refine DS.wr2 (WrF.call (constBits_ok (n := x.high) (m := 4) (by omega)) ⟨[], rfl, rfl⟩) rfl ?_ ?_
                  · rintro r s ⟨rfl, hs⟩ hd
                    obtain rfl := hs.symm
                    simp (disch := omega) only [go_sem, ↓if_pos, ne_eq, ↓reduceIte]
                    refine DS.wr2 (WrF.call (lessEx_ok (ea := false) (eb := false) (us := bits4 x.high) (ws := port4) (by simp [bits4]) rfl) ⟨[], rfl, rfl⟩) rfl ?_ ?_
                    · rintro r s ⟨rfl, hs⟩ hd
                      obtain rfl := hs.symm
                      simp (disch := omega) only [go_sem, ↓if_pos, ne_eq, ↓reduceIte]
                      refine DS.wrQ WrF.alloc rfl ?_
                      rintro _ s9 ⟨b13, hbB, rfl, rfl⟩ hdB
                      have huB := (upd_none.1 hbB).1
                      exact ⟨b13, b14, (hdB b13).resolve_left (by rw [upd_same]; simp), disj_new hdA, huB, upd_comm _ huB.symm _ _, rfl, rfl, rfl, rfl, rfl, rfl, rfl, rfl, rfl, rfl, rfl, rfl, rfl⟩
                    · skip
                      refine DS.wrQ WrF.alloc rfl ?_
                      rintro _ s9 ⟨b13, hbB, rfl, rfl⟩ hdB
                      have huB := (upd_none.1 hbB).1
                      simp (disch := omega) only [go_sem, ↓if_pos, ne_eq, ↓reduceIte]
                      refine DS.wrQ (WrF.call (lessEx_ok (ea := false) (eb := false) (us := bits4 x.high) (ws := port4) (by simp [bits4]) rfl) ⟨[], rfl, rfl⟩) rfl ?_
                      rintro r s ⟨rfl, hs⟩ hd
                      obtain rfl := hs.symm
                      exact ⟨b13, b14, (hdB b13).resolve_left (by rw [upd_same]; simp), disj_new hdA, huB, upd_comm _ huB.symm _ _, rfl, rfl, rfl, rfl, rfl, rfl, rfl, rfl, rfl, rfl, rfl, rfl, rfl⟩
                  · skip
                    refine DS.wrQ WrF.alloc rfl ?_
                    rintro _ s9 ⟨b13, hbB, rfl, rfl⟩ hdB
                    have huB := (upd_none.1 hbB).1
                    simp (disch := omega) only [go_sem, ↓if_pos, ne_eq, ↓reduceIte]
                    refine DS.wrQ (WrF.call (constBits_ok (n := x.high) (m := 4) (by omega)) ⟨[], rfl, rfl⟩) rfl ?_
                    rintro r s ⟨rfl, hs⟩ hd
                    obtain rfl := hs.symm
                    simp (disch := omega) only [go_sem, ↓if_pos, ne_eq, ↓reduceIte]
                    refine DS.wrQ (WrF.call (lessEx_ok (ea := false) (eb := false) (us := bits4 x.high) (ws := port4) (by simp [bits4]) rfl) ⟨[], rfl, rfl⟩) rfl ?_
                    rintro r s ⟨rfl, hs⟩ hd
                    obtain rfl := hs.symm
                    exact ⟨b13, b14, (hdB b13).resolve_left (by rw [upd_same]; simp), disj_new hdA, huB, upd_comm _ huB.symm _ _, rfl, rfl, rfl, rfl, rfl, rfl, rfl, rfl, rfl, rfl, rfl, rfl, rfl⟩
                · skip
                  refine DS.wrQ WrF.alloc rfl ?_
                  rintro _ s9 ⟨b13, hbB, rfl, rfl⟩ hdB
                  have huB := (upd_none.1 hbB).1
                  simp (disch := omega) only [go_sem, ↓if_pos, ne_eq, ↓reduceIte]
                  refine DS.wrQ (WrF.call (lessEx_ok (ea := false) (eb := false) (us := port4) (ws := bits4 x.low) (by decide) rfl) ⟨[], rfl, rfl⟩) rfl ?_
                  rintro r s ⟨rfl, hs⟩ hd
                  obtain rfl := hs.symm
                  simp (disch := omega) only [go_sem, ↓if_pos, ne_eq, ↓reduceIte]
                  refine DS.wrQ (WrF.call (constBits_ok (n := x.high) (m := 4) (by omega)) ⟨[], rfl, rfl⟩) rfl ?_
                  rintro r s ⟨rfl, hs⟩ hd
                  obtain rfl := hs.symm
                  simp (disch := omega) only [go_sem, ↓if_pos, ne_eq, ↓reduceIte]
                  refine DS.wrQ (WrF.call (lessEx_ok (ea := false) (eb := false) (us := bits4 x.high) (ws := port4) (by simp [bits4]) rfl) ⟨[], rfl, rfl⟩) rfl ?_
                  rintro r s ⟨rfl, hs⟩ hd
                  obtain rfl := hs.symm
                  exact ⟨b13, b14, (hdB b13).resolve_left (by rw [upd_same]; simp), disj_new hdA, huB, upd_comm _ huB.symm _ _, rfl, rfl, rfl, rfl, rfl, rfl, rfl, rfl, rfl, rfl, rfl, rfl, rfl⟩
              · skip
                refine DS.wrQ WrF.alloc rfl ?_
                rintro _ s9 ⟨b13, hbB, rfl, rfl⟩ hdB
                have huB := (upd_none.1 hbB).1
                simp (disch := omega) only [go_sem, ↓if_pos, ne_eq, ↓reduceIte]
                refine DS.wrQ (WrF.call (constBits_ok (n := x.low) (m := 4) (by omega)) ⟨[], rfl, rfl⟩) rfl ?_
                rintro r s ⟨rfl, hs⟩ hd
                obtain rfl := hs.symm
                simp (disch := omega) only [go_sem, ↓if_pos, ne_eq, ↓reduceIte]
                refine DS.wrQ (WrF.call (lessEx_ok (ea := false) (eb := false) (us := port4) (ws := bits4 x.low) (by decide) rfl) ⟨[], rfl, rfl⟩) rfl ?_
                rintro r s ⟨rfl, hs⟩ hd
                obtain rfl := hs.symm
                simp (disch := omega) only [go_sem, ↓if_pos, ne_eq, ↓reduceIte]
                refine DS.wrQ (WrF.call (constBits_ok (n := x.high) (m := 4) (by omega)) ⟨[], rfl, rfl⟩) rfl ?_
                rintro r s ⟨rfl, hs⟩ hd
                obtain rfl := hs.symm
                simp (disch := omega) only [go_sem, ↓if_pos, ne_eq, ↓reduceIte]
                refine DS.wrQ (WrF.call (lessEx_ok (ea := false) (eb := false) (us := bits4 x.high) (ws := port4) (by simp [bits4]) rfl) ⟨[], rfl, rfl⟩) rfl ?_
                rintro r s ⟨rfl, hs⟩ hd
                obtain rfl := hs.symm
                exact ⟨b13, b14, (hdB b13).resolve_left (by rw [upd_same]; simp), disj_new hdA, huB, upd_comm _ huB.symm _ _, rfl, rfl, rfl, rfl, rfl, rfl, rfl, rfl, rfl, rfl, rfl, rfl, rfl⟩
        · rintro T _ ⟨b13, b14, hb13, hb14, n1314, rfl, t1, t2, t3, t6, t8, t10, t43, t44, t45, t13, t14, t63, t68⟩
          rw [cup_upd, cup_new]
          generalize lessE port4 (bits4 x.low) 4 = e1 at *
          generalize lessE (bits4 x.high) port4 4 = e2 at *
          have hb14' : upd s4 b13 (exC e1) b14 = none := by rw [upd_ne _ _ n1314.symm]; exact hb14
          simp (disch := omega) only [t13, t14, t63, t68, n1314, n1314.symm, go_sem, ↓if_pos, ne_eq, ↓reduceIte]
          have n10_13 : b10 ≠ b13 := fun e => by subst e; rw [k10] at hb13; cases hb13
          have n10_14 : b10 ≠ b14 := fun e => by subst e; rw [k10] at hb14; cases hb14
          have hk : ∀ d y, s4 d = some y → upd (upd (upd (upd s4 b13 [V.int .i64 0, .int .i64 0, .isl true 0 []]) b14 [V.int .i64 0, .int .i64 0, .isl true 0 []]) b13 (exC e1)) b14 (exC e2) d = some y := fun d y h => by
            have h1 : d ≠ b13 := fun e => by subst e; rw [h] at hb13; cases hb13
            have h2 : d ≠ b14 := fun e => by subst e; rw [h] at hb14; cases hb14
            rw [upd_ne _ _ h2, upd_ne _ _ h1, upd_ne _ _ h2, upd_ne _ _ h1]; exact h
          have q13 : upd (upd (upd (upd s4 b13 [V.int .i64 0, .int .i64 0, .isl true 0 []]) b14 [V.int .i64 0, .int .i64 0, .isl true 0 []]) b13 (exC e1)) b14 (exC e2) b13 = some (exC e1) := by rw [upd_ne _ _ n1314, upd_same]
          have q14 : upd (upd (upd (upd s4 b13 [V.int .i64 0, .int .i64 0, .isl true 0 []]) b14 [V.int .i64 0, .int .i64 0, .isl true 0 []]) b13 (exC e1)) b14 (exC e2) b14 = some (exC e2) := upd_same _ _ _
          generalize upd (upd (upd (upd s4 b13 [V.int .i64 0, .int .i64 0, .isl true 0 []]) b14 [V.int .i64 0, .int .i64 0, .isl true 0 []]) b13 (exC e1)) b14 (exC e2) = s5 at *
          have q3 := hk _ _ k3
          have q6 := hk _ _ k6
          have q10 := hk _ _ k10
          rw [W_draw]
          refine SRun.freeze (T' := [(1, .int .i64 a), (2, .int .i64 t), (3, .ptr b3 0), (6, .ptr b6 0), (8, .isl false 3 (exsV port4)), (10, .ptr b10 0), (43, .isl false 4 (filsV n.filters)), (44, .int .i64 n.filters.length), (45, .int .i64 (k : Nat)), (13, .ptr b13 0), (14, .ptr b14 0)]) (σ' := s5) (fun _ _ h => h) ⟨?_, ?_, ?_, ?_, ?_, ?_, ?_, ?_, ?_, ?_, ?_, trivial⟩ ?_
          all_goals try (simp only [look_cons, Nat.reduceEqDiff, ↓reduceIte, t1, t2, t3, t6, t8, t10, t43, t44, t45, t13, t14]; exact .refl _)
          refine DRun.start (DRun.mixE rfl ?_)
          simp (disch := omega) only [q10, q13, q14, go_sem, ↓if_pos, ne_eq, ↓reduceIte]
          refine DS.callB (implEx_ok (k := 3) (ks := [e1]) (e := true)) ⟨[], rfl, rfl⟩ rfl rfl ?_
          simp (disch := omega) only [go_sem, ↓if_pos, ne_eq, ↓reduceIte]
          refine DS.callB (implEx_ok (k := 3) (ks := [e2]) (e := true)) ⟨[], rfl, rfl⟩ rfl rfl ?_
          simp (disch := omega) only [go_sem, ↓if_pos, ne_eq, ↓reduceIte]
          refine DS.callB (implEx_ok (k := 4) (ks := [nodeE 3 [e1], nodeE 3 [e2]]) (e := true)) ⟨[], rfl, rfl⟩ rfl rfl ?_
          simp (disch := omega) only [go_sem, ↓if_pos, ne_eq, ↓reduceIte]
          refine DRun.callQ (implEx_ok (k := 5) (ks := [e, nodeE 4 [nodeE 3 [e1], nodeE 3 [e2]]]) (e := true)) ⟨[], rfl, rfl⟩ ?_
          rintro r s ⟨rfl, hs⟩
          obtain rfl := hs.symm
          simp (disch := omega) only [q10, go_sem, ↓if_pos, ne_eq, ↓reduceIte]
          have n310 : b3 ≠ b10 := n103.symm
          have n610 : b6 ≠ b10 := n106.symm
          exact ih (k + 1, upd s5 b10 (exC (nodeE 5 [e, nodeE 4 [nodeE 3 [e1], nodeE 3 [e2]]]))) _ _ ⟨by simp only; omega, by dsimp only; rw [upd_ne _ _ n310]; exact q3, by dsimp only; rw [upd_ne _ _ n610]; exact q6, by dsimp only; rw [hsucc]; exact upd_same _ _ _, fun d y h => by dsimp only; rw [upd_ne _ _ (hσ2 d y h).2.1]; exact hk _ _ (kσ _ _ h)⟩ (by simp only; omega) (by simp (disch := omega) only [subT, Int.natCast_add, Int.cast_ofNat_Int, go_sem, ↓if_pos, ne_eq, ↓reduceIte] <;> (repeat' apply And.intro) <;> first | rfl | (congr 1; omega) | assumption) rfl
    · have hkl : k = n.filters.length := by omega
      rw [hkl, List.take_length] at h10
      have hsz := filE_size a t n.filters
      generalize filE a t n.filters = e at *
      simp (disch := omega) only [h10, go_sem, ↓if_pos, ne_eq, ↓reduceIte]
      refine SRun.callR (checkedEx_ok (e := e) (by omega)) ⟨[], rfl, rfl⟩ rfl ?_
      have hA : exA e = bif okE e then .tup [exV e, .int .i64 0] else .tup [exV zeroE, .int .i64 11] := rfl
      rw [hA]
      cases okE e with
      | true =>
        dsimp only [cond_true]
        simp (disch := omega) only [h6, go_sem, ↓if_pos, ne_eq, ↓reduceIte]
        exact W_retC c43_ok (r := .tup [.agg (exC e), .int .i64 0]) (r' := .tup [exV e, .int .i64 0]) (σ' := σ) (resV_2E rfl (upd_same _ _ _) (exC_len e).symm) ⟨fun d x hd => by rw [upd_ne _ _ (hσ d x hd).1]; exact hle _ _ hd, frz_tup (by exact ⟨by rw [agg_exC]; exact .refl _, .refl _, trivial⟩)⟩ ⟨rfl, rfl⟩
      | false =>
        dsimp only [cond_false]
        simp (disch := omega) only [h6, go_sem, ↓if_pos, ne_eq, ↓reduceIte]
        exact W_retC c43_ok (r := .tup [.agg (exC zeroE), .int .i64 11]) (r' := .tup [exV zeroE, .int .i64 11]) (σ' := σ) (resV_2E rfl (upd_same _ _ _) (exC_len zeroE).symm) ⟨fun d x hd => by rw [upd_ne _ _ (hσ d x hd).1]; exact hle _ _ hd, frz_tup (by exact ⟨by rw [agg_exC]; exact .refl _, .refl _, trivial⟩)⟩ ⟨rfl, rfl⟩
end
end Go.Proofs.Ytlidjjjpjndneaa.Lg
