/- What is told of the functions that are reached, as far as it is asked here. -/
import Derived.Test.YtabelcohkpmpnaaGreatKq2
import Derived.KernelRfl
set_option linter.unusedSimpArgs false
set_option linter.unusedVariables false
namespace Go.Proofs.YtabelcohkpmpnaaGreat.Lg
open Go
section
attribute [local irreducible] SRun DS DRun
variable {Γ : St} {σ σ0 : St}
theorem rtsV_len (rs : List Rt) : (rtsV rs).length = rs.length := by simp [rtsV]
section
variable {P : Program} {f : FuncId} {n : Nat} {Q : V → St → Prop} {k : List It} {T : Ts} {g : GI} {l : List GI}
theorem stepW_iaddr_rts {ex : Bool} {xs : List Rt} {kk : IntKind} {m : Int} (h0 : 0 ≤ m) (h1 : m < xs.length) : stepW P Γ f n Q (.iaddr 4 (.c (.isl ex 4 (rtsV xs))) (.c (.int kk m))) g l k T σ = W P Γ f n Q (.ops l :: k) (putT T g.d (.iptr (rtC (xs.getD m.toNat default)))) σ := stepW_iaddr_map h0 h1
theorem stepK_iaddr_rts {K : V → St → Prop} {ex : Bool} {xs : List Rt} {kk : IntKind} {m : Int} (h0 : 0 ≤ m) (h1 : m < xs.length) : stepK (.iaddr 4 (.c (.isl ex 4 (rtsV xs))) (.c (.int kk m))) σ K = K (.iptr (rtC (xs.getD m.toNat default))) σ := stepK_iaddr_map h0 h1
theorem stepW_iaddr_bools {ex : Bool} {xs : List Bool} {kk : IntKind} {m : Int} (h0 : 0 ≤ m) (h1 : m < xs.length) : stepW P Γ f n Q (.iaddr 1 (.c (.isl ex 1 (bools xs))) (.c (.int kk m))) g l k T σ = W P Γ f n Q (.ops l :: k) (putT T g.d (.iptr [.bool (xs.getD m.toNat false)])) σ := stepW_iaddr_map h0 h1
theorem stepK_iaddr_bools {K : V → St → Prop} {ex : Bool} {xs : List Bool} {kk : IntKind} {m : Int} (h0 : 0 ≤ m) (h1 : m < xs.length) : stepK (.iaddr 1 (.c (.isl ex 1 (bools xs))) (.c (.int kk m))) σ K = K (.iptr [.bool (xs.getD m.toNat false)]) σ := stepK_iaddr_map h0 h1
end
attribute [go_sem] stepW_iaddr_rts stepK_iaddr_rts rtsV_len stepW_iaddr_bools stepK_iaddr_bools bools_len
theorem rt_one (r : Rt) : ∀ c ∈ rtC r, c.one = true := by simp [rtC, V.one]
theorem rts_ok (rs : List Rt) : ∀ y ∈ rtsV rs, y.cells.length = 4 ∧ ∀ c ∈ y.cells, c.one = true := by
 intro y hy; simp only [rtsV, List.mem_map] at hy; obtain ⟨x, _, rfl⟩ := hy; simp [V.cells, rtC, V.one]
theorem rt1_ok (r : Rt) : ∀ y ∈ [V.agg (rtC r)], y.cells.length = 4 ∧ ∀ c ∈ y.cells, c.one = true := rts_ok [r]
theorem rts_app (rs : List Rt) (r : Rt) : rtsV rs ++ [.agg (rtC r)] = rtsV (rs ++ [r]) := by simp [rtsV]
theorem le_two {b c : Nat} (hb : σ b = none) (hc : σ c = none) (y z : List V) : ∀ d x, σ d = some x → upd (upd σ b y) c z d = some x := by
 intro d x h
 have h1 : d ≠ c := fun e => by subst e; rw [h] at hc; cases hc
 have h2 : d ≠ b := fun e => by subst e; rw [h] at hb; cases hb
 rw [upd_ne _ _ h1, upd_ne _ _ h2]; exact h
/-- What is owned beside what is not needed any more. -/
theorem ownL_less {σ1 s : St} {es : Nat} {xs : List V} {q : V} (h : OwnL σ1 es xs q s) (hle : ∀ b c, σ b = some c → σ1 b = some c) : ∃ s2, (∀ b c, s2 b = some c → s b = some c) ∧ OwnL σ es xs q s2 := by
 rcases h.1 with ⟨hc, hl, rfl, es', rfl⟩ | ⟨b2, cap, hb, rfl, rfl, h4⟩
 ·exact ⟨σ, hle, .inl ⟨hc, hl, rfl, es', rfl⟩, h.2⟩
 ·have hb2 : σ b2 = none := by
   cases e : σ b2 with
   | none => rfl
   | some c => rw [hle _ _ e] at hb; cases hb
  refine ⟨upd σ b2 (flat xs), fun b c hbc => ?_, .inr ⟨b2, cap, hb2, rfl, rfl, h4⟩, h.2⟩
  by_cases e : b = b2
  ·subst e; rw [upd_same] at hbc ⊢; exact hbc
  ·rw [upd_ne _ _ e] at hbc ⊢; exact hle _ _ hbc
theorem l07None_ok : Ret Tryz.prog Γ 122 [] σ (.agg (rtC noRt)) σ := by
 refine ret_of c122_ok rfl ?_
 simp (disch := omega) only [c122, go_sem]
 refine SRun.allocR ?_
 intro b hb
 simp (disch := omega) only [go_sem]
 exact W_retC c122_ok (resV_cellA rfl (upd_same _ _ _) rfl) (Conv.drop _ (le_upd hb)) ⟨rfl, rfl⟩
theorem l07Has_ok {ex : Bool} {xs : List Int} {x : Int} (hl : xs.length ≤ 1000000000000) : Ret Tryz.prog Γ 156 [.isl ex 1 (ints xs), .int .i64 x] σ (.int .i64 (hasI xs x)) σ := by
 refine ret_of c156_ok rfl ?_
 simp (disch := omega) only [c156, go_sem]
 refine W_loopC (α := Nat) (fun i => i ≤ xs.length ∧ ∀ j, j < i → decide (xs.getD j default = x) = false) (fun i => [(0, .isl ex 1 (ints xs)), (1, .int .i64 x), (5, .int .i64 (i : Nat))]) (fun _ => σ) (fun i => xs.length - i) 0 ⟨by omega, fun j hj => by omega⟩ (by simp (disch := omega) only [subT, Int.natCast_add, Int.cast_ofNat_Int, go_sem] <;> (repeat' apply And.intro) <;> first | rfl | (congr 1; omega) | assumption) rfl ?_
 rintro i ⟨hi, hno⟩ ih
 simp (disch := omega) only [go_sem]
 first | refine iteW_dec (fun hq => ?_) (fun hq => ?_) | refine iteW_of (fun hq => ?_) (fun hq => ?_)
 ·simp (disch := omega) only [go_sem]
  first | refine iteW_dec (fun h2 => ?_) (fun h2 => ?_) | refine iteW_of (fun h2 => ?_) (fun h2 => ?_)
  ·have := first_some (p := fun y => decide (y = x)) (xs := xs) (i := i) (by omega) hno (decide_eq_true h2)
   simp (disch := omega) only [go_sem]
   exact W_retR c156_ok rfl ⟨by rw [hasI, this]; rfl, rfl⟩
  ·simp (disch := omega) only [go_sem]
   refine ih (i + 1) _ _ ⟨by omega, fun j hj => ?_⟩ (by omega) (by simp (disch := omega) only [subT, Int.natCast_add, Int.cast_ofNat_Int, go_sem] <;> (repeat' apply And.intro) <;> first | rfl | (congr 1; omega) | assumption) rfl
   by_cases e : j = i
   ·subst e; exact decide_eq_false h2
   ·exact hno j (by omega)
 ·have hil : i = xs.length := by omega
  rw [hil] at hno
  have := first_none (p := fun y => decide (y = x)) (xs := xs) hno
  simp (disch := omega) only [go_sem]
  exact W_retR c156_ok rfl ⟨by rw [hasI, this]; rfl, rfl⟩
theorem l07Better_ok {a b : Rt} : Ret Tryz.prog Γ 163 [.agg (rtC a), .agg (rtC b)] σ (.bool (betterP a b)) σ := by
 refine ret_of c163_ok rfl ?_
 simp (disch := omega) only [c163, rtC, go_sem]
 refine SRun.boxR (by simp [ev, look, V.cells, V.one]) ?_
 intro b2 hb2
 simp (disch := omega) only [go_sem]
 refine SRun.boxR (by simp [ev, look, V.cells, V.one]) ?_
 intro b3 hb3
 have n32 := (upd_none.1 hb3).1
 have n3 := (upd_none.1 hb3).2
 have hle := le_two hb2 n3
 unfold betterP
 simp (disch := omega) only [n32.symm, go_sem]
 first | refine iteW_dec (fun h1 => ?_) (fun h1 => ?_) | refine iteW_of (fun h1 => ?_) (fun h1 => ?_)
 ·rw [if_pos h1]
  simp (disch := omega) only [n32.symm, go_sem]
  exact W_retC c163_ok rfl (Conv.drop _ (hle _ _)) ⟨rfl, rfl⟩
 ·rw [if_neg h1]
  simp (disch := omega) only [n32.symm, go_sem]
  first | refine iteW_dec (fun h2 => ?_) (fun h2 => ?_) | refine iteW_of (fun h2 => ?_) (fun h2 => ?_)
  ·rw [if_pos h2]
   simp (disch := omega) only [n32.symm, go_sem]
   exact W_retC c163_ok rfl (Conv.drop _ (hle _ _)) ⟨rfl, rfl⟩
  ·rw [if_neg h2]
   simp (disch := omega) only [n32.symm, go_sem]
   exact W_retC c163_ok rfl (Conv.drop _ (hle _ _)) ⟨rfl, rfl⟩
end
section
attribute [local irreducible] SRun DS DRun
variable {Γ : St} {σ σ0 : St}
theorem filter_range_snoc {p : Nat → Bool} (i : Nat) : (List.range (i + 1)).filter p = (List.range i).filter p ++ if p i then [i] else [] := by
 rw [List.range_succ, List.filter_append]
 cases h : p i <;> simp [h]
theorem hasI_in (xs : List Int) (x : Int) : -1 ≤ hasI xs x ∧ hasI xs x < xs.length := first_in _ _
theorem linkP_in (ls : List Link) (x y : Int) : -1 ≤ linkP ls x y ∧ linkP ls x y < ls.length := first_in _ _
theorem l06Neighbours_own {n : Net} {ex : Bool} {down : List Bool} {r : Int} (hn : n.routers.length ≤ 100000000) (hl : n.links.length ≤ 1000000000000) (hd : down.length = n.links.length) :
  ACalls Tryz.prog Γ 160 [netV n, .int .i64 r, .isl ex 1 (bools down)] σ fun q s => OwnL σ 1 (ints (nearP n r down)) q s := by
 have e0 : (netC n)[0]? = some (.isl false 1 (strsV n.routers)) := rfl
 have e1 : (netC n)[1]? = some (.isl false 3 (linksV n.links)) := rfl
 refine acalls_W c160_ok rfl ?_
 simp (disch := omega) only [c160, netV, go_sem]
 refine SRun.boxR (net_one n) ?_
 intro b3 hb3
 have g3 := upd_same σ b3 (netC n)
 simp (disch := omega) only [go_sem]
 refine W_loopC (α := Nat × V × St) (fun p => p.1 ≤ n.routers.length ∧ OwnL (upd σ b3 (netC n)) 1 (ints (((List.range p.1).filter (nearB n r down)).map fun (k : Nat) => (k : Int))) p.2.1 p.2.2) (fun p => [(1, .int .i64 r), (2, .isl ex 1 (bools down)), (3, .ptr b3 0), (7, p.2.1), (8, .int .i64 (p.1 : Nat))]) (fun p => p.2.2) (fun p => n.routers.length - p.1) (0, .isl true 1 [], _) ⟨by simp, OwnL.nil _ _⟩ (by simp (disch := omega) only [subT, Int.natCast_add, Int.cast_ofNat_Int, go_sem] <;> (repeat' apply And.intro) <;> first | rfl | (congr 1; omega) | assumption) rfl ?_
 rintro ⟨i, q, s⟩ ⟨hi, ho⟩ ih
 dsimp only at hi ho
 have g3' := ho.get g3
 have hq1 := ho.one
 simp (disch := omega) only [g3', e0, go_sem]
 first | refine iteW_dec (fun h1 => ?_) (fun h1 => ?_) | refine iteW_of (fun h1 => ?_) (fun h1 => ?_)
 ·have hf := filter_range_snoc (p := nearB n r down) i
  have hlen : ((List.range i).filter (nearB n r down)).length ≤ i := by have := List.length_filter_le (nearB n r down) (List.range i); simpa using this
  simp (disch := omega) only [g3', e1, go_sem]
  refine SRun.callR (l06Link_ok (ex := false) (ls := n.links) (x := r) (y := i) hl) ⟨[], rfl, rfl⟩ rfl ?_
  have hlk := linkP_in n.links r i
  by_cases h2 : linkP n.links r i ≥ 0
  ·have hd2 : decide (linkP n.links r i ≥ 0) = true := decide_eq_true h2
   have hnb : nearB n r down i = !down.getD (linkP n.links r i).toNat false := by unfold nearB; rw [decide_eq_true h2]; rfl
   simp (disch := omega) only [hd2, go_sem]
   generalize down.getD (linkP n.links r i).toNat false = dn at *
   cases dn with
   | false =>
    simp (disch := omega) only [go_sem]
    refine SRun.appL ho rfl (ints_ok [(i : Int)]) (by simp [ints]; omega) ?_
    intro q' s' ho2
    rw [ints_app] at ho2
    simp (disch := omega) only [go_sem]
    rw [hnb] at hf
    refine ih (i + 1, q', s') _ _ ⟨by simp only; omega, by rw [hf]; simpa using ho2⟩ (by simp only; omega) (by simp (disch := omega) only [subT, Int.natCast_add, Int.cast_ofNat_Int, go_sem] <;> (repeat' apply And.intro) <;> first | rfl | (congr 1; omega) | assumption) rfl
   | true =>
    simp (disch := omega) only [go_sem]
    rw [hnb] at hf
    refine ih (i + 1, q, s) _ _ ⟨by simp only; omega, by rw [hf]; simpa using ho⟩ (by simp only; omega) (by simp (disch := omega) only [subT, Int.natCast_add, Int.cast_ofNat_Int, go_sem] <;> (repeat' apply And.intro) <;> first | rfl | (congr 1; omega) | assumption) rfl
  ·have hd2 : decide (linkP n.links r i ≥ 0) = false := decide_eq_false h2
   have hnb : nearB n r down i = false := by unfold nearB; rw [decide_eq_false h2]; rfl
   simp (disch := omega) only [hd2, go_sem]
   rw [hnb] at hf
   refine ih (i + 1, q, s) _ _ ⟨by simp only; omega, by rw [hf]; simpa using ho⟩ (by simp only; omega) (by simp (disch := omega) only [subT, Int.natCast_add, Int.cast_ofNat_Int, go_sem] <;> (repeat' apply And.intro) <;> first | rfl | (congr 1; omega) | assumption) rfl
 ·have hir : i = n.routers.length := by omega
  subst hir
  obtain ⟨s2, hle, ho2⟩ := ho.drop hb3
  simp (disch := omega) only [go_sem]
  exact W_retC c160_ok rfl (Conv.drop _ hle) ho2
theorem l06Neighbours_ok {n : Net} {ex : Bool} {down : List Bool} {r : Int} (hn : n.routers.length ≤ 100000000) (hl : n.links.length ≤ 1000000000000) (hd : down.length = n.links.length) :
  Ret Tryz.prog Γ 160 [netV n, .int .i64 r, .isl ex 1 (bools down)] σ (.isl false 1 (ints (nearP n r down))) σ :=
 ACalls.conv (l06Neighbours_own hn hl hd) fun q s ho => ⟨_, σ, ho.conv, rfl, rfl⟩
/-- The vias of routes name routers. -/
def ViasIn (rs : List Rt) : Prop := ∀ v : Int, (rtAt rs v).via < rs.length
theorem l07Through_ok {ex : Bool} {rs : List Rt} {from_ router : Int} (hl : rs.length ≤ 1000000000000) (hv : ViasIn rs) (hf : from_ < rs.length) :
  Ret Tryz.prog Γ 161 [.isl ex 4 (rtsV rs), .int .i64 from_, .int .i64 router] σ (.bool (throughP rs from_ router)) σ := by
 refine ret_of c161_ok rfl ?_
 simp (disch := omega) only [c161, go_sem]
 refine W_loopC (α := Nat × Int) (fun p => p.1 ≤ rs.length + 1 ∧ p.2 < rs.length ∧ throughP rs from_ router = thr rs router (rs.length + 1 - p.1) p.2) (fun p => [(0, .isl ex 4 (rtsV rs)), (2, .int .i64 router), (7, .int .i64 p.2), (8, .int .i64 (p.1 : Nat))]) (fun _ => σ) (fun p => rs.length + 1 - p.1) (0, from_) ⟨by simp, hf, rfl⟩ (by simp (disch := omega) only [subT, Int.natCast_add, Int.cast_ofNat_Int, go_sem] <;> (repeat' apply And.intro) <;> first | rfl | (congr 1; omega) | assumption) rfl ?_
 rintro ⟨i, k⟩ ⟨hi, hk, he⟩ ih
 dsimp only at hi hk he
 simp (disch := omega) only [go_sem]
 first | refine iteW_dec (fun h1 => ?_) (fun h1 => ?_) | refine iteW_of (fun h1 => ?_) (fun h1 => ?_)
 ·obtain ⟨m, hm⟩ : ∃ m, rs.length + 1 - i = m + 1 := ⟨rs.length - i, by omega⟩
  rw [hm] at he
  simp only [thr] at he
  simp (disch := omega) only [go_sem]
  first | refine iteW_dec (fun h2 => ?_) (fun h2 => ?_) | refine iteW_of (fun h2 => ?_) (fun h2 => ?_)
  ·rw [if_pos h2] at he
   rw [he]
   simp (disch := omega) only [go_sem]
   exact W_retR c161_ok rfl ⟨rfl, rfl⟩
  ·rw [if_neg h2] at he
   simp (disch := omega) only [go_sem]
   by_cases h3 : k < 0
   ·have hd3 : decide (k < 0) = true := decide_eq_true h3
    rw [if_pos h3] at he
    rw [he]
    simp (disch := omega) only [hd3, go_sem]
    exact W_retR c161_ok rfl ⟨rfl, rfl⟩
   ·have hd3 : decide (k < 0) = false := decide_eq_false h3
    rw [if_neg h3] at he
    have hvk := hv k
    have hrt : rtAt rs k = rs.getD k.toNat default := rfl
    simp (disch := omega) only [hd3, rtC, go_sem]
    rw [← hrt]
    by_cases h4 : (rtAt rs k).via < 0
    ·have hd4 : decide ((rtAt rs k).via < 0) = true := decide_eq_true h4
     rw [if_pos h4] at he
     rw [he]
     simp (disch := omega) only [hd4, go_sem]
     exact W_retR c161_ok rfl ⟨rfl, rfl⟩
    ·have hd4 : decide ((rtAt rs k).via < 0) = false := decide_eq_false h4
     rw [if_neg h4] at he
     simp (disch := omega) only [hd4, rtC, go_sem]
     rw [← hrt]
     exact ih (i + 1, (rtAt rs k).via) _ _ ⟨by simp only; omega, hvk, by rw [he]; congr 1; simp only; omega⟩ (by simp only; omega) (by simp (disch := omega) only [subT, Int.natCast_add, Int.cast_ofNat_Int, go_sem] <;> (repeat' apply And.intro) <;> first | rfl | (congr 1; omega) | assumption) rfl
 ·have hir : rs.length + 1 - i = 0 := by omega
  rw [hir] at he
  rw [he]
  simp (disch := omega) only [go_sem]
  exact W_retR c161_ok rfl ⟨rfl, rfl⟩
/-- What is imported, as a route: none if it is denied. -/
def rtO : Option Rt → Rt | some r => r | none => noRt
set_option maxHeartbeats 1000000 in
theorem l07Import_ok {n : Net} {router from_ : Int} {r : Rt} (hl : n.links.length ≤ 1000000000000) (hi : n.imports.length ≤ 1000000000000) (hlk : 0 ≤ linkP n.links router from_) (hr : 0 ≤ r.len ∧ r.len ≤ 1000000000) (hc : ∀ l ∈ n.links, 1 ≤ l.cost ∧ l.cost ≤ 100) :
  Ret Tryz.prog Γ 162 [netV n, .int .i64 router, .int .i64 from_, .agg (rtC r)] σ (.agg (rtC (rtO (importO n router from_ r)))) σ := by
 have e1 : (netC n)[1]? = some (.isl false 3 (linksV n.links)) := rfl
 have e4 : (netC n)[4]? = some (.isl false 5 (impsV n.imports)) := rfl
 have hlk2 := (linkP_in n.links router from_).2
 have hcost := hc _ (getD_mem default (by omega : (linkP n.links router from_).toNat < n.links.length))
 refine ret_of c162_ok rfl ?_
 simp (disch := omega) only [c162, netV, go_sem]
 refine SRun.boxR (net_one n) ?_
 intro b4 hb4
 simp (disch := omega) only [go_sem]
 refine SRun.boxR (rt_one r) ?_
 intro b7 hb7
 have n74 := (upd_none.1 hb7).1
 have n7 := (upd_none.1 hb7).2
 simp (disch := omega) only [go_sem]
 refine SRun.allocR ?_
 intro b8 hb8
 have n8 := upd_none.1 hb8
 have n8' := upd_none.1 n8.2
 have g4 : ∀ z, upd (upd (upd σ b4 (netC n)) b7 (rtC r)) b8 z b4 = some (netC n) := fun z => by rw [upd_ne _ _ n8'.1.symm, upd_ne _ _ n74.symm, upd_same]
 have g7 : ∀ z, upd (upd (upd σ b4 (netC n)) b7 (rtC r)) b8 z b7 = some (rtC r) := fun z => by rw [upd_ne _ _ n8.1.symm, upd_same]
 have g8 := fun z => upd_same (upd (upd σ b4 (netC n)) b7 (rtC r)) b8 z
 have hσ : ∀ z d x, σ d = some x → upd (upd (upd σ b4 (netC n)) b7 (rtC r)) b8 z d = some x := fun z d x h => le_upd hb8 _ _ (le_two hb4 n7 _ _ _ _ h)
 have hσ8 := hσ [.int .i64 0, .int .i64 0, .int .i64 0, .bool false]
 have g48 := g4 [.int .i64 0, .int .i64 0, .int .i64 0, .bool false]
 have g78 := g7 [.int .i64 0, .int .i64 0, .int .i64 0, .bool false]
 have g88 := g8 [.int .i64 0, .int .i64 0, .int .i64 0, .bool false]
 generalize upd (upd (upd σ b4 (netC n)) b7 (rtC r)) b8 [.int .i64 0, .int .i64 0, .int .i64 0, .bool false] = s1 at *
 simp (disch := omega) only [go_sem]
 rw [W_draw]
 refine DRun.start (DRun.mixNR (fun T s' => ∃ b9, s1 b9 = none ∧ s' = upd emp b9 [.int .i64 0, .int .i64 0, .int .i64 0, .bool false] ∧ look T 1 = .int .i64 router ∧ look T 2 = .int .i64 from_ ∧ look T 4 = .ptr b4 0 ∧ look T 8 = .ptr b8 0 ∧ look T 9 = .ptr b9 0 ∧ look T 28 = .agg (rtC ⟨from_, 100, r.len + (linkAtP n router from_).cost, r.mark⟩)) rfl ?_ ?_)
 ·have hlc : ∀ l, linkC l = [.int .i64 l.a, .int .i64 l.b, .int .i64 l.cost] := fun _ => rfl
  simp (disch := omega) only [g78, g48, e1, rtC, go_sem]
  refine DS.wr2 (WrF.call (l06Link_ok (ex := false) (ls := n.links) (x := router) (y := from_) hl) ⟨[], rfl, rfl⟩) rfl ?_ ?_
  ·rintro x s ⟨rfl, hs⟩ hd
   obtain rfl := hs.symm
   simp (disch := omega) only [hlc, go_sem]
   refine DS.wrQ WrF.alloc rfl ?_
   rintro _ s9 ⟨b9, hb9, rfl, rfl⟩ hd9
   refine ⟨b9, disj_new hd9, ?_⟩
   (repeat' apply And.intro) <;> rfl
  ·refine DS.wrQ WrF.alloc rfl ?_
   rintro _ s9 ⟨b9, hb9, rfl, rfl⟩ hd9
   simp (disch := omega) only [go_sem]
   refine DS.wrQ (WrF.call (l06Link_ok (ex := false) (ls := n.links) (x := router) (y := from_) hl) ⟨[], rfl, rfl⟩) rfl ?_
   rintro x s ⟨rfl, hs⟩ hd
   obtain rfl := hs.symm
   simp (disch := omega) only [hlc, go_sem]
   refine ⟨b9, disj_new hd9, ?_⟩
   (repeat' apply And.intro) <;> rfl
 rintro T s' ⟨b9, hb9, rfl, k1, k2, k4, k8, k9, k28⟩
 rw [cup_new]
 have n94 : b9 ≠ b4 := fun e => by subst e; rw [g48] at hb9; cases hb9
 have n98 : b9 ≠ b8 := fun e => by subst e; rw [g88] at hb9; cases hb9
 simp (disch := omega) only [k9, k28, go_sem]
 have himp : importO n router from_ r = impGo router from_ n.imports ⟨from_, 100, r.len + (linkAtP n router from_).cost, r.mark⟩ := rfl
 generalize (⟨from_, 100, r.len + (linkAtP n router from_).cost, r.mark⟩ : Rt) = r0 at *
 have hs1 : ∀ d z, s1 d = some z → upd s1 b9 (rtC r0) d = some z := le_upd hb9
 refine W_loopC (α := Nat × Rt × St) (fun p => p.1 ≤ n.imports.length ∧ p.2.2 b9 = some (rtC p.2.1) ∧ (∀ d z, s1 d = some z → p.2.2 d = some z) ∧ importO n router from_ r = impGo router from_ (n.imports.drop p.1) p.2.1) (fun p => [(1, .int .i64 router), (2, .int .i64 from_), (4, .ptr b4 0), (8, .ptr b8 0), (9, .ptr b9 0), (10, .int .i64 (p.1 : Nat))]) (fun p => p.2.2) (fun p => n.imports.length - p.1) (0, r0, _) ⟨by simp, upd_same _ _ _, hs1, by rw [himp]; rfl⟩ (by simp (disch := omega) only [subT, Int.natCast_add, Int.cast_ofNat_Int, k1, k2, k4, k8, k9, go_sem] <;> (repeat' apply And.intro) <;> first | rfl | (congr 1; omega) | assumption) rfl ?_
 clear himp
 rintro ⟨i, cur, s⟩ ⟨hi2, hc9, hle, he⟩ ih
 dsimp only at hi2 hc9 hle he
 have g4' := hle _ _ g48
 have g8' := hle _ _ g88
 have hcr : rtC cur = [.int .i64 cur.via, .int .i64 cur.pref, .int .i64 cur.len, .bool cur.mark] := rfl
 have hend : resV [.cell 8 true 4] = resV [.cell 8 true 4] := rfl
 simp (disch := omega) only [g4', e4, go_sem]
 first | refine iteW_dec (fun h1 => ?_) (fun h1 => ?_) | refine iteW_of (fun h1 => ?_) (fun h1 => ?_)
 ·have hdr := drop_cons (xs := n.imports) default (by omega : i < n.imports.length)
  rw [hdr, impGo] at he
  simp (disch := omega) only [g4', e4, go_sem]
  generalize n.imports.getD i default = x at *
  refine SRun.allocR ?_
  intro b11 hb11
  have n11 : b9 ≠ b11 := fun e => by subst e; rw [hc9] at hb11; cases hb11
  have n11b : b11 ≠ b9 := n11.symm
  have n8b : b8 ≠ b9 := n98.symm
  have n118 : b8 ≠ b11 := fun e => by subst e; rw [g8'] at hb11; cases hb11
  have hle3 : ∀ z, ∀ d y, s1 d = some y → upd s b11 z d = some y := fun z d y h => le_upd hb11 _ _ (hle _ _ h)
  have hic : impC x = [.int .i64 x.at_, .int .i64 x.from_, .int .i64 x.when_, .int .i64 x.do_, .int .i64 x.n] := rfl
  clear hcr
  obtain ⟨cv, cp, cl, mk⟩ := cur
  have hcr : rtC ⟨cv, cp, cl, mk⟩ = [.int .i64 cv, .int .i64 cp, .int .i64 cl, .bool mk] := rfl
  dsimp only at he
  have hdef : impSkip router from_ x ⟨cv, cp, cl, mk⟩ = (!decide (x.at_ = router) || !decide (x.from_ = from_) || (decide (x.when_ = 1) && !mk) || (decide (x.when_ = 2) && mk)) := rfl
  have m1 : (decide ¬ x.at_ = router) = !decide (x.at_ = router) := by simp
  have m2 : (decide ¬ x.from_ = from_) = !decide (x.from_ = from_) := by simp
  generalize decide (x.at_ = router) = q1 at *
  generalize decide (x.from_ = from_) = q2 at *
  generalize m3 : decide (x.when_ = 1) = q3 at *
  generalize m4 : decide (x.when_ = 2) = q4 at *
  by_cases hsk : impSkip router from_ x ⟨cv, cp, cl, mk⟩ = true
  ·rw [if_pos hsk] at he
   rw [hdef] at hsk
   cases q1
   case' true =>
    cases q2
    case' true =>
     cases q3 <;> cases q4 <;> cases mk
   all_goals
    first
    | (exfalso; revert hsk; decide)
    | skip
   all_goals
    simp (disch := omega) only [hc9, n11, n11b, hic, hcr, m1, m2, m3, m4, go_sem]
    exact ih (i + 1, ⟨cv, cp, cl, _⟩, upd s b11 [.int .i64 x.at_, .int .i64 x.from_, .int .i64 x.when_, .int .i64 x.do_, .int .i64 x.n]) _ _ ⟨by simp only; omega, (upd_ne _ _ n11).trans hc9, hle3 _, he⟩ (by simp only; omega) (by simp (disch := omega) only [subT, Int.natCast_add, Int.cast_ofNat_Int, go_sem] <;> (repeat' apply And.intro) <;> first | rfl | (congr 1; omega) | assumption) rfl
  ·rw [if_neg hsk] at he
   rw [hdef] at hsk
   cases q1
   case' true =>
    cases q2
    case' true =>
     cases q3 <;> cases q4 <;> cases mk
   all_goals
    first
    | (exfalso; revert hsk; simp; done)
    | skip
   all_goals
    simp (disch := omega) only [hc9, n11, n11b, hic, hcr, m1, m2, m3, m4, go_sem]
    have g8'' : ∀ z, upd s b11 z b8 = some [.int .i64 0, .int .i64 0, .int .i64 0, .bool false] := fun z => by rw [upd_ne _ _ n118]; exact g8'
    by_cases d1 : x.do_ = 1
    ·have dd1 : decide (x.do_ = 1) = true := decide_eq_true d1
     rw [if_pos d1] at he
     simp (disch := omega) only [dd1, go_sem]
     refine SRun.callR l07None_ok ⟨[], rfl, rfl⟩ rfl ?_
     have hnr : rtC noRt = [.int .i64 (-3), .int .i64 0, .int .i64 0, .bool false] := rfl
     simp (disch := omega) only [g8'', hnr, go_sem]
     refine W_retC c162_ok (r := .agg (rtC noRt)) (resV_cellA rfl (upd_same _ _ _) rfl) (Conv.drop _ fun d z h => ?_) ⟨by rw [he]; rfl, rfl⟩
     have hd8 : d ≠ b8 := fun e => by subst e; rw [n8'.2] at h; cases h
     rw [upd_ne _ _ hd8]; exact hle3 _ _ _ (hσ8 _ _ h)
    ·have dd1 : decide (x.do_ = 1) = false := decide_eq_false d1
     rw [if_neg d1] at he
     by_cases d2 : x.do_ = 2
     ·have dd2 : decide (x.do_ = 2) = true := decide_eq_true d2
      rw [if_pos d2] at he
      simp (disch := omega) only [dd1, dd2, hc9, n11, n11b, hcr, go_sem]
      refine ih (i + 1, ⟨cv, x.n, cl, _⟩, upd (upd s b11 [.int .i64 x.at_, .int .i64 x.from_, .int .i64 x.when_, .int .i64 x.do_, .int .i64 x.n]) b9 [.int .i64 cv, .int .i64 x.n, .int .i64 cl, .bool _]) _ _ ⟨by simp only; omega, upd_same _ _ _, fun d z h => ?_, he⟩ (by simp only; omega) (by simp (disch := omega) only [subT, Int.natCast_add, Int.cast_ofNat_Int, go_sem] <;> (repeat' apply And.intro) <;> first | rfl | (congr 1; omega) | assumption) rfl
      have hd9 : d ≠ b9 := fun e => by subst e; rw [hb9] at h; cases h
      try simp only
      rw [upd_ne _ _ hd9]; exact hle3 _ _ _ h
     ·have dd2 : decide (x.do_ = 2) = false := decide_eq_false d2
      rw [if_neg d2] at he
      simp (disch := omega) only [dd1, dd2, hc9, n11, n11b, hcr, go_sem]
      refine ih (i + 1, ⟨cv, cp, cl, decide (x.do_ = 3)⟩, upd (upd s b11 [.int .i64 x.at_, .int .i64 x.from_, .int .i64 x.when_, .int .i64 x.do_, .int .i64 x.n]) b9 [.int .i64 cv, .int .i64 cp, .int .i64 cl, .bool (decide (x.do_ = 3))]) _ _ ⟨by simp only; omega, upd_same _ _ _, fun d z h => ?_, he⟩ (by simp only; omega) (by simp (disch := omega) only [subT, Int.natCast_add, Int.cast_ofNat_Int, go_sem] <;> (repeat' apply And.intro) <;> first | rfl | (congr 1; omega) | assumption) rfl
      have hd9 : d ≠ b9 := fun e => by subst e; rw [hb9] at h; cases h
      try simp only
      rw [upd_ne _ _ hd9]; exact hle3 _ _ _ h
 ·have hil : i = n.imports.length := by omega
  rw [hil, List.drop_length, impGo] at he
  have ho : rtO (importO n router from_ r) = cur := by rw [he]; rfl
  have hc9' : s b9 = some [.int .i64 cur.via, .int .i64 cur.pref, .int .i64 cur.len, .bool cur.mark] := hc9
  simp (disch := omega) only [hc9, hcr, g8', go_sem]
  refine W_retC c162_ok (r := .agg (rtC cur)) (resV_cellA rfl (upd_same _ _ _) rfl) (Conv.drop _ fun d z h => ?_) ⟨by rw [ho], rfl⟩
  have hd8 : d ≠ b8 := fun e => by subst e; rw [n8'.2] at h; cases h
  rw [upd_ne _ _ hd8]; exact hle _ _ (hσ8 _ _ h)
end
section
attribute [local irreducible] SRun DS DRun
variable {Γ : St} {σ σ0 : St}
/-- Routes that are not too long, and name routers. -/
structure RtsW (rs : List Rt) : Prop where
 vias : ViasIn rs
 lens : ∀ v : Int, 0 ≤ (rtAt rs v).len ∧ (rtAt rs v).len ≤ 1000000000
set_option maxHeartbeats 1000000 in
theorem l07Candidates_own {n : Net} {ex ex2 ex3 : Bool} {env : List Int} {down : List Bool} {rs : List Rt} {router : Int} (hn : NetR n) (ho : n.origins.length ≤ 1000000000000) (he : env.length = n.externals.length) (hd : down.length = n.links.length) (hl : rs.length = n.routers.length) (hr : RtsW rs) :
  ACalls Tryz.prog Γ 151 [netV n, .int .i64 router, .isl ex 1 (ints env), .isl ex2 1 (bools down), .isl ex3 4 (rtsV rs)] σ fun q s => OwnL σ 4 (rtsV (candP n router env down rs)) q s := by
 have r4 := hn.r4
 have l6 := hn.l6
 have i12 := hn.i12
 have x2 := hn.x2
 have hlen : (netC n).take 6 = netC n := rfl
 have hlen2 : (netC n).length = 6 := rfl
 have e0 : (netC n)[0]? = some (.isl false 1 (strsV n.routers)) := rfl
 have e1 : (netC n)[1]? = some (.isl false 3 (linksV n.links)) := rfl
 have e2 : (netC n)[2]? = some (.isl false 1 (ints n.origins)) := rfl
 have e3 : (netC n)[3]? = some (.isl false 1 (ints n.externals)) := rfl
 refine acalls_W c151_ok rfl ?_
 simp (disch := omega) only [c151, netV, go_sem]
 refine SRun.boxR (net_one n) ?_
 intro b5 hb5
 have g5 := upd_same σ b5 (netC n)
 have hσ : ∀ d x, σ d = some x → upd σ b5 (netC n) d = some x := le_upd hb5
 simp (disch := omega) only [go_sem]
 generalize upd σ b5 (netC n) = s1 at *
 simp (disch := omega) only [g5, e2, go_sem]
 refine SRun.callR (l07Has_ok (ex := false) (xs := n.origins) (x := router) ho) ⟨[], rfl, rfl⟩ rfl ?_
 have hcand : candP n router env down rs = ownL n router ++ outL n router env ++ (nearP n router down).filterMap (viaO n router rs) := rfl
 simp (disch := omega) only [go_sem]
 refine iteW_join (fun T s => ∃ q, OwnL s1 4 (rtsV (ownL n router)) q s ∧ look T 1 = .int .i64 router ∧ look T 2 = .isl ex 1 (ints env) ∧ look T 3 = .isl ex2 1 (bools down) ∧ look T 4 = .isl ex3 4 (rtsV rs) ∧ look T 5 = .ptr b5 0 ∧ look T 11 = q) (fun k' key => ?_) ?_
 ·by_cases h1 : hasI n.origins router ≥ 0
  ·have hd1 : decide (hasI n.origins router ≥ 0) = true := decide_eq_true h1
   simp (disch := omega) only [hd1, go_sem]
   refine SRun.appL (OwnL.nil _ 4) rfl (rt1_ok ⟨-2, 200, 0, false⟩) (by simp) ?_
   intro q s ho1
   simp (disch := omega) only [go_sem]
   refine key _ _ ⟨q, ?_, rfl, rfl, rfl, rfl, rfl, rfl⟩
   unfold ownL; rw [if_pos (by omega)]; exact ho1
  ·have hd1 : decide (hasI n.origins router ≥ 0) = false := decide_eq_false h1
   simp (disch := omega) only [hd1, go_sem]
   refine key _ _ ⟨_, ?_, rfl, rfl, rfl, rfl, rfl, rfl⟩
   unfold ownL; rw [if_neg (by omega)]; exact OwnL.nil _ 4
 rintro T s ⟨q, ho1, k1, k2, k3, k4, k5, k11⟩
 have hx1 : n.externals.length ≤ 1000000000000 := by omega
 simp (disch := omega) only [ho1.get g5, e3, k1, k2, k3, k4, k5, go_sem]
 refine SRun.callR (l07Has_ok (ex := false) (xs := n.externals) (x := router) hx1) ⟨[], rfl, rfl⟩ rfl ?_
 have hx := hasI_in n.externals router
 have hob : outB n router env = (decide (0 ≤ hasI n.externals router) && decide (0 < env.getD (hasI n.externals router).toNat 0)) := rfl
 have hxb : (hasI n.externals router ≥ 0 ∧ outB n router env = decide (env.getD (hasI n.externals router).toNat 0 > 0)) ∨ (hasI n.externals router < 0 ∧ outB n router env = false) := by
  by_cases h : 0 ≤ hasI n.externals router
  ·exact .inl ⟨h, by rw [hob, decide_eq_true h]; rfl⟩
  ·exact .inr ⟨by omega, by rw [hob, decide_eq_false h]; rfl⟩
 have hol : outL n router env = if outB n router env then [⟨-1, 100, 2, decide (env.getD (hasI n.externals router).toNat 0 = 2)⟩] else [] := rfl
 rcases hxb with ⟨hx0, hb⟩ | ⟨hx0, hb⟩
 case' inl =>
  have hd1 : decide (hasI n.externals router ≥ 0) = true := decide_eq_true hx0
  simp (disch := omega) only [hd1, k1, k2, k3, k4, k5, k11, go_sem]
  refine iteW_join (fun T s => ∃ q, OwnL s1 4 (rtsV (ownL n router ++ outL n router env)) q s ∧ look T 1 = .int .i64 router ∧ look T 3 = .isl ex2 1 (bools down) ∧ look T 4 = .isl ex3 4 (rtsV rs) ∧ look T 5 = .ptr b5 0 ∧ look T 11 = q) (fun k' key => ?_) ?_
  ·rw [hol, hb] at key
   first | refine iteW_dec (fun h3 => ?_) (fun h3 => ?_) | refine iteW_of (fun h3 => ?_) (fun h3 => ?_)
   ·rw [if_pos (by simpa using h3)] at key
    simp (disch := omega) only [hd1, k1, k2, k3, k4, k5, k11, go_sem]
    refine SRun.appL ho1 rfl (rt1_ok ⟨-1, 100, 2, decide (env.getD (hasI n.externals router).toNat 0 = 2)⟩) (by unfold ownL; split <;> simp [rtsV]) ?_
    intro q2 s2 ho2
    have ha := rts_app (ownL n router) ⟨-1, 100, 2, decide (env.getD (hasI n.externals router).toNat 0 = 2)⟩
    simp only [rtC] at ha
    rw [ha] at ho2
    simp (disch := omega) only [go_sem]
    exact key _ _ ⟨q2, ho2, k1, k3, k4, k5, rfl⟩
   ·rw [if_neg (by simpa using h3), List.append_nil] at key
    simp (disch := omega) only [go_sem]
    exact key _ _ ⟨q, ho1, k1, k3, k4, k5, k11⟩
 case' inr =>
  have hd1 : decide (hasI n.externals router ≥ 0) = false := decide_eq_false (by omega)
  have hol2 : outL n router env = [] := by rw [hol, hb]; rfl
  have hcl : OwnL s1 4 (rtsV (ownL n router ++ outL n router env)) q s := by rw [hol2, List.append_nil]; exact ho1
  simp (disch := omega) only [hd1, k1, k2, k3, k4, k5, k11, go_sem]
  clear ho1 hol2
  have ho1 := hcl
 case' inl => 
  clear ho1 k1 k2 k3 k4 k5 k11
  rintro T s ⟨q, ho1, k1, k3, k4, k5, k11⟩
 all_goals
  have g5' := ho1.get g5
  simp (disch := omega) only [g5', hlen, hlen2, k1, k3, k4, k5, go_sem]
  refine SRun.callR (l06Neighbours_ok (ex := ex2) (n := n) (down := down) (r := router) (by omega) (by omega) hd) ⟨[], rfl, rfl⟩ rfl ?_
  have hnm : ∀ v ∈ nearP n router down, _ := fun v hv => near_mem hv
  have hnl : (nearP n router down).length ≤ 4 := by
   simp only [nearP, List.length_map]
   have := List.length_filter_le (nearB n router down) (List.range n.routers.length)
   rw [List.length_range] at this; omega
  have hbl : (ownL n router ++ outL n router env).length ≤ 2 := by
   rw [List.length_append]; unfold ownL outL; split <;> split <;> simp
  generalize ownL n router ++ outL n router env = base at *
  generalize nearP n router down = nr at *
  simp (disch := omega) only [go_sem]
  refine W_loopC (α := Nat × V × St × St) (fun p => p.1 ≤ nr.length ∧ (∀ d x, s1 d = some x → p.2.2.1 d = some x) ∧ OwnL p.2.2.1 4 (rtsV (base ++ (nr.take p.1).filterMap (viaO n router rs))) p.2.1 p.2.2.2) (fun p => [(1, .int .i64 router), (3, .isl ex2 1 (bools down)), (4, .isl ex3 4 (rtsV rs)), (5, .ptr b5 0), (11, p.2.1), (13, .isl false 1 (ints nr)), (14, .int .i64 (p.1 : Nat))]) (fun p => p.2.2.2) (fun p => nr.length - p.1) (0, q, s1, s) ⟨by simp, fun _ _ h => h, by simpa using ho1⟩ (by simp (disch := omega) only [subT, Int.natCast_add, Int.cast_ofNat_Int, k1, k3, k4, k5, k11, go_sem] <;> (repeat' apply And.intro) <;> first | rfl | (congr 1; omega) | assumption) rfl ?_
  clear ho1 k1 k3 k4 k5 k11 g5'
  rintro ⟨i, q, sb, s⟩ ⟨hi, hle, ho1⟩ ih
  dsimp only at hi hle ho1
  have g5' := ho1.get (hle _ _ g5)
  simp (disch := omega) only [go_sem]
  first | refine iteW_dec (fun h4 => ?_) (fun h4 => ?_) | refine iteW_of (fun h4 => ?_) (fun h4 => ?_)
  ·have hv := hnm _ (getD_mem 0 (by omega : i < nr.length))
   have hts := take_succ (xs := nr) (i := i) 0 (by omega)
   simp (disch := omega) only [go_sem]
   generalize hgv : nr.getD i 0 = v at *
   obtain ⟨v0, v1, v2, v3⟩ := hv
   have hra : rs.getD v.toNat default = rtAt rs v := rfl
   have hrl := hr.lens v
   have hrc : rtC (rtAt rs v) = [.int .i64 (rtAt rs v).via, .int .i64 (rtAt rs v).pref, .int .i64 (rtAt rs v).len, .bool (rtAt rs v).mark] := rfl
   have hvO : viaO n router rs v = if (rtAt rs v).via = -3 ∨ throughP rs v router then none else importO n router v (rtAt rs v) := rfl
   have hno : viaO n router rs v = none → OwnL sb 4 (rtsV (base ++ (nr.take (i + 1)).filterMap (viaO n router rs))) q s := fun hv => by rw [hts, List.filterMap_append, List.filterMap_cons, hv, List.filterMap_nil, List.append_nil]; exact ho1
   have hyes : ∀ r, viaO n router rs v = some r → rtsV (base ++ (nr.take (i + 1)).filterMap (viaO n router rs)) = rtsV (base ++ (nr.take i).filterMap (viaO n router rs)) ++ [.agg (rtC r)] := fun r hv => by rw [hts, List.filterMap_append, List.filterMap_cons, hv, List.filterMap_nil, ← List.append_assoc, rts_app]
   have hsz : (base ++ (nr.take i).filterMap (viaO n router rs)).length ≤ 6 := by
    have := List.length_filterMap_le (viaO n router rs) (nr.take i)
    rw [List.length_append]; rw [List.length_take] at this; omega
   by_cases c1 : (rtAt rs v).via = -3
   ·have d1 : decide ((rtAt rs v).via = -3) = true := decide_eq_true c1
    simp (disch := omega) only [hra, hrc, d1, hgv, go_sem]
    exact ih (i + 1, q, sb, s) _ _ ⟨by simp only; omega, hle, hno (by rw [hvO, if_pos (.inl c1)])⟩ (by simp only; omega) (by simp (disch := omega) only [subT, Int.natCast_add, Int.cast_ofNat_Int, go_sem] <;> (repeat' apply And.intro) <;> first | rfl | (congr 1; omega) | assumption) rfl
   ·have d1 : decide ((rtAt rs v).via = -3) = false := decide_eq_false c1
    simp (disch := omega) only [hra, hrc, d1, hgv, go_sem]
    refine SRun.callR (l07Through_ok (ex := ex3) (rs := rs) (from_ := v) (router := router) (by omega) hr.vias (by omega)) ⟨[], rfl, rfl⟩ rfl ?_
    cases c2 : throughP rs v router with
    | true =>
     simp (disch := omega) only [go_sem]
     exact ih (i + 1, q, sb, s) _ _ ⟨by simp only; omega, hle, hno (by rw [hvO, if_pos (.inr c2)])⟩ (by simp only; omega) (by simp (disch := omega) only [subT, Int.natCast_add, Int.cast_ofNat_Int, go_sem] <;> (repeat' apply And.intro) <;> first | rfl | (congr 1; omega) | assumption) rfl
    | false =>
     rw [if_neg (by rw [c2]; simp [c1])] at hvO
     simp (disch := omega) only [go_sem]
     rw [W_draw]
     refine DRun.start (DRun.mixNR (fun T s' => ∃ b15, s b15 = none ∧ s' = upd emp b15 [.int .i64 0, .int .i64 0, .int .i64 0, .bool false] ∧ look T 1 = .int .i64 router ∧ look T 3 = .isl ex2 1 (bools down) ∧ look T 4 = .isl ex3 4 (rtsV rs) ∧ look T 5 = .ptr b5 0 ∧ look T 11 = q ∧ look T 13 = .isl false 1 (ints nr) ∧ look T 14 = .int .i64 (i : Nat) ∧ look T 15 = .ptr b15 0 ∧ look T 89 = .agg (rtC (rtO (importO n router v (rtAt rs v))))) rfl ?_ ?_)
     ·simp (disch := omega) only [g5', hlen, hlen2, hra, hrc, hgv, go_sem]
      have hI := fun Γ σ => l07Import_ok (Γ := Γ) (σ := σ) (n := n) (router := router) (from_ := v) (r := rtAt rs v) (by omega) (by omega) v2 hrl hn.cost
      refine DS.wr2 (WrF.call (hI _ _) ⟨[], rfl, rfl⟩) rfl ?_ ?_
      ·rintro x s ⟨rfl, hs⟩ hd9
       obtain rfl := hs.symm
       simp (disch := omega) only [go_sem]
       refine DS.wrQ WrF.alloc rfl ?_
       rintro _ s9 ⟨b15, hb15, rfl, rfl⟩ hd9
       refine ⟨b15, disj_new hd9, ?_⟩
       (repeat' apply And.intro) <;> rfl
      ·refine DS.wrQ WrF.alloc rfl ?_
       rintro _ s9 ⟨b15, hb15, rfl, rfl⟩ hd9
       simp (disch := omega) only [go_sem]
       refine DS.wrQ (WrF.call (hI _ _) ⟨[], rfl, rfl⟩) rfl ?_
       rintro x s ⟨rfl, hs⟩ hd
       obtain rfl := hs.symm
       simp (disch := omega) only [go_sem]
       refine ⟨b15, disj_new hd9, ?_⟩
       (repeat' apply And.intro) <;> rfl
     rintro T s' ⟨b15, hb15, rfl, k1, k3, k4, k5, k11, k13, k14, k15, k89⟩
     rw [cup_new]
     have hbn : b15 ≠ b5 := fun e => by subst e; rw [g5'] at hb15; cases hb15
     have hsb : sb b15 = none := by
      cases e : sb b15 with
      | none => rfl
      | some c => rw [ho1.get e] at hb15; cases hb15
     cases hio : importO n router v (rtAt rs v) with
     | none =>
      rw [hio] at k89 hvO
      have hno2 := hno hvO
      have hnr : rtC (rtO none) = [.int .i64 (-3), .int .i64 0, .int .i64 0, .bool false] := rfl
      simp (disch := omega) only [k15, k89, hnr, k14, go_sem]
      refine ih (i + 1, q, upd sb b15 _, _) _ _ ⟨by simp only; omega, fun d x h => le_upd hsb _ _ (hle _ _ h), hno2.ext hb15⟩ (by simp only; omega) (by simp (disch := omega) only [subT, Int.natCast_add, Int.cast_ofNat_Int, k1, k3, k4, k5, k11, k13, k14, go_sem] <;> (repeat' apply And.intro) <;> first | rfl | (congr 1; omega) | assumption) rfl
     | some r =>
      rw [hio] at k89 hvO
      have hy := hyes r hvO
      have hrv := importO_via hio
      have hnr : rtC (rtO (some r)) = [.int .i64 r.via, .int .i64 r.pref, .int .i64 r.len, .bool r.mark] := rfl
      have hd3 : (decide ¬ r.via = -3) = true := decide_eq_true (by omega)
      simp (disch := omega) only [k15, k89, hnr, hd3, k11, k14, go_sem]
      refine SRun.appL (ho1.ext hb15) rfl (rt1_ok r) (by rw [rtsV_len]; simp only [List.length_singleton]; omega) ?_
      intro q2 s2 ho2
      have ho3 : OwnL (upd sb b15 [.int .i64 r.via, .int .i64 r.pref, .int .i64 r.len, .bool r.mark]) 4 (rtsV (base ++ (nr.take (i + 1)).filterMap (viaO n router rs))) q2 s2 := by rw [hy]; exact ho2
      simp (disch := omega) only [k14, go_sem]
      refine ih (i + 1, q2, upd sb b15 _, s2) _ _ ⟨by simp only; omega, fun d x h => le_upd hsb _ _ (hle _ _ h), ho3⟩ (by simp only; omega) (by simp (disch := omega) only [subT, Int.natCast_add, Int.cast_ofNat_Int, k1, k3, k4, k5, k11, k13, k14, go_sem] <;> (repeat' apply And.intro) <;> first | rfl | (congr 1; omega) | assumption) rfl
  ·have hil : i = nr.length := by omega
   subst hil
   rw [List.take_length] at ho1
   obtain ⟨s2, hle2, ho2⟩ := ownL_less ho1 (fun d x h => hle _ _ (hσ _ _ h))
   simp (disch := omega) only [go_sem]
   refine W_retC c151_ok rfl (Conv.drop _ hle2) ?_
   rw [hcand]; exact ho2
end
section
attribute [local irreducible] SRun DS DRun
variable {Γ : St} {σ σ0 : St}
theorem l07Candidates_ok {n : Net} {ex ex2 ex3 : Bool} {env : List Int} {down : List Bool} {rs : List Rt} {router : Int} (hn : NetR n) (ho : n.origins.length ≤ 1000000000000) (he : env.length = n.externals.length) (hd : down.length = n.links.length) (hl : rs.length = n.routers.length) (hr : RtsW rs) :
  Ret Tryz.prog Γ 151 [netV n, .int .i64 router, .isl ex 1 (ints env), .isl ex2 1 (bools down), .isl ex3 4 (rtsV rs)] σ (.isl false 4 (rtsV (candP n router env down rs))) σ :=
 ACalls.conv (l07Candidates_own hn ho he hd hl hr) fun q s ho => ⟨_, σ, ho.conv, rfl, rfl⟩
theorem rts_plain (rs : List Rt) : ∀ c ∈ flat (rtsV rs), Plain c := by
 intro c hc
 simp only [flat, List.mem_flatMap, rtsV, List.mem_map] at hc
 obtain ⟨x, ⟨r, hr, rfl⟩, hc⟩ := hc
 simp only [V.cells, rtC, List.mem_cons, List.not_mem_nil, or_false] at hc
 rcases hc with rfl | rfl | rfl | rfl
 ·exact .int _ _
 ·exact .int _ _
 ·exact .int _ _
 ·exact .bool _
theorem ownL_plain {es : Nat} {xs : List V} {q : V} {s : St} (h : OwnL emp es xs q s) (hp : ∀ c ∈ flat xs, Plain c) : Plain q ∧ ∀ b cs, s b = some cs → ∀ c ∈ cs, Plain c := by
 rcases h.1 with ⟨hc, hl, rfl, es', rfl⟩ | ⟨b2, cap, hb, rfl, rfl, h4⟩
 ·exact ⟨.isl0 _ _, fun b cs hb => by cases hb⟩
 ·refine ⟨.msl _ _ _ _ _, fun b cs hb => ?_⟩
  by_cases e : b = b2
  ·subst e; rw [upd_same] at hb; obtain rfl := Option.some.inj hb; exact hp
  ·rw [upd_ne _ _ e] at hb; cases hb
/-- What a router could have, where the routes are owned. -/
theorem l07Candidates_lend {n : Net} {ex ex2 : Bool} {env : List Int} {down : List Bool} {rs : List Rt} {router : Int} {q : V} (hn : NetR n) (ho : n.origins.length ≤ 1000000000000) (he : env.length = n.externals.length) (hd : down.length = n.links.length) (hl : rs.length = n.routers.length) (hr : RtsW rs) (hq : Frz σ emp q (.isl false 4 (rtsV rs))) :
  Ret Tryz.prog Γ 151 [netV n, .int .i64 router, .isl ex 1 (ints env), .isl ex2 1 (bools down), q] σ (.isl false 4 (rtsV (candP n router env down rs))) σ :=
 ACalls.conv (ACalls.lend (l07Candidates_own (σ := emp) (ex := ex) (ex2 := ex2) (ex3 := false) hn ho he hd hl hr) rfl (frzL_get (by exact ⟨.refl _, .refl _, .refl _, .refl _, hq, trivial⟩)) fun r s h => ownL_plain h (rts_plain _)) fun r s h => by
  obtain ⟨s', e, hd, h⟩ := h
  subst e
  exact ⟨_, σ, (ownL_join h hd).conv, rfl, rfl⟩
theorem l07Best_ok {ex : Bool} {l : List Rt} (hl : l.length ≤ 1000000000000) : Ret Tryz.prog Γ 152 [.isl ex 4 (rtsV l)] σ (.agg (rtC (bestP l))) σ := by
 refine ret_of c152_ok rfl ?_
 simp (disch := omega) only [c152, go_sem]
 refine SRun.allocR ?_
 intro b2 hb2
 simp (disch := omega) only [go_sem]
 refine SRun.callR l07None_ok ⟨[], rfl, rfl⟩ rfl ?_
 simp (disch := omega) only [go_sem]
 refine SRun.allocR ?_
 intro b3 hb3
 have n32 := (upd_none.1 hb3).1
 have n3 := (upd_none.1 hb3).2
 have hnr : rtC noRt = [.int .i64 (-3), .int .i64 0, .int .i64 0, .bool false] := rfl
 simp (disch := omega) only [hnr, go_sem]
 have hrc : ∀ r : Rt, rtC r = [.int .i64 r.via, .int .i64 r.pref, .int .i64 r.len, .bool r.mark] := fun _ => rfl
 refine W_loopC (α := Nat × Rt) (fun p => p.1 ≤ l.length ∧ bestP l = (l.drop p.1).foldl bestStep p.2) (fun p => [(0, .isl ex 4 (rtsV l)), (2, .ptr b2 0), (3, .ptr b3 0), (4, .int .i64 (p.1 : Nat))]) (fun p => upd (upd σ b2 [.int .i64 0, .int .i64 0, .int .i64 0, .bool false]) b3 (rtC p.2)) (fun p => l.length - p.1) (0, noRt) ⟨by simp, rfl⟩ (by simp (disch := omega) only [subT, Int.natCast_add, Int.cast_ofNat_Int, go_sem] <;> (repeat' apply And.intro) <;> first | rfl | (congr 1; omega) | assumption) rfl ?_
 rintro ⟨i, o⟩ ⟨hi, hb⟩ ih
 dsimp only at hi hb
 simp (disch := omega) only [go_sem]
 first | refine iteW_dec (fun h1 => ?_) (fun h1 => ?_) | refine iteW_of (fun h1 => ?_) (fun h1 => ?_)
 ·rw [drop_cons (xs := l) default (by omega : i < l.length), List.foldl_cons] at hb
  have hst : bestStep o (l.getD i default) = if o.via = -3 ∨ betterP (l.getD i default) o then l.getD i default else o := rfl
  have hgr := hrc (l.getD i default)
  simp (disch := omega) only [go_sem]
  refine W_drawW ?_
  by_cases c1 : o.via = -3
  ·have d1 : decide (o.via = -3) = true := decide_eq_true c1
   rw [hst, if_pos (.inl c1)] at hb
   simp (disch := omega) only [hrc o, d1, go_sem]
   refine DRun.skipG rfl ?_
   simp (disch := omega) only [hgr, go_sem]
   exact ih (i + 1, l.getD i default) _ _ ⟨by simp only; omega, hb⟩ (by simp only; omega) (by simp (disch := omega) only [subT, Int.natCast_add, Int.cast_ofNat_Int, go_sem] <;> (repeat' apply And.intro) <;> first | rfl | (congr 1; omega) | assumption) rfl
  ·have d1 : decide (o.via = -3) = false := decide_eq_false c1
   simp (disch := omega) only [hrc o, hgr, d1, go_sem]
   refine DRun.callG (l07Better_ok (a := l.getD i default) (b := o)) ⟨[], rfl, rfl⟩ rfl ?_
   rintro r s ⟨rfl, hs⟩
   obtain rfl := hs.symm
   cases c2 : betterP (l.getD i default) o with
   | true =>
    rw [hst, if_pos (.inr c2)] at hb
    simp (disch := omega) only [hgr, go_sem]
    exact ih (i + 1, l.getD i default) _ _ ⟨by simp only; omega, hb⟩ (by simp only; omega) (by simp (disch := omega) only [subT, Int.natCast_add, Int.cast_ofNat_Int, go_sem] <;> (repeat' apply And.intro) <;> first | rfl | (congr 1; omega) | assumption) rfl
   | false =>
    rw [hst, if_neg (by rw [c2]; simp [c1])] at hb
    simp (disch := omega) only [hgr, go_sem]
    exact ih (i + 1, o) _ _ ⟨by simp only; omega, hb⟩ (by simp only; omega) (by simp (disch := omega) only [subT, Int.natCast_add, Int.cast_ofNat_Int, go_sem] <;> (repeat' apply And.intro) <;> first | rfl | (congr 1; omega) | assumption) rfl
 ·have hil : i = l.length := by omega
  subst hil
  rw [List.drop_length, List.foldl_nil] at hb
  simp (disch := omega) only [hrc o, n32, go_sem]
  refine W_retC c152_ok (r := .agg (rtC o)) (resV_cellA rfl (upd_same _ _ _) rfl) (Conv.drop _ fun d z h => ?_) ⟨by rw [hb], rfl⟩
  have e2 : d ≠ b2 := fun e => by subst e; rw [hb2] at h; cases h
  have e3 : d ≠ b3 := fun e => by subst e; rw [n3] at h; cases h
  rw [upd_ne _ _ e2, upd_ne _ _ e3, upd_ne _ _ e2]; exact h
theorem rt_dec (a b : Rt) : (decide (a.via = b.via) && (decide (a.pref = b.pref) && (decide (a.len = b.len) && a.mark == b.mark))) = decide (a = b) := by
 obtain ⟨a1, a2, a3, a4⟩ := a
 obtain ⟨b1, b2, b3, b4⟩ := b
 rw [Bool.eq_iff_iff]; simp [Rt.mk.injEq]
theorem l07Stable_ok {n : Net} {ex ex2 ex3 : Bool} {env : List Int} {down : List Bool} {rs : List Rt} (hn : NetR n) (ho : n.origins.length ≤ 1000000000000) (he : env.length = n.externals.length) (hd : down.length = n.links.length) (hl : rs.length = n.routers.length) (hr : RtsW rs) :
  Ret Tryz.prog Γ 118 [netV n, .isl ex 1 (ints env), .isl ex2 1 (bools down), .isl ex3 4 (rtsV rs)] σ (.bool (stableB n env down rs)) σ := by
 have r4 := hn.r4
 have hlen : (netC n).take 6 = netC n := rfl
 have hlen2 : (netC n).length = 6 := rfl
 refine ret_of c118_ok rfl ?_
 simp (disch := omega) only [c118, netV, go_sem]
 refine SRun.boxR (net_one n) ?_
 intro b4 hb4
 have g4 := upd_same σ b4 (netC n)
 have hσ : ∀ d x, σ d = some x → upd σ b4 (netC n) d = some x := le_upd hb4
 simp (disch := omega) only [go_sem]
 generalize upd σ b4 (netC n) = s1 at *
 refine W_loopC (α := Nat) (fun i => i ≤ rs.length ∧ ∀ j, j < i → bestP (candP n j env down rs) = rs.getD j default) (fun i => [(1, .isl ex 1 (ints env)), (2, .isl ex2 1 (bools down)), (3, .isl ex3 4 (rtsV rs)), (4, .ptr b4 0), (9, .int .i64 (i : Nat))]) (fun _ => s1) (fun i => rs.length - i) 0 ⟨by omega, fun j hj => by omega⟩ (by simp (disch := omega) only [subT, Int.natCast_add, Int.cast_ofNat_Int, go_sem] <;> (repeat' apply And.intro) <;> first | rfl | (congr 1; omega) | assumption) rfl ?_
 rintro i ⟨hi, hall⟩ ih
 simp (disch := omega) only [go_sem]
 first | refine iteW_dec (fun h1 => ?_) (fun h1 => ?_) | refine iteW_of (fun h1 => ?_) (fun h1 => ?_)
 ·have hcl : (candP n i env down rs).length ≤ 1000000000000 := by
   have h1 := List.length_filterMap_le (viaO n i rs) (nearP n i down)
   have h2 := List.length_filter_le (nearB n i down) (List.range n.routers.length)
   have h3 : (nearP n i down).length ≤ n.routers.length := by unfold nearP; rw [List.length_map]; simpa using h2
   have h4 : (ownL n i).length ≤ 1 := by unfold ownL; split <;> simp
   have h5 : (outL n i env).length ≤ 1 := by unfold outL; split <;> simp
   simp only [candP, List.length_append]; omega
  simp (disch := omega) only [go_sem]
  refine W_drawW ?_
  refine DRun.mixE rfl ?_
  have hq := rt_dec (bestP (candP n i env down rs)) (rs.getD i default)
  have hrc : (rtC (rs.getD i default)).take 4 = rtC (rs.getD i default) := rfl
  have hrl : (rtC (rs.getD i default)).length = 4 := rfl
  simp (disch := omega) only [g4, hlen, hlen2, hrc, hrl, go_sem]
  refine DS.callB (l07Candidates_ok (ex := ex) (ex2 := ex2) (ex3 := ex3) hn ho he hd hl hr) ⟨[], rfl, rfl⟩ rfl rfl ?_
  simp (disch := omega) only [go_sem]
  refine DS.callB (l07Best_ok (ex := false) hcl) ⟨[], rfl, rfl⟩ rfl rfl ?_
  simp (disch := omega) only [go_sem]
  refine ⟨trivial, ?_⟩
  simp (disch := omega) only [hq, go_sem]
  first | refine iteW_dec (fun c1 => ?_) (fun c1 => ?_) | refine iteW_of (fun c1 => ?_) (fun c1 => ?_)
  ·have hb : stableB n env down rs = false := range_not (i := i) (by omega) (decide_eq_false c1)
   simp (disch := omega) only [go_sem]
   exact W_retC c118_ok rfl (Conv.drop _ hσ) ⟨by rw [hb]; rfl, rfl⟩
  ·have c2 := Decidable.not_not.1 c1
   simp (disch := omega) only [go_sem]
   refine ih (i + 1) _ _ ⟨by omega, fun j hj => ?_⟩ (by omega) (by simp (disch := omega) only [subT, Int.natCast_add, Int.cast_ofNat_Int, go_sem] <;> (repeat' apply And.intro) <;> first | rfl | (congr 1; omega) | assumption) rfl
   by_cases e : j = i
   ·subst e; exact c2
   ·exact hall j (by omega)
 ·have hil : i = rs.length := by omega
  subst hil
  have hb : stableB n env down rs = true := range_all fun j hj => decide_eq_true (hall j hj)
  simp (disch := omega) only [go_sem]
  exact W_retC c118_ok rfl (Conv.drop _ hσ) ⟨by rw [hb]; rfl, rfl⟩
end
section
attribute [local irreducible] SRun DS DRun
variable {Γ : St} {σ σ0 : St}
theorem frz_rows {σ' : St} {b es cap : Nat} {xs : List V} (hb : σ b = some (flat xs)) (hb' : σ' b = none) (hx : ∀ y ∈ xs, y.cells.length = es ∧ ∀ c ∈ y.cells, c.one = true) : Frz σ σ' (.msl b es 0 xs.length cap) (.isl false es xs) := by
 have hfl : (flat xs).length = xs.length * es := flat_length fun x hm => (hx x hm).1
 refine .msl b es 0 xs.length cap (flat xs) xs hb hb' (by omega) rfl (fun x hm => (hx x hm).1) hfl (fun i x hi => flat_ones (fun x hm => (hx x hm).2) x (List.mem_of_getElem? hi)) (fun i x y hy hx' => ?_)
 rw [Nat.zero_add] at hy
 rw [hy] at hx'; obtain rfl := Option.some.inj hx'; exact .refl _
theorem set_append4 {a b c d : V} {r : List V} : ∀ (k : Nat) (x : V), ((a :: b :: c :: d :: r).set (k + 4) x) = a :: b :: c :: d :: r.set k x := fun k x => rfl
theorem sets_shift {a b c d : V} : ∀ (ys r : List V) (k : Nat), sets (a :: b :: c :: d :: r) (k + 4) ys = a :: b :: c :: d :: sets r k ys := by
 intro ys
 induction ys with
 | nil => intro r k; rfl
 | cons y ys ih => intro r k; simp only [sets, set_append4]; rw [show k + 4 + 1 = (k + 1) + 4 by omega, ih]
theorem sets_rts : ∀ (rs : List Rt) (i : Nat) (r : Rt), i < rs.length → sets (flat (rtsV rs)) (i * 4) (rtC r) = flat (rtsV (rs.set i r)) := by
 intro rs
 induction rs with
 | nil => intro i r h; simp at h
 | cons a rs ih =>
  intro i r h
  cases i with
  | zero => rfl
  | succ i =>
   have := ih i r (by simpa using h)
   have e : flat (rtsV (a :: rs)) = .int .i64 a.via :: .int .i64 a.pref :: .int .i64 a.len :: .bool a.mark :: flat (rtsV rs) := rfl
   rw [e, show (i + 1) * 4 = i * 4 + 4 by omega, sets_shift, this]; rfl
theorem flat_rts_len (rs : List Rt) : (flat (rtsV rs)).length = rs.length * 4 := by
 have := flat_length (es := 4) (xs := rtsV rs) fun x hx => (rts_ok rs x hx).1
 rw [this, rtsV_len]
theorem bools_get {bs : List Bool} {i : Nat} (h : i < bs.length) : (bools bs)[i]? = some (.bool (bs.getD i false)) := by simp [bools, List.getD, h]
theorem bools_set {bs : List Bool} {i : Nat} {x : Bool} : (bools bs).set i (.bool x) = bools (bs.set i x) := by simp [bools, List.map_set]
theorem ofI_w {n : Net} (hn : NetR n) {down : List Bool} {s : List Rt × List Bool} (h : OfI n down s) (hl : s.1.length = n.routers.length) : RtsW s.1 := by
 have r1 := hn.r1
 have r4 := hn.r4
 have hc : s.2.count true ≤ s.2.length := List.count_le_length
 have hlen := h.len
 have hd : ∀ v : Int, ¬ v.toNat < s.1.length → rtAt s.1 v = default := fun v hv => by simp [rtAt, List.getD, List.getElem?_eq_none (by omega : s.1.length ≤ v.toNat)]
 constructor
 ·intro v
  by_cases hv : v.toNat < s.1.length
  ·have := (h.ok _ hv).via.2
   unfold rtAt; omega
  ·rw [hd v hv]; show (0 : Int) < _; omega
 ·intro v
  by_cases hv : v.toNat < s.1.length
  ·have := (h.ok _ hv).len
   unfold rtAt; omega
  ·rw [hd v hv]; show (0 : Int) ≤ 0 ∧ (0 : Int) ≤ _; omega
section
variable (n : Net) (env : List Int) (down : List Bool) (vias : List Int)
def ofEnd (s : List Rt × List Bool) : Option (List Rt) := if s.2.all id then some s.1 else none
def ofR (m : Nat) (s : List Rt × List Bool) : Option (List Rt) := ((List.range' m (vias.length + 1 - m)).foldlM (fun s _ => ofRound n env down vias s) s).bind ofEnd
def ofJ (m i : Nat) (s : List Rt × List Bool) : Option (List Rt) := ((List.range' i (vias.length - i)).foldlM (ofStep n env down vias) s).bind (ofR n env down vias (m + 1))
variable {n env down vias}
theorem ofP_R : ofP n env down vias = ofR n env down vias 0 (List.replicate vias.length noRt, List.replicate vias.length false) := by
 unfold ofP ofR; rw [List.range_eq_range']; rfl
theorem ofR_J {m : Nat} {s : List Rt × List Bool} (h : m ≤ vias.length) : ofR n env down vias m s = ofJ n env down vias m 0 s := by
 unfold ofR ofJ
 rw [show vias.length + 1 - m = (vias.length - m) + 1 by omega, List.range'_succ, List.foldlM_cons]
 show (Option.bind (ofRound n env down vias s) _).bind ofEnd = _
 unfold ofRound
 rw [List.range_eq_range', Nat.sub_zero, Option.bind_assoc]
 congr 1
 funext t
 unfold ofR
 rw [show vias.length + 1 - (m + 1) = vias.length - m by omega]
 simp only [ofRound, List.range_eq_range']
theorem ofJ_end {m : Nat} {s : List Rt × List Bool} : ofJ n env down vias m vias.length s = ofR n env down vias (m + 1) s := by
 unfold ofJ; rw [Nat.sub_self]; rfl
theorem ofJ_step {m i : Nat} {s : List Rt × List Bool} (h : i < vias.length) : ofJ n env down vias m i s = (ofStep n env down vias s i).bind (ofJ n env down vias m (i + 1)) := by
 unfold ofJ
 rw [show vias.length - i = (vias.length - (i + 1)) + 1 by omega, List.range'_succ, List.foldlM_cons]
 show (Option.bind _ _).bind _ = _
 rw [Option.bind_assoc]
theorem ofR_end {s : List Rt × List Bool} : ofR n env down vias (vias.length + 1) s = ofEnd s := by
 unfold ofR; rw [Nat.sub_self]; rfl
end
/-- What is picked: the last that has the way. -/
def pickV (v : Int) (l : List Rt) (o : List Rt) (i : Nat) : List Rt := match (l.filter fun r => decide (r.via = v)).getLast? with | none => o | some r => o.set i r
def hasV (v : Int) (l : List Rt) : Bool := l.any fun r => decide (r.via = v)
theorem pickV_snoc {v : Int} {l o : List Rt} {i : Nat} {r : Rt} : pickV v (l ++ [r]) o i = if r.via = v then (pickV v l o i).set i r else pickV v l o i := by
 unfold pickV
 rw [List.filter_append]
 by_cases h : r.via = v
 ·rw [if_pos h]
  have : [r].filter (fun r => decide (r.via = v)) = [r] := by simp [h]
  rw [this, List.getLast?_append]
  simp only [List.getLast?_singleton, Option.or_some, Option.getD_some, Option.some_or]
  cases (l.filter fun r => decide (r.via = v)).getLast? <;> simp
 ·rw [if_neg h]
  have : [r].filter (fun r => decide (r.via = v)) = [] := by simp [h]
  rw [this, List.append_nil]
theorem hasV_snoc {v : Int} {l : List Rt} {r : Rt} : hasV v (l ++ [r]) = (hasV v l || decide (r.via = v)) := by simp [hasV, List.any_append]
theorem pickV_len {v : Int} {l o : List Rt} {i : Nat} : (pickV v l o i).length = o.length := by unfold pickV; split <;> simp
theorem ofStep_pick {n : Net} {env : List Int} {down : List Bool} {vias : List Int} {s : List Rt × List Bool} {i : Nat} (h1 : s.2.getD i false = false) (h2 : ¬ (0 ≤ vias.getD i 0 ∧ s.2.getD (vias.getD i 0).toNat false = false)) (h3 : vias.getD i 0 ≠ -3) :
  ofStep n env down vias s i = if hasV (vias.getD i 0) (candP n i env down s.1) then some (pickV (vias.getD i 0) (candP n i env down s.1) s.1 i, s.2.set i true) else none := by
 unfold ofStep
 rw [if_neg (by rw [h1]; simp; intro h; have := h2; simp at this; exact this h), if_neg h3]
 unfold pickV hasV
 cases hg : ((candP n i env down s.1).filter fun r => decide (r.via = vias.getD i 0)).getLast? with
 | none =>
  rw [List.getLast?_eq_none_iff, List.filter_eq_nil_iff] at hg
  rw [if_neg (by rw [Bool.not_eq_true, List.any_eq_false]; exact hg)]
 | some r =>
  have hm := List.mem_of_getLast? hg
  rw [List.mem_filter] at hm
  rw [if_pos (List.any_eq_true.2 ⟨r, hm.1, hm.2⟩)]
theorem flat_false (m : Nat) : (List.replicate m [V.bool false]).flatten = bools (List.replicate m false) := by
 induction m with
 | zero => rfl
 | succ m ih => rw [List.replicate_succ, List.flatten_cons, ih]; rfl
set_option maxHeartbeats 2000000 in
theorem l07Of_ok {n : Net} {ex ex2 ex3 : Bool} {env : List Int} {down : List Bool} {vias : List Int} (hn : NetR n) (ho : n.origins.length ≤ 1000000000000) (he : env.length = n.externals.length) (hd : down.length = n.links.length) (hl : vias.length = n.routers.length) (hv : ∀ v ∈ vias, v < vias.length) :
  ACalls Tryz.prog Γ 117 [netV n, .isl ex 1 (ints env), .isl ex2 1 (bools down), .isl ex3 1 (ints vias)] σ fun r s => s = σ ∧ ∃ rs', r = .tup [.isl false 4 (rtsV rs'), .bool (ofP n env down vias).isSome] ∧ ∀ rs, ofP n env down vias = some rs → rs' = rs := by
 have r1 := hn.r1
 have r4 := hn.r4
 have hlen : (netC n).take 6 = netC n := rfl
 have hlen2 : (netC n).length = 6 := rfl
 refine acalls_W c117_ok rfl ?_
 simp (disch := omega) only [c117, netV, go_sem]
 refine SRun.boxR (net_one n) ?_
 intro b4 hb4
 have g4 := upd_same σ b4 (netC n)
 have hσ : ∀ d x, σ d = some x → upd σ b4 (netC n) d = some x := le_upd hb4
 simp (disch := omega) only [go_sem]
 generalize upd σ b4 (netC n) = s1 at *
 refine W_loopC (α := Nat × V × St) (fun p => p.1 ≤ vias.length ∧ OwnL s1 4 (rtsV (List.replicate p.1 noRt)) p.2.1 p.2.2) (fun p => [(1, .isl ex 1 (ints env)), (2, .isl ex2 1 (bools down)), (3, .isl ex3 1 (ints vias)), (4, .ptr b4 0), (10, p.2.1), (11, .int .i64 (p.1 : Nat))]) (fun p => p.2.2) (fun p => vias.length - p.1) (0, _, _) ⟨by simp, OwnL.nil _ 4⟩ (by simp (disch := omega) only [subT, Int.natCast_add, Int.cast_ofNat_Int, go_sem] <;> (repeat' apply And.intro) <;> first | rfl | (congr 1; omega) | assumption) rfl ?_
 rintro ⟨i, q, s⟩ ⟨hi, ho1⟩ ih
 dsimp only at hi ho1
 simp (disch := omega) only [go_sem]
 first | refine iteW_dec (fun h1 => ?_) (fun h1 => ?_) | refine iteW_of (fun h1 => ?_) (fun h1 => ?_)
 ·simp (disch := omega) only [go_sem]
  refine SRun.callR l07None_ok ⟨[], rfl, rfl⟩ rfl ?_
  have hnr : rtC noRt = [.int .i64 (-3), .int .i64 0, .int .i64 0, .bool false] := rfl
  simp (disch := omega) only [hnr, go_sem]
  refine SRun.appL ho1 rfl (rt1_ok noRt) (by rw [rtsV_len, List.length_replicate]; simp only [List.length_singleton]; omega) ?_
  intro q2 s2 ho2
  have ha := rts_app (List.replicate i noRt) noRt
  rw [hnr] at ha
  rw [ha, ← List.replicate_succ'] at ho2
  simp (disch := omega) only [go_sem]
  exact ih (i + 1, q2, s2) _ _ ⟨by simp only; omega, ho2⟩ (by simp only; omega) (by simp (disch := omega) only [subT, Int.natCast_add, Int.cast_ofNat_Int, go_sem] <;> (repeat' apply And.intro) <;> first | rfl | (congr 1; omega) | assumption) rfl
 clear ih
 have hir : i = vias.length := by omega
 subst hir
 obtain ⟨bo, cap, rfl, gbo, hcap, hbo, rfl⟩ := ho1.at (by
  intro e
  have := congrArg List.length e
  rw [rtsV_len, List.length_replicate] at this
  simp only [List.length_nil] at this; omega)
 rw [rtsV_len, List.length_replicate]
 simp (disch := omega) only [go_sem]
 refine SRun.mkslR (n' := vias.length) (m := vias.length) rfl rfl rfl (Nat.le_refl _) (by omega) (by omega) ?_
 intro bd hbd
 rw [flat_false]
 have n1 := upd_none.1 hbd
 have hdo : bd ≠ bo := n1.1
 have hod : bo ≠ bd := n1.1.symm
 have hb4o : b4 ≠ bo := fun e => by subst e; rw [g4] at hbo; cases hbo
 have hb4d : b4 ≠ bd := fun e => by subst e; rw [g4] at n1; cases n1.2
 have gm4 : ∀ x y, upd (upd s1 bo x) bd y b4 = some (netC n) := fun x y => by rw [upd_ne _ _ hb4d, upd_ne _ _ hb4o]; exact g4
 have gmo : ∀ x y, upd (upd s1 bo x) bd y bo = some x := fun x y => by rw [upd_ne _ _ hod, upd_same]
 have hso : ∀ x y z, upd (upd (upd s1 bo x) bd y) bo z = upd (upd s1 bo z) bd y := fun x y z => by rw [upd_comm _ hod.symm, upd_upd]
 have hmσ : ∀ x y d z, σ d = some z → upd (upd s1 bo x) bd y d = some z := fun x y d z h => le_two hbo n1.2 x y d z (hσ _ _ h)
 have hfz : ∀ (rs : List Rt) y, rs.length = vias.length → Frz (upd (upd s1 bo (flat (rtsV rs))) bd y) σ (.msl bo 4 0 vias.length cap) (.isl false 4 (rtsV rs)) := fun rs y hr => by
  have := frz_rows (σ := upd (upd s1 bo (flat (rtsV rs))) bd y) (σ' := σ) (b := bo) (es := 4) (cap := cap) (xs := rtsV rs) (gmo _ _) (by
   cases e : σ bo with
   | none => rfl
   | some c => rw [hσ _ _ e] at hbo; cases hbo) (rts_ok rs)
  rwa [rtsV_len, hr] at this
 have hfze : ∀ (rs : List Rt) y, rs.length = vias.length → Frz (upd (upd s1 bo (flat (rtsV rs))) bd y) emp (.msl bo 4 0 vias.length cap) (.isl false 4 (rtsV rs)) := fun rs y hr => by
  have := frz_rows (σ := upd (upd s1 bo (flat (rtsV rs))) bd y) (σ' := emp) (b := bo) (es := 4) (cap := cap) (xs := rtsV rs) (gmo _ _) rfl (rts_ok rs)
  rwa [rtsV_len, hr] at this
 clear h1 hi gbo hbd ho1
 simp (disch := omega) only [go_sem]
 refine W_loopC (α := Nat × List Rt × List Bool) (fun p => p.1 ≤ vias.length + 1 ∧ p.2.1.length = vias.length ∧ p.2.2.length = vias.length ∧ OfI n down p.2 ∧ ofP n env down vias = ofR n env down vias p.1 p.2) (fun p => [(1, .isl ex 1 (ints env)), (2, .isl ex2 1 (bools down)), (3, .isl ex3 1 (ints vias)), (4, .ptr b4 0), (10, .msl bo 4 0 vias.length cap), (12, .msl bd 1 0 vias.length vias.length), (13, .int .i64 (p.1 : Nat))]) (fun p => upd (upd s1 bo (flat (rtsV p.2.1))) bd (bools p.2.2)) (fun p => vias.length + 1 - p.1) (0, List.replicate vias.length noRt, List.replicate vias.length false) ⟨by simp, by simp, by simp, ofI_start n down _, ofP_R⟩ (by simp (disch := omega) only [subT, Int.natCast_add, Int.cast_ofNat_Int, go_sem] <;> (repeat' apply And.intro) <;> first | rfl | (congr 1; omega) | assumption) rfl ?_
 rintro ⟨m, rs, ds⟩ ⟨hm, hrl, hdl, hI, hP⟩ ih
 dsimp only at hm hrl hdl hI hP
 simp (disch := omega) only [go_sem]
 first | refine iteW_dec (fun h1 => ?_) (fun h1 => ?_) | refine iteW_of (fun h1 => ?_) (fun h1 => ?_)
 ·rw [ofR_J (by omega)] at hP
  simp (disch := omega) only [go_sem]
  refine W_loopC (α := Nat × List Rt × List Bool) (fun p => p.1 ≤ vias.length ∧ p.2.1.length = vias.length ∧ p.2.2.length = vias.length ∧ OfI n down p.2 ∧ ofP n env down vias = ofJ n env down vias m p.1 p.2) (fun p => [(1, .isl ex 1 (ints env)), (2, .isl ex2 1 (bools down)), (3, .isl ex3 1 (ints vias)), (4, .ptr b4 0), (10, .msl bo 4 0 vias.length cap), (12, .msl bd 1 0 vias.length vias.length), (13, .int .i64 (m : Nat)), (14, .int .i64 (p.1 : Nat))]) (fun p => upd (upd s1 bo (flat (rtsV p.2.1))) bd (bools p.2.2)) (fun p => vias.length - p.1) (0, rs, ds) ⟨by simp, hrl, hdl, hI, hP⟩ (by simp (disch := omega) only [subT, Int.natCast_add, Int.cast_ofNat_Int, go_sem] <;> (repeat' apply And.intro) <;> first | rfl | (congr 1; omega) | assumption) rfl ?_
  clear hI hP hrl hdl
  rintro ⟨i, rs, ds⟩ ⟨hi, hrl, hdl, hI, hP⟩ ih2
  dsimp only at hi hrl hdl hI hP
  have hds := fun (k : Nat) (hk : k < vias.length) => bools_get (bs := ds) (i := k) (by omega)
  have hbl : (bools ds).length = vias.length := by rw [bools_len]; exact hdl
  simp (disch := omega) only [go_sem]
  first | refine iteW_dec (fun h2 => ?_) (fun h2 => ?_) | refine iteW_of (fun h2 => ?_) (fun h2 => ?_)
  ·rw [ofJ_step (by omega)] at hP
   have hvi := hv _ (getD_mem 0 (by omega : i < vias.length))
   have hgi := hds i (by omega)
   have hstep := ofStep_pick (n := n) (env := env) (down := down) (vias := vias) (s := (rs, ds)) (i := i)
   have hdef : ofStep n env down vias (rs, ds) i = if ds.getD i false ∨ (0 ≤ vias.getD i 0 ∧ ds.getD (vias.getD i 0).toNat false = false) then some (rs, ds) else if vias.getD i 0 = -3 then some (rs, ds.set i true) else match ((candP n i env down rs).filter fun r => decide (r.via = vias.getD i 0)).getLast? with | none => none | some r => some (rs.set i r, ds.set i true) := rfl
   have hinv := fun t => ofStep_inv hn (env := env) (down := down) (vias := vias) (s := (rs, ds)) (t := t) (i := i) (by rw [hrl]; omega) hI
   dsimp only at hstep
   have hskip : ofStep n env down vias (rs, ds) i = some (rs, ds) → ofP n env down vias = ofJ n env down vias m (i + 1) (rs, ds) := fun e => by rw [hP, e]; rfl
   generalize hgv : vias.getD i 0 = v at *
   generalize hgd : ds.getD i false = di at *
   have hsome := fun t (e : ofStep n env down vias (rs, ds) i = some t) => (by rw [hP, e]; rfl : ofP n env down vias = ofJ n env down vias m (i + 1) t)
   simp (disch := omega) only [hgi, hgv, go_sem]
   cases di with
   | true =>
    simp (disch := omega) only [go_sem]
    exact ih2 (i + 1, rs, ds) _ _ ⟨by simp only; omega, hrl, hdl, hI, hskip (by rw [hdef, if_pos (.inl rfl)])⟩ (by simp only; omega) (by simp (disch := omega) only [subT, Int.natCast_add, Int.cast_ofNat_Int, go_sem] <;> (repeat' apply And.intro) <;> first | rfl | (congr 1; omega) | assumption) rfl
   | false =>
   by_cases c0 : 0 ≤ v ∧ ds.getD v.toNat false = false
   ·have hgv2 := hds v.toNat (by omega)
    rw [c0.2] at hgv2
    have d1 : decide (v ≥ 0) = true := decide_eq_true c0.1
    simp (disch := omega) only [hgv2, d1, go_sem]
    exact ih2 (i + 1, rs, ds) _ _ ⟨by simp only; omega, hrl, hdl, hI, hskip (by rw [hdef, if_pos (.inr c0)])⟩ (by simp only; omega) (by simp (disch := omega) only [subT, Int.natCast_add, Int.cast_ofNat_Int, go_sem] <;> (repeat' apply And.intro) <;> first | rfl | (congr 1; omega) | assumption) rfl
   ·have hno : ¬ (false = true ∨ 0 ≤ v ∧ ds.getD v.toNat false = false) := by simpa using c0
    by_cases h3 : v = -3
    ·have d1 : decide (v ≥ 0) = false := decide_eq_false (by omega)
     have d3 : decide (v = -3) = true := decide_eq_true h3
     have e1 : ofStep n env down vias (rs, ds) i = some (rs, ds.set i true) := by rw [hdef, if_neg hno, if_pos h3]
     simp (disch := omega) only [d1, d3, upd_upd, bools_set, go_sem]
     exact ih2 (i + 1, rs, ds.set i true) _ _ ⟨by simp only; omega, hrl, by simpa using hdl, (hinv _ e1).1, hsome _ e1⟩ (by simp only; omega) (by simp (disch := omega) only [subT, Int.natCast_add, Int.cast_ofNat_Int, go_sem] <;> (repeat' apply And.intro) <;> first | rfl | (congr 1; omega) | assumption) rfl
    have d3 : decide (v = -3) = false := decide_eq_false h3
    by_cases c1 : v ≥ 0
    case' pos =>
     have hgv2 := hds v.toNat (by omega)
     have c2 : ds.getD v.toNat false = true := by
      cases e : ds.getD v.toNat false with
      | true => rfl
      | false => exact absurd ⟨c1, e⟩ c0
     rw [c2] at hgv2
     have d1 : decide (v ≥ 0) = true := decide_eq_true c1
     simp (disch := omega) only [hgv2, d1, d3, upd_upd, bools_set, gm4, hlen, hlen2, go_sem]
    case' neg =>
     have d1 : decide (v ≥ 0) = false := decide_eq_false c1
     simp (disch := omega) only [d1, d3, upd_upd, bools_set, gm4, hlen, hlen2, go_sem]
    all_goals
     ·have hst := hstep rfl c0 h3
      have hcl : (candP n i env down rs).length ≤ 1000000000000 := by
       have h1 := List.length_filterMap_le (viaO n i rs) (nearP n i down)
       have h2 := List.length_filter_le (nearB n i down) (List.range n.routers.length)
       have h3 : (nearP n i down).length ≤ n.routers.length := by unfold nearP; rw [List.length_map]; simpa using h2
       have h4 : (ownL n i).length ≤ 1 := by unfold ownL; split <;> simp
       have h5 : (outL n i env).length ≤ 1 := by unfold outL; split <;> simp
       simp only [candP, List.length_append]; omega
      have hC := fun y => l07Candidates_lend (Γ := Γ) (σ := upd (upd s1 bo (flat (rtsV rs))) bd y) (ex := ex) (ex2 := ex2) (router := (i : Nat)) hn ho he hd (hrl.trans hl) (ofI_w hn hI (hrl.trans hl)) (hfze rs y hrl)
      refine SRun.callR (hC _) ⟨[], rfl, rfl⟩ rfl ?_
      generalize candP n i env down rs = cd at *
      simp (disch := omega) only [go_sem]
      refine W_loopC (α := Nat) (fun k => k ≤ cd.length) (fun k => [(1, .isl ex 1 (ints env)), (2, .isl ex2 1 (bools down)), (3, .isl ex3 1 (ints vias)), (4, .ptr b4 0), (10, .msl bo 4 0 vias.length cap), (12, .msl bd 1 0 vias.length vias.length), (13, .int .i64 (m : Nat)), (14, .int .i64 (i : Nat)), (15, .int .i64 v), (16, .bool (hasV v (cd.take k))), (17, .isl false 4 (rtsV cd)), (18, .int .i64 (k : Nat))]) (fun k => upd (upd s1 bo (flat (rtsV (pickV v (cd.take k) rs i)))) bd (bools (ds.set i true))) (fun k => cd.length - k) 0 (by omega) (by simp (disch := omega) only [subT, Int.natCast_add, Int.cast_ofNat_Int, go_sem] <;> (repeat' apply And.intro) <;> first | rfl | (congr 1; omega) | assumption) rfl ?_
      intro k hk ih3
      simp (disch := omega) only [go_sem]
      first | refine iteW_dec (fun h4 => ?_) (fun h4 => ?_) | refine iteW_of (fun h4 => ?_) (fun h4 => ?_)
      ·have htk := take_succ (xs := cd) (i := k) default (by omega)
       have hrt0 : ∀ r : Rt, (rtC r)[0]? = some (.int .i64 r.via) := fun _ => rfl
       have hrt4 : ∀ r : Rt, (rtC r).take 4 = rtC r := fun _ => rfl
       have hrt5 : ∀ r : Rt, (rtC r).length = 4 := fun _ => rfl
       have hpl : (pickV v (cd.take k) rs i).length = rs.length := pickV_len
       have hfl := flat_rts_len (pickV v (cd.take k) rs i)
       have hp := pickV_snoc (v := v) (l := cd.take k) (o := rs) (i := i) (r := cd.getD k default)
       have hh := hasV_snoc (v := v) (l := cd.take k) (r := cd.getD k default)
       have hsr := sets_rts (pickV v (cd.take k) rs i) i (cd.getD k default) (by omega)
       rw [← htk] at hp hh
       simp (disch := omega) only [hrt0, go_sem]
       generalize hgx : cd.getD k default = x at *
       first | refine iteW_dec (fun h5 => ?_) (fun h5 => ?_) | refine iteW_of (fun h5 => ?_) (fun h5 => ?_)
       ·rw [if_pos h5] at hp
        rw [decide_eq_true h5, Bool.or_true] at hh
        simp (disch := omega) only [hrt4, hrt5, gmo, hfl, hpl, hgx, hsr, hso, go_sem]
        exact ih3 (k + 1) _ _ (by omega) (by omega) (by rw [hh]; exact (by simp (disch := omega) only [subT, Int.natCast_add, Int.cast_ofNat_Int, go_sem] <;> (repeat' apply And.intro) <;> first | rfl | (congr 1; omega) | assumption)) (by rw [hp])
       ·rw [if_neg h5] at hp
        rw [decide_eq_false h5, Bool.or_false] at hh
        simp (disch := omega) only [go_sem]
        exact ih3 (k + 1) _ _ (by omega) (by omega) (by rw [hh]; exact (by simp (disch := omega) only [subT, Int.natCast_add, Int.cast_ofNat_Int, go_sem] <;> (repeat' apply And.intro) <;> first | rfl | (congr 1; omega) | assumption)) (by rw [hp])
      ·have hkl : k = cd.length := by omega
       subst hkl
       clear ih3
       rw [List.take_length]
       have hpl : (pickV v cd rs i).length = rs.length := pickV_len
       simp (disch := omega) only [go_sem]
       cases c5 : hasV v cd with
       | true =>
        rw [c5, if_pos rfl] at hst
        simp (disch := omega) only [go_sem]
        exact ih2 (i + 1, pickV v cd rs i, ds.set i true) _ _ ⟨by simp only; omega, by simp only; omega, by simpa using hdl, (hinv _ hst).1, hsome _ hst⟩ (by simp only; omega) (by simp (disch := omega) only [subT, Int.natCast_add, Int.cast_ofNat_Int, go_sem] <;> (repeat' apply And.intro) <;> first | rfl | (congr 1; omega) | assumption) rfl
       | false =>
        rw [c5, if_neg (by simp)] at hst
        have hnone : ofP n env down vias = none := by rw [hP, hst]; rfl
        rw [hnone]
        simp (disch := omega) only [go_sem]
        exact W_retC c117_ok (r := .tup [.msl bo 4 0 vias.length cap, .bool false]) (σ' := σ) (r' := .tup [.isl false 4 (rtsV (pickV v cd rs i)), .bool false]) rfl ⟨hmσ _ _, frz_tup (by exact ⟨hfz _ _ (by omega), .refl _, trivial⟩)⟩ ⟨rfl, _, rfl⟩
  ·have hil : i = vias.length := by omega
   subst hil
   rw [ofJ_end] at hP
   simp (disch := omega) only [go_sem]
   exact ih (m + 1, rs, ds) _ _ ⟨by simp only; omega, hrl, hdl, hI, hP⟩ (by simp only; omega) (by simp (disch := omega) only [subT, Int.natCast_add, Int.cast_ofNat_Int, go_sem] <;> (repeat' apply And.intro) <;> first | rfl | (congr 1; omega) | assumption) rfl
 ·have hml : m = vias.length + 1 := by omega
  subst hml
  rw [ofR_end] at hP
  clear ih h1 hm
  simp (disch := omega) only [go_sem]
  have hen : ofEnd (rs, ds) = if ds.all id then some rs else none := rfl
  refine W_loopC (α := Nat) (fun i => i ≤ vias.length ∧ (ds.take i).all id = true) (fun i => [(10, .msl bo 4 0 vias.length cap), (12, .msl bd 1 0 vias.length vias.length), (19, .int .i64 (i : Nat))]) (fun _ => upd (upd s1 bo (flat (rtsV rs))) bd (bools ds)) (fun i => vias.length - i) 0 ⟨by omega, rfl⟩ (by simp (disch := omega) only [subT, Int.natCast_add, Int.cast_ofNat_Int, go_sem] <;> (repeat' apply And.intro) <;> first | rfl | (congr 1; omega) | assumption) rfl ?_
  rintro i ⟨hi, hall⟩ ih
  simp (disch := omega) only [go_sem]
  first | refine iteW_dec (fun h1 => ?_) (fun h1 => ?_) | refine iteW_of (fun h1 => ?_) (fun h1 => ?_)
  ·have hgi := bools_get (bs := ds) (i := i) (by omega)
   have htk := take_succ (xs := ds) (i := i) false (by omega)
   have hmem := getD_mem (xs := ds) false (by omega : i < ds.length)
   simp (disch := omega) only [hgi, go_sem]
   generalize ds.getD i false = di at *
   cases di with
   | true =>
    simp (disch := omega) only [go_sem]
    exact ih (i + 1) _ _ ⟨by omega, by rw [htk, List.all_append, hall]; rfl⟩ (by omega) (by simp (disch := omega) only [subT, Int.natCast_add, Int.cast_ofNat_Int, go_sem] <;> (repeat' apply And.intro) <;> first | rfl | (congr 1; omega) | assumption) rfl
   | false =>
    have : ds.all id = false := by rw [List.all_eq_false]; exact ⟨false, hmem, by simp⟩
    rw [hen, if_neg (by rw [this]; simp)] at hP
    rw [hP]
    simp (disch := omega) only [go_sem]
    exact W_retC c117_ok (r := .tup [.msl bo 4 0 vias.length cap, .bool false]) (σ' := σ) (r' := .tup [.isl false 4 (rtsV rs), .bool false]) rfl ⟨hmσ _ _, frz_tup (by exact ⟨hfz _ _ (by omega), .refl _, trivial⟩)⟩ ⟨rfl, _, rfl⟩
  ·have hil : i = ds.length := by omega
   rw [hil, List.take_length] at hall
   rw [hen, if_pos hall] at hP
   rw [hP]
   simp (disch := omega) only [go_sem]
   exact W_retC c117_ok (r := .tup [.msl bo 4 0 vias.length cap, .bool true]) (σ' := σ) (r' := .tup [.isl false 4 (rtsV rs), .bool true]) rfl ⟨hmσ _ _, frz_tup (by exact ⟨hfz _ _ (by omega), .refl _, trivial⟩)⟩ ⟨rfl, _, rfl, fun rs h => h⟩
end
section
attribute [local irreducible] SRun DS DRun
variable {Γ : St} {σ σ0 : St}
theorem ints1_ok (x : Int) : ∀ y ∈ [V.int .i64 x], y.cells.length = 1 ∧ ∀ c ∈ y.cells, c.one = true := ints_ok [x]
set_option maxHeartbeats 1000000 in
theorem l07Options_ok {n : Net} {ex ex2 : Bool} {env : List Int} {down : List Bool} {router : Int} (hn : NetR n) (ho : n.origins.length ≤ 1000000000000) (he : env.length = n.externals.length) (hd : down.length = n.links.length) :
  Ret Tryz.prog Γ 150 [netV n, .int .i64 router, .isl ex 1 (ints env), .isl ex2 1 (bools down)] σ (.isl false 1 (ints (optP n router env down))) σ := by
 have r4 := hn.r4
 have l6 := hn.l6
 have x2 := hn.x2
 have hlen : (netC n).take 6 = netC n := rfl
 have hlen2 : (netC n).length = 6 := rfl
 have e2 : (netC n)[2]? = some (.isl false 1 (ints n.origins)) := rfl
 have e3 : (netC n)[3]? = some (.isl false 1 (ints n.externals)) := rfl
 refine ret_of c150_ok rfl ?_
 simp (disch := omega) only [c150, netV, go_sem]
 refine SRun.boxR (net_one n) ?_
 intro b4 hb4
 have g4 := upd_same σ b4 (netC n)
 have hσ : ∀ d x, σ d = some x → upd σ b4 (netC n) d = some x := le_upd hb4
 simp (disch := omega) only [go_sem]
 generalize upd σ b4 (netC n) = s1 at *
 simp (disch := omega) only [g4, e2, go_sem]
 refine SRun.callR (l07Has_ok (ex := false) (xs := n.origins) (x := router) ho) ⟨[], rfl, rfl⟩ rfl ?_
 simp (disch := omega) only [go_sem]
 refine iteW_join (fun T s => ∃ q, OwnL s1 1 (ints (if 0 ≤ hasI n.origins router then [-2] else [])) q s ∧ look T 1 = .int .i64 router ∧ look T 2 = .isl ex 1 (ints env) ∧ look T 3 = .isl ex2 1 (bools down) ∧ look T 4 = .ptr b4 0 ∧ look T 9 = q) (fun k' key => ?_) ?_
 ·by_cases h1 : hasI n.origins router ≥ 0
  ·have hd1 : decide (hasI n.origins router ≥ 0) = true := decide_eq_true h1
   simp (disch := omega) only [hd1, go_sem]
   refine SRun.appL (OwnL.nil _ 1) rfl (ints1_ok (-2)) (by simp) ?_
   intro q s ho1
   simp (disch := omega) only [go_sem]
   exact key _ _ ⟨q, by rw [if_pos (by omega)]; exact ho1, rfl, rfl, rfl, rfl, rfl⟩
  ·have hd1 : decide (hasI n.origins router ≥ 0) = false := decide_eq_false h1
   simp (disch := omega) only [hd1, go_sem]
   exact key _ _ ⟨_, by rw [if_neg (by omega)]; exact OwnL.nil _ 1, rfl, rfl, rfl, rfl, rfl⟩
 rintro T s ⟨q, ho1, k1, k2, k3, k4, k9⟩
 have hol : optL n router env = (if 0 ≤ hasI n.origins router then [-2] else []) ++ (if outB n router env then [-1] else []) := rfl
 have hopt : optP n router env down = (if optL n router env = [] then [-3] else optL n router env) ++ nearP n router down := rfl
 have hb1 : (if 0 ≤ hasI n.origins router then [(-2 : Int)] else []).length ≤ 1 := by split <;> simp
 generalize (if 0 ≤ hasI n.origins router then [(-2 : Int)] else []) = l1 at *
 have hx1 : n.externals.length ≤ 1000000000000 := by omega
 simp (disch := omega) only [ho1.get g4, e3, k1, k2, k3, k4, go_sem]
 refine SRun.callR (l07Has_ok (ex := false) (xs := n.externals) (x := router) hx1) ⟨[], rfl, rfl⟩ rfl ?_
 have hx := hasI_in n.externals router
 have hob : outB n router env = (decide (0 ≤ hasI n.externals router) && decide (0 < env.getD (hasI n.externals router).toNat 0)) := rfl
 have hxb : (hasI n.externals router ≥ 0 ∧ outB n router env = decide (env.getD (hasI n.externals router).toNat 0 > 0)) ∨ (hasI n.externals router < 0 ∧ outB n router env = false) := by
  by_cases h : 0 ≤ hasI n.externals router
  ·exact .inl ⟨h, by rw [hob, decide_eq_true h]; rfl⟩
  ·exact .inr ⟨by omega, by rw [hob, decide_eq_false h]; rfl⟩
 rcases hxb with ⟨hx0, hb⟩ | ⟨hx0, hb⟩
 case' inl =>
  have hd1 : decide (hasI n.externals router ≥ 0) = true := decide_eq_true hx0
  simp (disch := omega) only [hd1, k1, k2, k3, k4, k9, go_sem]
  refine iteW_join (fun T s => ∃ q, OwnL s1 1 (ints (optL n router env)) q s ∧ look T 1 = .int .i64 router ∧ look T 3 = .isl ex2 1 (bools down) ∧ look T 4 = .ptr b4 0 ∧ look T 9 = q) (fun k' key => ?_) ?_
  ·rw [hol, hb] at key
   first | refine iteW_dec (fun h3 => ?_) (fun h3 => ?_) | refine iteW_of (fun h3 => ?_) (fun h3 => ?_)
   ·rw [if_pos (by simpa using h3)] at key
    simp (disch := omega) only [hd1, k1, k2, k3, k4, k9, go_sem]
    refine SRun.appL ho1 rfl (ints1_ok (-1)) (by rw [ints_len]; simp only [List.length_singleton]; omega) ?_
    intro q2 s2 ho2
    rw [ints_app] at ho2
    simp (disch := omega) only [go_sem]
    exact key _ _ ⟨q2, ho2, k1, k3, k4, rfl⟩
   ·rw [if_neg (by simpa using h3), List.append_nil] at key
    simp (disch := omega) only [go_sem]
    exact key _ _ ⟨q, ho1, k1, k3, k4, k9⟩
 case' inr =>
  have hd1 : decide (hasI n.externals router ≥ 0) = false := decide_eq_false (by omega)
  have hcl : OwnL s1 1 (ints (optL n router env)) q s := by rw [hol, hb, if_neg (by simp), List.append_nil]; exact ho1
  simp (disch := omega) only [hd1, k1, k2, k3, k4, k9, go_sem]
  clear ho1
  have ho1 := hcl
 case' inl =>
  clear ho1 k1 k2 k3 k4 k9
  rintro T s ⟨q, ho1, k1, k3, k4, k9⟩
 all_goals
  have hol2 : (optL n router env).length ≤ 2 := by rw [hol, List.length_append]; split <;> simp <;> omega
  clear hol
  generalize optL n router env = l2 at *
  have hnl : (nearP n router down).length ≤ 4 := by
   simp only [nearP, List.length_map]
   have := List.length_filter_le (nearB n router down) (List.range n.routers.length)
   rw [List.length_range] at this; omega
  have fin : ∀ q s, OwnL s1 1 (ints (optP n router env down)) q s → Conv s q σ (.isl false 1 (ints (optP n router env down))) := fun q s ho => by
   obtain ⟨s2, h1, h2⟩ := ownL_less ho hσ
   exact ⟨fun d x h => h1 _ _ (h2.le _ _ h), ho.frz (fun _ _ => rfl) fun d h => by
    cases e : σ d with
    | none => rfl
    | some c => rw [hσ _ _ e] at h; cases h⟩
  by_cases c1 : l2 = []
  ·subst c1
   have hopt2 : optP n router env down = [-3] ++ nearP n router down := by rw [hopt, if_pos rfl]
   simp (disch := omega) only [k9, stepW_len_own ho1, List.length_nil, go_sem]
   refine SRun.appL ho1 rfl (ints1_ok (-3)) (by simp [ints]) ?_
   intro q2 s2 ho2
   rw [ints_app] at ho2
   simp (disch := omega) only [ho2.get g4, hlen, hlen2, k1, k3, k4, go_sem]
   refine SRun.callR (l06Neighbours_ok (ex := ex2) (n := n) (down := down) (r := router) (by omega) (by omega) hd) ⟨[], rfl, rfl⟩ rfl ?_
   simp (disch := omega) only [go_sem]
   refine SRun.appL ho2 rfl (ints_ok (nearP n router down)) (by simp only [ints_len, List.length_append, List.length_singleton, List.length_nil]; omega) ?_
   intro q3 s3 ho3
   have : ints ([] ++ [-3]) ++ ints (nearP n router down) = ints (optP n router env down) := by rw [hopt2]; simp [ints]
   rw [this] at ho3
   simp (disch := omega) only [go_sem]
   exact W_retC c150_ok rfl (fin _ _ ho3) ⟨rfl, rfl⟩
  ·have hopt2 : optP n router env down = l2 ++ nearP n router down := by rw [hopt, if_neg c1]
   have hd0 : decide ((l2.length : Int) = 0) = false := decide_eq_false fun h => c1 (List.eq_nil_of_length_eq_zero (by omega))
   simp (disch := omega) only [k9, stepW_len_own ho1, hd0, ho1.get g4, hlen, hlen2, k1, k3, k4, go_sem]
   refine SRun.callR (l06Neighbours_ok (ex := ex2) (n := n) (down := down) (r := router) (by omega) (by omega) hd) ⟨[], rfl, rfl⟩ rfl ?_
   simp (disch := omega) only [go_sem]
   refine SRun.appL ho1 rfl (ints_ok (nearP n router down)) (by simp only [ints_len]; omega) ?_
   intro q3 s3 ho3
   have : ints l2 ++ ints (nearP n router down) = ints (optP n router env down) := by rw [hopt2]; simp [ints]
   rw [this] at ho3
   simp (disch := omega) only [go_sem]
   exact W_retC c150_ok rfl (fin _ _ ho3) ⟨rfl, rfl⟩
/-- Choices, as a list of lists: a list of nothing has no room. -/
def choV (cs : List (List Int)) : List V := cs.map fun c => .isl c.isEmpty 1 (ints c)
theorem choV_len (cs : List (List Int)) : (choV cs).length = cs.length := by simp [choV]
theorem choV_app (cs : List (List Int)) (c : List Int) (v : Int) : choV cs ++ [.isl false 1 (ints (c ++ [v]))] = choV (cs ++ [c ++ [v]]) := by simp [choV]
section
variable {P : Program} {f : FuncId} {n : Nat} {Q : V → St → Prop} {k : List It} {T : Ts} {g : GI} {l : List GI}
theorem stepW_iaddr_cho {ex : Bool} {xs : List (List Int)} {kk : IntKind} {m : Int} (h0 : 0 ≤ m) (h1 : m < xs.length) : stepW P Γ f n Q (.iaddr 1 (.c (.isl ex 1 (choV xs))) (.c (.int kk m))) g l k T σ = W P Γ f n Q (.ops l :: k) (putT T g.d (.iptr [.isl (xs.getD m.toNat []).isEmpty 1 (ints (xs.getD m.toNat []))])) σ := stepW_iaddr_map (F := fun c : List Int => .isl c.isEmpty 1 (ints c)) h0 h1
theorem stepK_iaddr_cho {K : V → St → Prop} {ex : Bool} {xs : List (List Int)} {kk : IntKind} {m : Int} (h0 : 0 ≤ m) (h1 : m < xs.length) : stepK (.iaddr 1 (.c (.isl ex 1 (choV xs))) (.c (.int kk m))) σ K = K (.iptr [.isl (xs.getD m.toNat []).isEmpty 1 (ints (xs.getD m.toNat []))]) σ := stepK_iaddr_map (F := fun c : List Int => .isl c.isEmpty 1 (ints c)) h0 h1
end
attribute [go_sem] stepW_iaddr_cho stepK_iaddr_cho choV_len
theorem flatMap_len {α β : Type} {f : α → List β} {m : Nat} (hf : ∀ x, (f x).length = m) : ∀ xs : List α, (xs.flatMap f).length = xs.length * m := by
 intro xs
 induction xs with
 | nil => simp
 | cons x r ih => rw [List.flatMap_cons, List.length_append, hf, ih, List.length_cons]; rw [Nat.add_mul]; omega
def choS (n : Net) (env : List Int) (down : List Bool) (m : Nat) : List (List Int) := (List.range m).foldl (growP n env down) [[]]
theorem choS_succ (n : Net) (env : List Int) (down : List Bool) (m : Nat) : choS n env down (m + 1) = growP n env down (choS n env down m) m := by simp [choS, List.range_succ]
theorem opt_len {n : Net} {env : List Int} {down : List Bool} (hn : NetR n) {i : Int} : (optP n i env down).length ≤ 6 := by
 have r4 := hn.r4
 have h1 : (optL n i env).length ≤ 2 := by unfold optL; rw [List.length_append]; split <;> split <;> simp
 have h2 : (nearP n i down).length ≤ 4 := by
  simp only [nearP, List.length_map]
  have := List.length_filter_le (nearB n i down) (List.range n.routers.length)
  rw [List.length_range] at this; omega
 unfold optP
 rw [List.length_append]
 split
 ·simp; omega
 ·omega
theorem choS_len {n : Net} {env : List Int} {down : List Bool} (hn : NetR n) : ∀ m, (choS n env down m).length ≤ 6 ^ m := by
 intro m
 induction m with
 | zero => simp [choS]
 | succ m ih =>
  rw [choS_succ]
  unfold growP
  rw [flatMap_len (m := (optP n m env down).length) (fun c => by simp)]
  have := opt_len (n := n) (env := env) (down := down) hn (i := m)
  calc _ ≤ 6 ^ m * 6 := Nat.mul_le_mul ih this
   _ = 6 ^ (m + 1) := by rw [Nat.pow_succ]
theorem choS_mem {n : Net} {env : List Int} {down : List Bool} : ∀ (m : Nat), ∀ vs ∈ choS n env down m, vs.length = m := by
 intro m
 induction m with
 | zero => intro vs h; simp [choS] at h; subst h; rfl
 | succ m ih =>
  intro vs h
  rw [choS_succ] at h
  simp only [growP, List.mem_flatMap, List.mem_map] at h
  obtain ⟨c, hc, v, hv, rfl⟩ := h
  rw [List.length_append, ih c hc]; rfl
theorem choS_bound {n : Net} {env : List Int} {down : List Bool} (hn : NetR n) {m : Nat} (hm : m ≤ 4) : (choS n env down m).length ≤ 1296 := by
 have h1 := choS_len (env := env) (down := down) hn m
 have h2 : 6 ^ m ≤ 6 ^ 4 := Nat.pow_le_pow_right (by decide) hm
 omega
set_option maxHeartbeats 1000000 in
theorem l07Choices_ok {n : Net} {ex ex2 : Bool} {env : List Int} {down : List Bool} (hn : NetR n) (ho : n.origins.length ≤ 1000000000000) (he : env.length = n.externals.length) (hd : down.length = n.links.length) :
  Ret Tryz.prog Γ 116 [netV n, .isl ex 1 (ints env), .isl ex2 1 (bools down)] σ (.isl false 1 (choV (choiceP n env down))) σ := by
 have r1 := hn.r1
 have r4 := hn.r4
 have hlen : (netC n).take 6 = netC n := rfl
 have hlen2 : (netC n).length = 6 := rfl
 have e0 : (netC n)[0]? = some (.isl false 1 (strsV n.routers)) := rfl
 refine ret_of c116_ok rfl ?_
 simp (disch := omega) only [c116, netV, go_sem]
 refine SRun.boxR (net_one n) ?_
 intro b3 hb3
 have g3 := upd_same σ b3 (netC n)
 have hσ : ∀ d x, σ d = some x → upd σ b3 (netC n) d = some x := le_upd hb3
 simp (disch := omega) only [go_sem]
 generalize upd σ b3 (netC n) = s1 at *
 refine W_loopC (α := Nat × Bool) (fun p => p.1 ≤ n.routers.length ∧ (p.2 = true → p.1 = 0)) (fun p => [(1, .isl ex 1 (ints env)), (2, .isl ex2 1 (bools down)), (3, .ptr b3 0), (7, .isl p.2 1 (choV (choS n env down p.1))), (8, .int .i64 (p.1 : Nat))]) (fun _ => s1) (fun p => n.routers.length - p.1) (0, true) ⟨by simp, fun _ => rfl⟩ (by simp (disch := omega) only [subT, Int.natCast_add, Int.cast_ofNat_Int, go_sem] <;> (repeat' apply And.intro) <;> first | rfl | (congr 1; omega) | assumption) rfl ?_
 rintro ⟨i, xf⟩ ⟨hi, hxf⟩ ih
 dsimp only at hi hxf
 have hcb := choS_bound (env := env) (down := down) hn (m := i) (by omega)
 simp (disch := omega) only [g3, e0, go_sem]
 first | refine iteW_dec (fun h1 => ?_) (fun h1 => ?_) | refine iteW_of (fun h1 => ?_) (fun h1 => ?_)
 ·have hob := opt_len (n := n) (env := env) (down := down) hn (i := (i : Nat))
  have hsucc := choS_succ n env down i
  have hg : growP n env down (choS n env down i) i = (choS n env down i).flatMap fun c => (optP n i env down).map fun v => c ++ [v] := rfl
  rw [hg] at hsucc
  simp (disch := omega) only [g3, hlen, hlen2, go_sem]
  refine SRun.callR (l07Options_ok (ex := ex) (ex2 := ex2) (router := (i : Nat)) hn ho he hd) ⟨[], rfl, rfl⟩ rfl ?_
  have hcm := fun c hc => choS_mem (n := n) (env := env) (down := down) i c hc
  generalize optP n i env down = op at *
  generalize choS n env down i = cs at *
  simp (disch := omega) only [go_sem]
  have hTA : ∀ (a : Nat) (q : V), True := fun _ _ => trivial
  clear hTA
  refine W_loopC (α := Nat × V × St) (fun p => p.1 ≤ cs.length ∧ OwnL s1 1 (choV ((cs.take p.1).flatMap fun c => op.map fun v => c ++ [v])) p.2.1 p.2.2) (fun p => [(1, .isl ex 1 (ints env)), (2, .isl ex2 1 (bools down)), (3, .ptr b3 0), (7, .isl xf 1 (choV cs)), (8, .int .i64 (i : Nat)), (9, .isl false 1 (ints op)), (10, p.2.1), (11, .int .i64 (p.1 : Nat))]) (fun p => p.2.2) (fun p => cs.length - p.1) (0, _, _) ⟨by simp, OwnL.nil _ 1⟩ (by simp (disch := omega) only [subT, Int.natCast_add, Int.cast_ofNat_Int, go_sem] <;> (repeat' apply And.intro) <;> first | rfl | (congr 1; omega) | assumption) rfl ?_
  rintro ⟨a, q, s⟩ ⟨ha, ho1⟩ ihA
  dsimp only at ha ho1
  simp (disch := omega) only [go_sem]
  first | refine iteW_dec (fun h2 => ?_) (fun h2 => ?_) | refine iteW_of (fun h2 => ?_) (fun h2 => ?_)
  ·have htk := take_succ (xs := cs) (i := a) [] (by omega)
   have hpre : ((cs.take a).flatMap fun c => op.map fun v => c ++ [v]).length ≤ 1296 * 6 := by
    rw [flatMap_len (m := op.length) (fun c => by simp)]
    exact Nat.mul_le_mul (by rw [List.length_take]; omega) hob
   have hnx : (cs.take (a + 1)).flatMap (fun c => op.map fun v => c ++ [v]) = (cs.take a).flatMap (fun c => op.map fun v => c ++ [v]) ++ op.map fun v => cs.getD a [] ++ [v] := by
    rw [htk, List.flatMap_append, List.flatMap_cons, List.flatMap_nil, List.append_nil]
   generalize (cs.take a).flatMap (fun c => op.map fun v => c ++ [v]) = pre at *
   have hcl : (cs.getD a []).length ≤ 1000000 := by have := hcm _ (getD_mem [] (by omega : a < cs.length)); omega
   simp (disch := omega) only [go_sem]
   refine W_loopC (α := Nat × V × St) (fun p => p.1 ≤ op.length ∧ OwnL s1 1 (choV (pre ++ (op.take p.1).map fun v => cs.getD a [] ++ [v])) p.2.1 p.2.2) (fun p => [(1, .isl ex 1 (ints env)), (2, .isl ex2 1 (bools down)), (3, .ptr b3 0), (7, .isl xf 1 (choV cs)), (8, .int .i64 (i : Nat)), (9, .isl false 1 (ints op)), (10, p.2.1), (11, .int .i64 (a : Nat)), (12, .int .i64 (p.1 : Nat))]) (fun p => p.2.2) (fun p => op.length - p.1) (0, q, s) ⟨by simp, by simpa using ho1⟩ (by simp (disch := omega) only [subT, Int.natCast_add, Int.cast_ofNat_Int, go_sem] <;> (repeat' apply And.intro) <;> first | rfl | (congr 1; omega) | assumption) rfl ?_
   clear ho1
   rintro ⟨b, q, s⟩ ⟨hb, ho1⟩ ihB
   dsimp only at hb ho1
   simp (disch := omega) only [go_sem]
   first | refine iteW_dec (fun h3 => ?_) (fun h3 => ?_) | refine iteW_of (fun h3 => ?_) (fun h3 => ?_)
   ·have htk2 := take_succ (xs := op) (i := b) 0 (by omega)
    have hsz : (pre ++ (op.take b).map fun v => cs.getD a [] ++ [v]).length ≤ 1296 * 6 + 6 := by
     rw [List.length_append, List.length_map, List.length_take]; omega
    have hsnoc : choV (pre ++ (op.take b).map fun v => cs.getD a [] ++ [v]) ++ [.isl false 1 (ints (cs.getD a [] ++ [op.getD b 0]))] = choV (pre ++ (op.take (b + 1)).map fun v => cs.getD a [] ++ [v]) := by
     rw [choV_app, htk2, List.map_append, List.append_assoc]; rfl
    generalize pre ++ (op.take b).map (fun v => cs.getD a [] ++ [v]) = pb at *
    simp (disch := omega) only [go_sem]
    rw [W_draw]
    refine DRun.start (DRun.mixN rfl ?_)
    simp (disch := omega) only [go_sem]
    generalize cs.getD a [] = c at *
    generalize hgv : op.getD b 0 = v at *
    refine DS.wrQ (WrF.appL (OwnL.nil (σ0 := emp) 1 1) rfl (ints_ok c) (by simp only [ints_len, List.length_nil]; omega)) rfl ?_
    intro r1 s1' hr1 _
    have hr1' := OwnL.of_app (OwnL.nil (σ0 := emp) 1 1) (ints_ok c) hr1
    rw [List.nil_append] at hr1'
    simp (disch := omega) only [go_sem]
    refine DS.wrQ (WrF.appL hr1' rfl (ints1_ok v) (by simp only [ints_len, List.length_singleton]; omega)) rfl ?_
    intro r2 s2' hr2 hdj
    have hr2' := OwnL.of_app hr1' (ints1_ok v) hr2
    rw [ints_app] at hr2'
    obtain ⟨b2, cap, rfl, gb2, hcap, _, rfl⟩ := hr2'.at (by simp [ints])
    have hb2 := disj_new hdj
    simp (disch := omega) only [go_sem]
    rw [cup_new]
    have hsb : s1 b2 = none := by
     cases e : s1 b2 with
     | none => rfl
     | some x => rw [ho1.get e] at hb2; cases hb2
    refine DRun.appL (ho1.ext hb2) rfl (fun y hy => by rw [List.mem_singleton.1 hy]; simp [V.cells, V.one]) (by rw [choV_len]; simp only [List.length_singleton]; omega) ?_
    intro q3 s3 ho3
    rw [show c.length + 1 = (ints (c ++ [v])).length by simp [ints]] at ho3
    obtain ⟨s4, hin, ho4⟩ := ownL_settle hsb (ints_ok _) ho3
    rw [hsnoc] at ho4
    simp (disch := omega) only [go_sem]
    refine W_freezeIn (σ' := s4) (T' := [(1, .isl ex 1 (ints env)), (2, .isl ex2 1 (bools down)), (3, .ptr b3 0), (7, .isl xf 1 (choV cs)), (8, .int .i64 (i : Nat)), (9, .isl false 1 (ints op)), (10, q3), (11, .int .i64 (a : Nat)), (12, .int .i64 ((b : Int) + 1))]) hin (frzT_of_sub (by simp (disch := omega) only [subT, Int.natCast_add, Int.cast_ofNat_Int, go_sem] <;> (repeat' apply And.intro) <;> first | rfl | (congr 1; omega) | assumption)) ?_
    exact ihB (b + 1, q3, s4) _ _ ⟨by simp only; omega, ho4⟩ (by simp only; omega) (by simp (disch := omega) only [subT, Int.natCast_add, Int.cast_ofNat_Int, go_sem] <;> (repeat' apply And.intro) <;> first | rfl | (congr 1; omega) | assumption) rfl
   ·have hbl : b = op.length := by omega
    subst hbl
    rw [List.take_length, ← hnx] at ho1
    simp (disch := omega) only [go_sem]
    exact ihA (a + 1, q, s) _ _ ⟨by simp only; omega, ho1⟩ (by simp only; omega) (by simp (disch := omega) only [subT, Int.natCast_add, Int.cast_ofNat_Int, go_sem] <;> (repeat' apply And.intro) <;> first | rfl | (congr 1; omega) | assumption) rfl
  ·have hal : a = cs.length := by omega
   subst hal
   rw [List.take_length, ← hsucc] at ho1
   simp (disch := omega) only [go_sem]
   refine W_freezeL (σ' := s1) (T' := [(1, .isl ex 1 (ints env)), (2, .isl ex2 1 (bools down)), (3, .ptr b3 0), (7, .isl false 1 (choV (choS n env down (i + 1)))), (8, .int .i64 ((i : Int) + 1))]) ho1.le (by exact ⟨.refl _, .refl _, .refl _, ho1.conv.2, .refl _, trivial⟩) ?_
   exact ih (i + 1, false) _ _ ⟨by simp only; omega, fun h => by cases h⟩ (by simp only; omega) (by simp (disch := omega) only [subT, Int.natCast_add, Int.cast_ofNat_Int, go_sem] <;> (repeat' apply And.intro) <;> first | rfl | (congr 1; omega) | assumption) rfl
 ·have hil : i = n.routers.length := by omega
  subst hil
  have hxf2 : xf = false := by
   cases xf with
   | false => rfl
   | true => have := hxf rfl; omega
  subst hxf2
  simp (disch := omega) only [go_sem]
  exact W_retC c116_ok rfl (Conv.drop _ hσ) ⟨rfl, rfl⟩
end
section
attribute [local irreducible] SRun DS DRun
variable {Γ : St} {σ σ0 : St}
theorem l07Env_ok {n : Net} {ex ex2 : Bool} {env : List Int} {down : List Bool} (hn : NetLen n) (he : env.length ≤ 1000000000000) (hd : down.length ≤ 1000000000000) :
  Ret Tryz.prog Γ 56 [netV n, .isl ex 1 (ints env), .isl ex2 1 (bools down)] σ (.int .i64 (envCode n env down)) σ := by
 have hlen : (netC n).take 6 = netC n := rfl
 have hlen2 : (netC n).length = 6 := rfl
 have l2 := hn.links
 have l6 := hn.externals
 have e1 : (netC n)[1]? = some (.isl false 3 (linksV n.links)) := rfl
 have e3 : (netC n)[3]? = some (.isl false 1 (ints n.externals)) := rfl
 have hdef : envCode n env down = if 4096 < env.length ∨ 4096 < down.length then 2 else if netB n = false then 1 else if envB n env down then 0 else 5 := rfl
 refine ret_of c56_ok rfl ?_
 simp (disch := omega) only [c56, netV, go_sem]
 refine SRun.boxR (net_one n) ?_
 intro b3 hb3
 have g3 := upd_same σ b3 (netC n)
 have hσ : ∀ d x, σ d = some x → upd σ b3 (netC n) d = some x := le_upd hb3
 simp (disch := omega) only [go_sem]
 generalize upd σ b3 (netC n) = s1 at *
 by_cases c1 : 4096 < env.length ∨ 4096 < down.length
 ·rw [if_pos c1] at hdef
  rw [hdef]
  by_cases c2 : (env.length : Int) > 4096
  ·have d2 : decide ((env.length : Int) > 4096) = true := decide_eq_true c2
   simp (disch := omega) only [d2, go_sem]
   exact W_retC c56_ok rfl (Conv.drop _ hσ) ⟨rfl, rfl⟩
  ·have d2 : decide ((env.length : Int) > 4096) = false := decide_eq_false c2
   have d3 : decide ((down.length : Int) > 4096) = true := decide_eq_true (by omega)
   simp (disch := omega) only [d2, d3, go_sem]
   exact W_retC c56_ok rfl (Conv.drop _ hσ) ⟨rfl, rfl⟩
 rw [if_neg c1] at hdef
 have d2 : decide ((env.length : Int) > 4096) = false := decide_eq_false (by omega)
 have d3 : decide ((down.length : Int) > 4096) = false := decide_eq_false (by omega)
 simp (disch := omega) only [d2, d3, g3, hlen, hlen2, go_sem]
 refine SRun.callR (NetOK_ok hn) ⟨[], rfl, rfl⟩ rfl ?_
 cases c4 : netB n with
 | false =>
  rw [hdef, if_pos c4]
  simp (disch := omega) only [go_sem]
  exact W_retC c56_ok rfl (Conv.drop _ hσ) ⟨rfl, rfl⟩
 | true =>
  rw [if_neg (by rw [c4]; simp)] at hdef
  have hB : envB n env down = (decide (env.length = n.externals.length) && decide (down.length = n.links.length) && env.all fun x => inB x 0 2) := rfl
  by_cases c5 : env.length = n.externals.length
  case' neg =>
   have d5 : (decide ¬ (env.length : Int) = n.externals.length) = true := decide_eq_true (by omega)
   rw [hdef, hB, decide_eq_false c5, if_neg (by simp)]
   simp (disch := omega) only [g3, e3, d5, go_sem]
   exact W_retC c56_ok rfl (Conv.drop _ hσ) ⟨rfl, rfl⟩
  have d5 : (decide ¬ (env.length : Int) = n.externals.length) = false := decide_eq_false (by omega)
  by_cases c6 : down.length = n.links.length
  case' neg =>
   have d6 : (decide ¬ (down.length : Int) = n.links.length) = true := decide_eq_true (by omega)
   rw [hdef, hB, decide_eq_false c6, if_neg (by simp)]
   simp (disch := omega) only [g3, e3, e1, d5, d6, go_sem]
   exact W_retC c56_ok rfl (Conv.drop _ hσ) ⟨rfl, rfl⟩
  have d6 : (decide ¬ (down.length : Int) = n.links.length) = false := decide_eq_false (by omega)
  rw [decide_eq_true c5, decide_eq_true c6] at hB
  simp (disch := omega) only [g3, e3, e1, d5, d6, go_sem]
  refine W_loopC (α := Nat) (fun i => i ≤ env.length ∧ (env.take i).all (fun x => inB x 0 2) = true) (fun i => [(1, .isl ex 1 (ints env)), (7, .int .i64 (i : Nat))]) (fun _ => s1) (fun i => env.length - i) 0 ⟨by omega, rfl⟩ (by simp (disch := omega) only [subT, Int.natCast_add, Int.cast_ofNat_Int, go_sem] <;> (repeat' apply And.intro) <;> first | rfl | (congr 1; omega) | assumption) rfl ?_
  rintro i ⟨hi, hall⟩ ih
  simp (disch := omega) only [go_sem]
  first | refine iteW_dec (fun h1 => ?_) (fun h1 => ?_) | refine iteW_of (fun h1 => ?_) (fun h1 => ?_)
  ·have hnx := all_takeD (xs := env) (p := fun x => inB x 0 2) (i := i) (by omega) hall
   have hno := all_falseD (xs := env) (p := fun x => inB x 0 2) (i := i) (by omega)
   have hg : env.getD i default = env.getD i 0 := rfl
   rw [hg] at hnx hno
   simp (disch := omega) only [go_sem]
   generalize env.getD i 0 = x at *
   refine SRun.callR (l01In_ok x 0 2) ⟨[], rfl, rfl⟩ rfl ?_
   have hin : inB x 0 2 = (decide (0 ≤ x) && decide (x ≤ 2)) := rfl
   rw [← hin]
   cases c7 : inB x 0 2 with
   | true =>
    simp (disch := omega) only [go_sem]
    exact ih (i + 1) _ _ ⟨by omega, hnx c7⟩ (by omega) (by simp (disch := omega) only [subT, Int.natCast_add, Int.cast_ofNat_Int, go_sem] <;> (repeat' apply And.intro) <;> first | rfl | (congr 1; omega) | assumption) rfl
   | false =>
    rw [hdef, hB, hno c7]
    simp (disch := omega) only [go_sem]
    exact W_retC c56_ok rfl (Conv.drop _ hσ) ⟨rfl, rfl⟩
  ·have hil : i = env.length := by omega
   subst hil
   rw [List.take_length] at hall
   rw [hdef, hB, hall]
   simp (disch := omega) only [go_sem]
   exact W_retC c56_ok rfl (Conv.drop _ hσ) ⟨rfl, rfl⟩
/-- States, as a list of lists of routes. -/
def staV (ss : List (List Rt)) : List V := ss.map fun rs => .isl false 4 (rtsV rs)
theorem staV_len (ss : List (List Rt)) : (staV ss).length = ss.length := by simp [staV]
theorem staV_app (ss : List (List Rt)) (rs : List Rt) : staV ss ++ [.isl false 4 (rtsV rs)] = staV (ss ++ [rs]) := by simp [staV]
section
variable {P : Program} {f : FuncId} {n : Nat} {Q : V → St → Prop} {k : List It} {T : Ts} {g : GI} {l : List GI}
theorem stepW_iaddr_sta {ex : Bool} {xs : List (List Rt)} {kk : IntKind} {m : Int} (h0 : 0 ≤ m) (h1 : m < xs.length) : stepW P Γ f n Q (.iaddr 1 (.c (.isl ex 1 (staV xs))) (.c (.int kk m))) g l k T σ = W P Γ f n Q (.ops l :: k) (putT T g.d (.iptr [.isl false 4 (rtsV (xs.getD m.toNat []))])) σ := stepW_iaddr_map (F := fun rs : List Rt => .isl false 4 (rtsV rs)) h0 h1
theorem stepK_iaddr_sta {K : V → St → Prop} {ex : Bool} {xs : List (List Rt)} {kk : IntKind} {m : Int} (h0 : 0 ≤ m) (h1 : m < xs.length) : stepK (.iaddr 1 (.c (.isl ex 1 (staV xs))) (.c (.int kk m))) σ K = K (.iptr [.isl false 4 (rtsV (xs.getD m.toNat []))]) σ := stepK_iaddr_map (F := fun rs : List Rt => .isl false 4 (rtsV rs)) h0 h1
end
attribute [go_sem] stepW_iaddr_sta stepK_iaddr_sta staV_len
theorem sta1_ok (rs : List Rt) : ∀ y ∈ [V.isl false 4 (rtsV rs)], y.cells.length = 1 ∧ ∀ c ∈ y.cells, c.one = true := by
 intro y hy; rw [List.mem_singleton.1 hy]; simp [V.cells, V.one]
theorem opt_in {n : Net} {env : List Int} {down : List Bool} {i v : Int} (hn : NetR n) (h : v ∈ optP n i env down) : v < n.routers.length := by
 have r1 := hn.r1
 unfold optP at h
 rw [List.mem_append] at h
 rcases h with h | h
 ·split at h
  ·rw [List.mem_singleton.1 h]; omega
  ·unfold optL at h
   rw [List.mem_append] at h
   rcases h with h | h
   ·split at h
    ·rw [List.mem_singleton.1 h]; omega
    ·cases h
   ·split at h
    ·rw [List.mem_singleton.1 h]; omega
    ·cases h
 ·exact (near_mem h).2.1
theorem cho_in {n : Net} {env : List Int} {down : List Bool} (hn : NetR n) : ∀ (m : Nat), ∀ vs ∈ choS n env down m, ∀ v ∈ vs, v < n.routers.length := by
 intro m
 induction m with
 | zero => intro vs h v hv; simp [choS] at h; subst h; cases hv
 | succ m ih =>
  intro vs h v hv
  rw [choS_succ] at h
  simp only [growP, List.mem_flatMap, List.mem_map] at h
  obtain ⟨c, hc, w, hw, rfl⟩ := h
  rcases List.mem_append.1 hv with hv | hv
  ·exact ih c hc v hv
  ·rw [List.mem_singleton.1 hv]; exact opt_in hn hw
set_option maxHeartbeats 1000000 in
theorem l07States_ok {n : Net} {ex ex2 : Bool} {env : List Int} {down : List Bool} (hn : NetR n) (ho : n.origins.length ≤ 1000000000000) (he : env.length = n.externals.length) (hd : down.length = n.links.length) :
  Ret Tryz.prog Γ 57 [netV n, .isl ex 1 (ints env), .isl ex2 1 (bools down)] σ (.isl false 1 (staV (statesP n env down))) σ := by
 have r4 := hn.r4
 have hlen : (netC n).take 6 = netC n := rfl
 have hlen2 : (netC n).length = 6 := rfl
 refine ret_of c57_ok rfl ?_
 simp (disch := omega) only [c57, netV, go_sem]
 refine SRun.boxR (net_one n) ?_
 intro b3 hb3
 have g3 := upd_same σ b3 (netC n)
 have hσ : ∀ d x, σ d = some x → upd σ b3 (netC n) d = some x := le_upd hb3
 simp (disch := omega) only [go_sem]
 generalize upd σ b3 (netC n) = s1 at *
 simp (disch := omega) only [g3, hlen, hlen2, go_sem]
 refine SRun.callR (l07Choices_ok (ex := ex) (ex2 := ex2) hn ho he hd) ⟨[], rfl, rfl⟩ rfl ?_
 have hcb := choS_bound (env := env) (down := down) hn (m := n.routers.length) (by omega)
 have hcm := choS_mem (n := n) (env := env) (down := down) n.routers.length
 have hci := cho_in (n := n) (env := env) (down := down) hn n.routers.length
 have hcS : choS n env down n.routers.length = choiceP n env down := rfl
 rw [hcS] at hcb hcm hci
 have hst : statesP n env down = (choiceP n env down).filterMap (stateO n env down) := rfl
 rw [hst]
 clear hcS hst
 generalize choiceP n env down = cs at *
 simp (disch := omega) only [go_sem]
 refine W_loopC (α := Nat × V × St) (fun p => p.1 ≤ cs.length ∧ OwnL s1 1 (staV ((cs.take p.1).filterMap (stateO n env down))) p.2.1 p.2.2) (fun p => [(1, .isl ex 1 (ints env)), (2, .isl ex2 1 (bools down)), (3, .ptr b3 0), (7, p.2.1), (8, .isl false 1 (choV cs)), (9, .int .i64 (p.1 : Nat))]) (fun p => p.2.2) (fun p => cs.length - p.1) (0, _, _) ⟨by simp, OwnL.nil _ 1⟩ (by simp (disch := omega) only [subT, Int.natCast_add, Int.cast_ofNat_Int, go_sem] <;> (repeat' apply And.intro) <;> first | rfl | (congr 1; omega) | assumption) rfl ?_
 rintro ⟨i, q, s⟩ ⟨hi, ho1⟩ ih
 dsimp only at hi ho1
 have g3' := ho1.get g3
 simp (disch := omega) only [go_sem]
 first | refine iteW_dec (fun h1 => ?_) (fun h1 => ?_) | refine iteW_of (fun h1 => ?_) (fun h1 => ?_)
 ·have htk := take_succ (xs := cs) (i := i) [] (by omega)
  have hm := getD_mem (xs := cs) [] (by omega : i < cs.length)
  have hl1 := hcm _ hm
  have hi1 := hci _ hm
  have hsz : ((cs.take i).filterMap (stateO n env down)).length ≤ 1296 := by
   have := List.length_filterMap_le (stateO n env down) (cs.take i)
   rw [List.length_take] at this; omega
  have hfm : (cs.take (i + 1)).filterMap (stateO n env down) = (cs.take i).filterMap (stateO n env down) ++ [cs.getD i []].filterMap (stateO n env down) := by rw [htk, List.filterMap_append]
  simp (disch := omega) only [go_sem]
  refine W_drawW ?_
  simp (disch := omega) only [g3', hlen, hlen2, go_sem]
  generalize hgc : cs.getD i [] = c at *
  refine DRun.callQ (l07Of_ok (ex := ex) (ex2 := ex2) (ex3 := c.isEmpty) hn ho he hd (vias := c) hl1 (by rw [hl1]; exact hi1)) ⟨[], rfl, rfl⟩ ?_
  rintro r s ⟨hs, rs', rfl, hrs⟩
  obtain rfl := hs.symm
  have hso : stateO n env down c = (ofP n env down c).bind fun rs => if stableB n env down rs then some rs else none := rfl
  cases hof : ofP n env down c with
  | none =>
   rw [hof] at hso
   have hno : [c].filterMap (stateO n env down) = [] := by rw [List.filterMap_cons, hso]; rfl
   rw [hno, List.append_nil] at hfm
   simp (disch := omega) only [Option.isSome_none, go_sem]
   exact ih (i + 1, q, s) _ _ ⟨by simp only; omega, by simp only; rw [hfm]; exact ho1⟩ (by simp only; omega) (by simp (disch := omega) only [subT, Int.natCast_add, Int.cast_ofNat_Int, go_sem] <;> (repeat' apply And.intro) <;> first | rfl | (congr 1; omega) | assumption) rfl
  | some rs =>
   rw [hof] at hso
   obtain rfl := hrs rs hof
   obtain ⟨f1, f2, f3⟩ := ofP_fine hn hof
   have hrw : RtsW rs' := by
    have r1 := hn.r1
    have hdf : ∀ v : Int, ¬ v.toNat < rs'.length → rtAt rs' v = default := fun v hv => by simp [rtAt, List.getD, List.getElem?_eq_none (by omega : rs'.length ≤ v.toNat)]
    constructor
    ·intro v
     by_cases hv : v.toNat < rs'.length
     ·have := (f2 _ hv).via.2
      unfold rtAt; omega
     ·rw [hdf v hv]; show (0 : Int) < _; omega
    ·intro v
     by_cases hv : v.toNat < rs'.length
     ·have := (f2 _ hv).len
      unfold rtAt; omega
     ·rw [hdf v hv]; show (0 : Int) ≤ 0 ∧ (0 : Int) ≤ _; omega
   simp (disch := omega) only [g3', hlen, hlen2, Option.isSome_some, go_sem]
   refine SRun.callR (l07Stable_ok (ex := ex) (ex2 := ex2) (ex3 := false) hn ho he hd (f1.trans hl1) hrw) ⟨[], rfl, rfl⟩ rfl ?_
   cases hsb : stableB n env down rs' with
   | false =>
    have hno : [c].filterMap (stateO n env down) = [] := by rw [List.filterMap_cons, hso]; simp [hsb]
    rw [hno, List.append_nil] at hfm
    simp (disch := omega) only [go_sem]
    exact ih (i + 1, q, s) _ _ ⟨by simp only; omega, by simp only; rw [hfm]; exact ho1⟩ (by simp only; omega) (by simp (disch := omega) only [subT, Int.natCast_add, Int.cast_ofNat_Int, go_sem] <;> (repeat' apply And.intro) <;> first | rfl | (congr 1; omega) | assumption) rfl
   | true =>
    have hno : [c].filterMap (stateO n env down) = [rs'] := by rw [List.filterMap_cons, hso]; simp [hsb]
    rw [hno] at hfm
    simp (disch := omega) only [go_sem]
    refine SRun.appL ho1 rfl (sta1_ok rs') (by rw [staV_len]; simp only [List.length_singleton]; omega) ?_
    intro q2 s2 ho2
    rw [staV_app, ← hfm] at ho2
    simp (disch := omega) only [go_sem]
    exact ih (i + 1, q2, s2) _ _ ⟨by simp only; omega, ho2⟩ (by simp only; omega) (by simp (disch := omega) only [subT, Int.natCast_add, Int.cast_ofNat_Int, go_sem] <;> (repeat' apply And.intro) <;> first | rfl | (congr 1; omega) | assumption) rfl
 ·have hil : i = cs.length := by omega
  subst hil
  rw [List.take_length] at ho1
  simp (disch := omega) only [go_sem]
  refine W_retC c57_ok rfl ⟨fun d x h => ho1.le _ _ (hσ _ _ h), ho1.frz (fun _ _ => rfl) fun d h => ?_⟩ ⟨rfl, rfl⟩
  cases e : σ d with
  | none => rfl
  | some x => rw [hσ _ _ e] at h; cases h
theorem StableStatess_ok {n : Net} {ex ex2 : Bool} {env : List Int} {down : List Bool} (hn : NetLen n) (hB : netB n = true) (hE : envB n env down = true) :
  Ret Tryz.prog Γ 15 [netV n, .isl ex 1 (ints env), .isl ex2 1 (bools down)] σ (.tup [.isl false 1 (staV (statesP n env down)), .int .i64 0]) σ := by
 have hR := netR_of hB
 have r4 := hR.r4
 have l6 := hR.l6
 have x2 := hR.x2
 have hlen : (netC n).take 6 = netC n := rfl
 have hlen2 : (netC n).length = 6 := rfl
 have hE2 := hE
 simp only [envB, Bool.and_eq_true, decide_eq_true_eq] at hE2
 obtain ⟨⟨q1, q2⟩, _⟩ := hE2
 have hc : envCode n env down = 0 := by
  unfold envCode
  rw [if_neg (by omega), if_neg (by rw [hB]; simp), if_pos hE]
 have hEv := fun Γ σ => l07Env_ok (Γ := Γ) (σ := σ) (ex := ex) (ex2 := ex2) (env := env) (down := down) hn (by omega) (by omega)
 rw [hc] at hEv
 refine ret_of c15_ok rfl ?_
 simp (disch := omega) only [c15, netV, go_sem]
 refine SRun.boxR (net_one n) ?_
 intro b3 hb3
 have g3 := upd_same σ b3 (netC n)
 have hσ : ∀ d x, σ d = some x → upd σ b3 (netC n) d = some x := le_upd hb3
 simp (disch := omega) only [go_sem]
 generalize upd σ b3 (netC n) = s1 at *
 simp (disch := omega) only [g3, hlen, hlen2, go_sem]
 refine SRun.callR (hEv _ _) ⟨[], rfl, rfl⟩ rfl ?_
 simp (disch := omega) only [g3, hlen, hlen2, go_sem]
 refine SRun.callR (l07States_ok (ex := ex) (ex2 := ex2) hR hn.origins q1 q2) ⟨[], rfl, rfl⟩ rfl ?_
 simp (disch := omega) only [go_sem]
 exact W_retC c15_ok rfl (Conv.drop _ hσ) ⟨rfl, rfl⟩
theorem bne_t (b : Bool) : (true != b) = !b := by cases b <;> rfl
theorem resV_cellT {T : Ts} {a n m b : Nat} {cs : List V} {v : V} (h1 : look T a = .ptr b 0) (h2 : σ b = some cs) (h3 : cs.length = n) (h4 : look T m = v) : resV [.cell a true n, .t m] T σ = some (.tup [.agg cs, v]) := by
 have ht : cs.take n = cs := List.take_of_length_le (by omega)
 simp [resV, resV1, h1, h2, h3, h4, ht]
theorem indexInt_ok {ex : Bool} {xs : List Int} {x : Int} (hl : xs.length ≤ 1000000000000) : Ret Tryz.prog Γ 148 [.isl ex 1 (ints xs), .int .i64 x] σ (.int .i64 (hasI xs x)) σ := by
 refine ret_of c148_ok rfl ?_
 simp (disch := omega) only [c148, go_sem]
 refine W_loopC (α := Nat) (fun i => i ≤ xs.length ∧ ∀ j, j < i → decide (xs.getD j default = x) = false) (fun i => [(0, .isl ex 1 (ints xs)), (1, .int .i64 x), (7, .int .i64 xs.length), (8, .int .i64 (i : Nat))]) (fun _ => σ) (fun i => xs.length - i) 0 ⟨by omega, fun j hj => by omega⟩ (by simp (disch := omega) only [subT, Int.natCast_add, Int.cast_ofNat_Int, go_sem] <;> (repeat' apply And.intro) <;> first | rfl | (congr 1; omega) | assumption) rfl ?_
 rintro i ⟨hi, hno⟩ ih
 simp (disch := omega) only [go_sem]
 first | refine iteW_dec (fun hq => ?_) (fun hq => ?_) | refine iteW_of (fun hq => ?_) (fun hq => ?_)
 ·simp (disch := omega) only [go_sem]
  first | refine iteW_dec (fun h2 => ?_) (fun h2 => ?_) | refine iteW_of (fun h2 => ?_) (fun h2 => ?_)
  ·have := first_some (p := fun y => decide (y = x)) (xs := xs) (i := i) (by omega) hno (decide_eq_true (show xs.getD i 0 = x by omega))
   simp (disch := omega) only [go_sem]
   exact W_retR c148_ok rfl ⟨by rw [hasI, this]; rfl, rfl⟩
  ·simp (disch := omega) only [go_sem]
   refine ih (i + 1) _ _ ⟨by omega, fun j hj => ?_⟩ (by omega) (by simp (disch := omega) only [subT, Int.natCast_add, Int.cast_ofNat_Int, go_sem] <;> (repeat' apply And.intro) <;> first | rfl | (congr 1; omega) | assumption) rfl
   by_cases e : j = i
   ·subst e; exact decide_eq_false (show ¬ xs.getD j 0 = x by omega)
   ·exact hno j (by omega)
 ·have hil : i = xs.length := by omega
  rw [hil] at hno
  have := first_none (p := fun y => decide (y = x)) (xs := xs) hno
  simp (disch := omega) only [go_sem]
  exact W_retR c148_ok rfl ⟨by rw [hasI, this]; rfl, rfl⟩
def hasB (xs : List Int) (x : Int) : Bool := decide (hasI xs x ≥ 0)
theorem containsInt_ok {ex : Bool} {xs : List Int} {x : Int} (hl : xs.length ≤ 1000000000000) : Ret Tryz.prog Γ 114 [.isl ex 1 (ints xs), .int .i64 x] σ (.bool (hasB xs x)) σ := by
 refine ret_of c114_ok rfl ?_
 simp (disch := omega) only [c114, go_sem]
 refine SRun.callR (indexInt_ok hl) ⟨[], rfl, rfl⟩ rfl ?_
 simp (disch := omega) only [go_sem]
 exact W_retR c114_ok rfl ⟨rfl, rfl⟩
end
end Go.Proofs.YtabelcohkpmpnaaGreat.Lg
