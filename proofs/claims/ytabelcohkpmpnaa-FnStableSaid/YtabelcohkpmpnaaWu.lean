/- Routes, the program's: what a router could have. -/
import Derived.Test.YtabelcohkpmpnaaWt
import Derived.Test.YtabelcohkpmpnaaRt
set_option linter.unusedSimpArgs false
set_option linter.unusedVariables false
namespace Go.Proofs.Ytabelcohkpmpnaa.Lg
open Go
attribute [local irreducible] SRun DS DRun
variable {Γ : St} {σ σ0 : St}
theorem comesTo_ok {ex : Bool} {rs : List Rt} {from_ router : Int} (hl : rs.length ≤ 1000000000000) (hv : ViasIn rs) (hf : from_ < rs.length) (hr : 0 ≤ router) :
    Ret Try.prog Γ 147 [.isl ex 4 (rtsV rs), .int .i64 from_, .int .i64 router] σ (.bool (throughP rs from_ router)) σ := by
  rw [← com_same hv hr hf]
  refine ret_of c147_ok rfl ?_
  simp (disch := omega) only [c147, go_sem, ↓if_pos, ne_eq, ↓reduceIte]
  refine W_loopC (α := Nat × Int) (fun p => p.1 ≤ rs.length + 1 ∧ p.2 < rs.length ∧ comP rs router (rs.length + 1) from_ = comP rs router (rs.length + 1 - p.1) p.2) (fun p => [(0, .isl ex 4 (rtsV rs)), (2, .int .i64 router), (7, .int .i64 p.2), (11, .int .i64 ((rs.length : Int) + 1)), (12, .int .i64 (p.1 : Nat))]) (fun _ => σ) (fun p => rs.length + 1 - p.1) (0, from_) ⟨by simp, hf, rfl⟩ (by simp (disch := omega) only [subT, Int.natCast_add, Int.cast_ofNat_Int, go_sem, ↓if_pos, ne_eq, ↓reduceIte] <;> (repeat' apply And.intro) <;> first | rfl | (congr 1; omega) | assumption) rfl ?_
  rintro ⟨i, k⟩ ⟨hi, hk, he⟩ ih
  dsimp only at hi hk he
  simp (disch := omega) only [go_sem, ↓if_pos, ne_eq, ↓reduceIte]
  first | refine iteW_dec (fun h1 => ?_) (fun h1 => ?_) | refine iteW_of (fun h1 => ?_) (fun h1 => ?_)
  · obtain ⟨m, hm⟩ : ∃ m, rs.length + 1 - i = m + 1 := ⟨rs.length - i, by omega⟩
    rw [hm] at he
    rw [comP_succ rs router m k] at he
    simp (disch := omega) only [go_sem, ↓if_pos, ne_eq, ↓reduceIte]
    first | refine iteW_dec (fun h2 => ?_) (fun h2 => ?_) | refine iteW_of (fun h2 => ?_) (fun h2 => ?_)
    · rw [if_pos h2] at he
      rw [he]
      simp (disch := omega) only [go_sem, ↓if_pos, ne_eq, ↓reduceIte]
      exact W_retR c147_ok rfl ⟨rfl, rfl⟩
    · rw [if_neg h2] at he
      simp (disch := omega) only [go_sem, ↓if_pos, ne_eq, ↓reduceIte]
      first | refine iteW_dec (fun h3 => ?_) (fun h3 => ?_) | refine iteW_of (fun h3 => ?_) (fun h3 => ?_)
      · rw [if_pos h3] at he
        rw [he]
        simp (disch := omega) only [go_sem, ↓if_pos, ne_eq, ↓reduceIte]
        exact W_retR c147_ok rfl ⟨rfl, rfl⟩
      · rw [if_neg h3] at he
        have hvk := hv k
        have hrt : rs.getD k.toNat default = rtAt rs k := rfl
        have hrt0 : ∀ r : Rt, (rtC r)[0]? = some (.int .i64 r.via) := fun _ => rfl
        simp (disch := omega) only [hrt, hrt0, go_sem, ↓if_pos, ne_eq, ↓reduceIte]
        exact ih (i + 1, (rtAt rs k).via) _ _ ⟨by simp only; omega, hvk, by rw [he]; congr 1; simp only; omega⟩ (by simp only; omega) (by simp (disch := omega) only [subT, Int.natCast_add, Int.cast_ofNat_Int, go_sem, ↓if_pos, ne_eq, ↓reduceIte] <;> (repeat' apply And.intro) <;> first | rfl | (congr 1; omega) | assumption) rfl
  · have hir : rs.length + 1 - i = 0 := by omega
    rw [hir] at he
    rw [he]
    simp (disch := omega) only [go_sem, ↓if_pos, ne_eq, ↓reduceIte]
    exact W_retR c147_ok rfl ⟨rfl, rfl⟩
def ownR : Rt := ⟨-2, 200, 0, false⟩
theorem ownRoute_ok {n : Net} {r : Int} (ho : n.origins.length ≤ 1000000000000) : Ret Try.prog Γ 145 [netV n, .int .i64 r] σ (.tup [.agg (rtC ownR), .bool (decide (0 ≤ hasI n.origins r))]) σ := by
  have e2 : (netC n)[2]? = some (.isl false 1 (ints n.origins)) := rfl
  have hb : hasB n.origins r = decide (0 ≤ hasI n.origins r) := rfl
  refine ret_of c145_ok rfl ?_
  simp (disch := omega) only [c145, netV, go_sem, ↓if_pos, ne_eq, ↓reduceIte]
  refine SRun.boxR (net_one n) ?_
  intro b2 hb2
  simp (disch := omega) only [go_sem, ↓if_pos, ne_eq, ↓reduceIte]
  refine SRun.allocR ?_
  intro b4 hb4
  have n4 := upd_none.1 hb4
  have n24 : b2 ≠ b4 := n4.1.symm
  simp (disch := omega) only [e2, n24, go_sem, ↓if_pos, ne_eq, ↓reduceIte]
  refine SRun.callR (containsInt_ok (ex := false) (xs := n.origins) (x := r) ho) ⟨[], rfl, rfl⟩ rfl ?_
  rw [hb]
  simp (disch := omega) only [go_sem, ↓if_pos, ne_eq, ↓reduceIte]
  exact W_retC c145_ok (r := .tup [.agg (rtC ownR), .bool (decide (0 ≤ hasI n.origins r))]) (σ' := σ) (resV_cellT rfl (upd_same _ _ _) rfl rfl) (Conv.drop _ fun d x h => by
    have e2 : d ≠ b2 := fun e => by subst e; rw [hb2] at h; cases h
    have e4 : d ≠ b4 := fun e => by subst e; rw [n4.2] at h; cases h
    simp only [upd_ne _ _ e4, upd_ne _ _ e2]; exact h) ⟨rfl, rfl⟩
def outR (n : Net) (router : Int) (env : List Int) : Rt := if outB n router env then ⟨-1, 100, 2, decide (env.getD (hasI n.externals router).toNat 0 = 2)⟩ else ⟨0, 0, 0, false⟩
theorem outRoute_ok {n : Net} {ex : Bool} {env : List Int} {r : Int} (ho : n.externals.length ≤ 1000000000000) (he : env.length = n.externals.length) (hE : (env.all fun x => inB x 0 2) = true) : Ret Try.prog Γ 146 [netV n, .isl ex 1 (ints env), .int .i64 r] σ (.tup [.agg (rtC (outR n r env)), .bool (outB n r env)]) σ := by
  have e3 : (netC n)[3]? = some (.isl false 1 (ints n.externals)) := rfl
  have hx := hasI_in n.externals r
  refine ret_of c146_ok rfl ?_
  simp (disch := omega) only [c146, netV, go_sem, ↓if_pos, ne_eq, ↓reduceIte]
  refine SRun.boxR (net_one n) ?_
  intro b3 hb3
  simp (disch := omega) only [go_sem, ↓if_pos, ne_eq, ↓reduceIte]
  refine SRun.allocR ?_
  intro b6 hb6
  have n6 := upd_none.1 hb6
  have n36 : b3 ≠ b6 := n6.1.symm
  have hle : ∀ z z' : List V, ∀ d x, σ d = some x → upd (upd σ b3 z) b6 z' d = some x := fun z z' => le_two hb3 n6.2 z z'
  simp (disch := omega) only [e3, n36, go_sem, ↓if_pos, ne_eq, ↓reduceIte]
  refine SRun.callR (indexInt_ok (ex := false) (xs := n.externals) (x := r) ho) ⟨[], rfl, rfl⟩ rfl ?_
  have hob : outB n r env = (decide (0 ≤ hasI n.externals r) && decide (0 < env.getD (hasI n.externals r).toNat 0)) := rfl
  have hor : outR n r env = if outB n r env then ⟨-1, 100, 2, decide (env.getD (hasI n.externals r).toNat 0 = 2)⟩ else ⟨0, 0, 0, false⟩ := rfl
  by_cases c1 : hasI n.externals r < 0
  · have d1 : decide (hasI n.externals r < 0) = true := decide_eq_true c1
    rw [decide_eq_false (by omega : ¬ 0 ≤ hasI n.externals r)] at hob
    rw [hor, hob]
    simp (disch := omega) only [d1, go_sem, ↓if_pos, ne_eq, ↓reduceIte]
    exact W_retC c146_ok (r := .tup [.agg (rtC ⟨0, 0, 0, false⟩), .bool false]) (σ' := σ) (resV_cellT rfl (upd_same _ _ _) rfl rfl) (Conv.drop _ fun d x h => by first | exact hle _ _ _ _ h | (rw [upd_upd]; exact hle _ _ _ _ h)) ⟨rfl, rfl⟩
  have d1 : decide (hasI n.externals r < 0) = false := decide_eq_false c1
  rw [decide_eq_true (by omega : 0 ≤ hasI n.externals r), Bool.true_and] at hob
  have hev := List.all_eq_true.1 hE _ (getD_mem 0 (by omega : (hasI n.externals r).toNat < env.length))
  simp only [inB, Bool.and_eq_true, decide_eq_true_eq] at hev
  generalize hgx : env.getD (hasI n.externals r).toNat 0 = x at *
  by_cases c2 : x = 0
  · have d2 : decide (x = 0) = true := decide_eq_true c2
    rw [decide_eq_false (by omega : ¬ 0 < x)] at hob
    rw [hor, hob]
    simp (disch := omega) only [d1, hgx, d2, go_sem, ↓if_pos, ne_eq, ↓reduceIte]
    exact W_retC c146_ok (r := .tup [.agg (rtC ⟨0, 0, 0, false⟩), .bool false]) (σ' := σ) (resV_cellT rfl (upd_same _ _ _) rfl rfl) (Conv.drop _ fun d x h => by first | exact hle _ _ _ _ h | (rw [upd_upd]; exact hle _ _ _ _ h)) ⟨rfl, rfl⟩
  · have d2 : decide (x = 0) = false := decide_eq_false c2
    rw [decide_eq_true (by omega : 0 < x)] at hob
    rw [hor, hob]
    simp (disch := omega) only [d1, hgx, d2, go_sem, ↓if_pos, ne_eq, ↓reduceIte]
    exact W_retC c146_ok (r := .tup [.agg (rtC ⟨-1, 100, 2, decide (x = 2)⟩), .bool true]) (σ' := σ) (resV_cellT rfl (upd_same _ _ _) rfl rfl) (Conv.drop _ fun d x h => by first | exact hle _ _ _ _ h | (rw [upd_upd]; exact hle _ _ _ _ h)) ⟨rfl, rfl⟩
theorem neighbours_own {n : Net} {ex : Bool} {down : List Bool} {r : Int} (hn : n.routers.length ≤ 100000000) (hl : n.links.length ≤ 1000000000000) (hd : down.length = n.links.length) :
    ACalls Try.prog Γ 101 [netV n, .int .i64 r, .isl ex 1 (bools down)] σ fun q s => OwnL σ 1 (ints (nearP n r down)) q s := by
  have e0 : (netC n)[0]? = some (.isl false 1 (strsV n.routers)) := rfl
  have hlen : (netC n).take 6 = netC n := rfl
  have hlen2 : (netC n).length = 6 := rfl
  refine acalls_W c101_ok rfl ?_
  simp (disch := omega) only [c101, netV, go_sem, ↓if_pos, ne_eq, ↓reduceIte]
  refine SRun.boxR (net_one n) ?_
  intro b3 hb3
  have g3 := upd_same σ b3 (netC n)
  simp (disch := omega) only [e0, go_sem, ↓if_pos, ne_eq, ↓reduceIte]
  refine W_loopC (α := Nat × V × St) (fun p => p.1 ≤ n.routers.length ∧ OwnL (upd σ b3 (netC n)) 1 (ints (((List.range p.1).filter (nearB n r down)).map fun (k : Nat) => (k : Int))) p.2.1 p.2.2) (fun p => [(1, .int .i64 r), (2, .isl ex 1 (bools down)), (3, .ptr b3 0), (7, p.2.1), (12, .int .i64 n.routers.length), (13, .int .i64 (p.1 : Nat))]) (fun p => p.2.2) (fun p => n.routers.length - p.1) (0, .isl true 0 [], _) ⟨by simp, OwnL.nil _ _⟩ (by simp (disch := omega) only [subT, Int.natCast_add, Int.cast_ofNat_Int, go_sem, ↓if_pos, ne_eq, ↓reduceIte] <;> (repeat' apply And.intro) <;> first | rfl | (congr 1; omega) | assumption) rfl ?_
  rintro ⟨i, q, s⟩ ⟨hi, ho⟩ ih
  dsimp only at hi ho
  have g3' := ho.get g3
  have hq1 := ho.one
  simp (disch := omega) only [go_sem, ↓if_pos, ne_eq, ↓reduceIte]
  first | refine iteW_dec (fun h1 => ?_) (fun h1 => ?_) | refine iteW_of (fun h1 => ?_) (fun h1 => ?_)
  · have hf := filter_range_snoc (p := nearB n r down) i
    have hlen3 : ((List.range i).filter (nearB n r down)).length ≤ i := by have := List.length_filter_le (nearB n r down) (List.range i); simpa using this
    simp (disch := omega) only [g3', hlen, hlen2, go_sem, ↓if_pos, ne_eq, ↓reduceIte]
    refine SRun.callR (linkOf_ok (n := n) (x := r) (y := i) hl) ⟨[], rfl, rfl⟩ rfl ?_
    have hlk := linkP_in n.links r i
    by_cases h2 : linkP n.links r i ≥ 0
    · have hd2 : decide (linkP n.links r i ≥ 0) = true := decide_eq_true h2
      have hnb : nearB n r down i = !down.getD (linkP n.links r i).toNat false := by unfold nearB; rw [decide_eq_true h2]; rfl
      simp (disch := omega) only [hd2, go_sem, ↓if_pos, ne_eq, ↓reduceIte]
      generalize down.getD (linkP n.links r i).toNat false = dn at *
      cases dn with
      | false =>
        simp (disch := omega) only [go_sem, ↓if_pos, ne_eq, ↓reduceIte]
        refine SRun.appL ho rfl (ints_ok [(i : Int)]) (by simp [ints]; omega) ?_
        intro q' s' ho2
        rw [ints_app] at ho2
        simp (disch := omega) only [go_sem, ↓if_pos, ne_eq, ↓reduceIte]
        rw [hnb] at hf
        refine ih (i + 1, q', s') _ _ ⟨by simp only; omega, by rw [hf]; simpa using ho2⟩ (by simp only; omega) (by simp (disch := omega) only [subT, Int.natCast_add, Int.cast_ofNat_Int, go_sem, ↓if_pos, ne_eq, ↓reduceIte] <;> (repeat' apply And.intro) <;> first | rfl | (congr 1; omega) | assumption) rfl
      | true =>
        simp (disch := omega) only [go_sem, ↓if_pos, ne_eq, ↓reduceIte]
        rw [hnb] at hf
        refine ih (i + 1, q, s) _ _ ⟨by simp only; omega, by rw [hf]; simpa using ho⟩ (by simp only; omega) (by simp (disch := omega) only [subT, Int.natCast_add, Int.cast_ofNat_Int, go_sem, ↓if_pos, ne_eq, ↓reduceIte] <;> (repeat' apply And.intro) <;> first | rfl | (congr 1; omega) | assumption) rfl
    · have hd2 : decide (linkP n.links r i ≥ 0) = false := decide_eq_false h2
      have hnb : nearB n r down i = false := by unfold nearB; rw [decide_eq_false h2]; rfl
      simp (disch := omega) only [hd2, go_sem, ↓if_pos, ne_eq, ↓reduceIte]
      rw [hnb] at hf
      refine ih (i + 1, q, s) _ _ ⟨by simp only; omega, by rw [hf]; simpa using ho⟩ (by simp only; omega) (by simp (disch := omega) only [subT, Int.natCast_add, Int.cast_ofNat_Int, go_sem, ↓if_pos, ne_eq, ↓reduceIte] <;> (repeat' apply And.intro) <;> first | rfl | (congr 1; omega) | assumption) rfl
  · have hir : i = n.routers.length := by omega
    subst hir
    obtain ⟨s2, hle, ho2⟩ := ho.drop hb3
    simp (disch := omega) only [go_sem, ↓if_pos, ne_eq, ↓reduceIte]
    exact W_retC c101_ok rfl (Conv.drop _ hle) ho2
theorem neighbours_ok {n : Net} {ex : Bool} {down : List Bool} {r : Int} (hn : n.routers.length ≤ 100000000) (hl : n.links.length ≤ 1000000000000) (hd : down.length = n.links.length) :
    Ret Try.prog Γ 101 [netV n, .int .i64 r, .isl ex 1 (bools down)] σ (.isl false 1 (ints (nearP n r down))) σ :=
  ACalls.conv (neighbours_own hn hl hd) fun q s ho => ⟨_, σ, ho.conv, rfl, rfl⟩
def rtD : Option Rt → Rt | some r => r | none => default
set_option maxHeartbeats 1000000 in
theorem imported_ok {n : Net} {router from_ : Int} {r : Rt} (hl : n.links.length ≤ 1000000000000) (hi : n.imports.length ≤ 1000000000000) (hlk : 0 ≤ linkP n.links router from_) (hr : 0 ≤ r.len ∧ r.len ≤ 1000000000) (hc : ∀ l ∈ n.links, 1 ≤ l.cost ∧ l.cost ≤ 100) (hdo : ∀ x ∈ n.imports, 1 ≤ x.do_ ∧ x.do_ ≤ 4) :
    Ret Try.prog Γ 148 [netV n, .int .i64 router, .int .i64 from_, .agg (rtC r)] σ (.tup [.agg (rtC (rtD (importO n router from_ r))), .bool (importO n router from_ r).isSome]) σ := by
  have hlen : (netC n).take 6 = netC n := rfl
  have hlen2 : (netC n).length = 6 := rfl
  have e1 : (netC n)[1]? = some (.isl false 3 (linksV n.links)) := rfl
  have e4 : (netC n)[4]? = some (.isl false 5 (impsV n.imports)) := rfl
  have hlk2 := (linkP_in n.links router from_).2
  have hcost := hc _ (getD_mem default (by omega : (linkP n.links router from_).toNat < n.links.length))
  refine ret_of c148_ok rfl ?_
  simp (disch := omega) only [c148, netV, go_sem, ↓if_pos, ne_eq, ↓reduceIte]
  refine SRun.boxR (net_one n) ?_
  intro b4 hb4
  simp (disch := omega) only [go_sem, ↓if_pos, ne_eq, ↓reduceIte]
  refine SRun.boxR (rt_one r) ?_
  intro b7 hb7
  have n74 := (upd_none.1 hb7).1
  have n7 := (upd_none.1 hb7).2
  simp (disch := omega) only [go_sem, ↓if_pos, ne_eq, ↓reduceIte]
  refine SRun.allocR ?_
  intro b8 hb8
  have n8 := upd_none.1 hb8
  have n8' := upd_none.1 n8.2
  have g4 : ∀ z, upd (upd (upd σ b4 (netC n)) b7 (rtC r)) b8 z b4 = some (netC n) := fun z => by rw [upd_ne _ _ n8'.1.symm, upd_ne _ _ n74.symm, upd_same]
  have g7 : ∀ z, upd (upd (upd σ b4 (netC n)) b7 (rtC r)) b8 z b7 = some (rtC r) := fun z => by rw [upd_ne _ _ n8.1.symm, upd_same]
  have g8 := fun z => upd_same (upd (upd σ b4 (netC n)) b7 (rtC r)) b8 z
  have hσ : ∀ z d x, σ d = some x → upd (upd (upd σ b4 (netC n)) b7 (rtC r)) b8 z d = some x := fun z d x h => le_upd hb8 _ _ (le_two hb4 n7 _ _ _ _ h)
  have hσ8 := hσ [.int .i64 0, .int .i64 0, .int .i64 0, .bool false]
  have g48 := g4 [.int .i64 0, .int .i64 0, .int .i64 0, .bool false]
  have g78 := g7 [.int .i64 0, .int .i64 0, .int .i64 0, .bool false]
  have g88 := g8 [.int .i64 0, .int .i64 0, .int .i64 0, .bool false]
  generalize upd (upd (upd σ b4 (netC n)) b7 (rtC r)) b8 [.int .i64 0, .int .i64 0, .int .i64 0, .bool false] = s1 at *
  simp (disch := omega) only [go_sem, ↓if_pos, ne_eq, ↓reduceIte]
  rw [W_draw]
  refine DRun.start (DRun.mixNR (fun T s' => ∃ b9, s1 b9 = none ∧ s' = upd emp b9 [.int .i64 0, .int .i64 0, .int .i64 0, .bool false] ∧ look T 1 = .int .i64 router ∧ look T 2 = .int .i64 from_ ∧ look T 4 = .ptr b4 0 ∧ look T 8 = .ptr b8 0 ∧ look T 9 = .bool false ∧ look T 10 = .ptr b9 0 ∧ look T 28 = .agg (rtC ⟨from_, 100, r.len + (linkAtP n router from_).cost, r.mark⟩)) rfl ?_ ?_)
  · have hlc : ∀ l, linkC l = [.int .i64 l.a, .int .i64 l.b, .int .i64 l.cost] := fun _ => rfl
    simp (disch := omega) only [g78, g48, e1, rtC, hlen, hlen2, go_sem, ↓if_pos, ne_eq, ↓reduceIte]
    refine DS.wr2 (WrF.call (linkOf_ok (n := n) (x := router) (y := from_) hl) ⟨[], rfl, rfl⟩) rfl ?_ ?_
    · rintro x s ⟨rfl, hs⟩ hd
      obtain rfl := hs.symm
      simp (disch := omega) only [hlc, go_sem, ↓if_pos, ne_eq, ↓reduceIte]
      refine DS.wrQ WrF.alloc rfl ?_
      rintro _ s9 ⟨b9, hb9, rfl, rfl⟩ hd9
      refine ⟨b9, disj_new hd9, ?_⟩
      (repeat' apply And.intro) <;> rfl
    · refine DS.wrQ WrF.alloc rfl ?_
      rintro _ s9 ⟨b9, hb9, rfl, rfl⟩ hd9
      simp (disch := omega) only [go_sem, ↓if_pos, ne_eq, ↓reduceIte]
      refine DS.wrQ (WrF.call (linkOf_ok (n := n) (x := router) (y := from_) hl) ⟨[], rfl, rfl⟩) rfl ?_
      rintro x s ⟨rfl, hs⟩ hd
      obtain rfl := hs.symm
      simp (disch := omega) only [hlc, go_sem, ↓if_pos, ne_eq, ↓reduceIte]
      refine ⟨b9, disj_new hd9, ?_⟩
      (repeat' apply And.intro) <;> rfl
  rintro T s' ⟨b9, hb9, rfl, k1, k2, k4, k8, k9, k10, k28⟩
  rw [cup_new]
  have n94 : b9 ≠ b4 := fun e => by subst e; rw [g48] at hb9; cases hb9
  have n98 : b9 ≠ b8 := fun e => by subst e; rw [g88] at hb9; cases hb9
  simp (disch := omega) only [k10, k28, k4, g48, n94, n94.symm, e4, go_sem, ↓if_pos, ne_eq, ↓reduceIte]
  have himp : importO n router from_ r = impGo router from_ n.imports ⟨from_, 100, r.len + (linkAtP n router from_).cost, r.mark⟩ := rfl
  generalize (⟨from_, 100, r.len + (linkAtP n router from_).cost, r.mark⟩ : Rt) = r0 at *
  have hs1 : ∀ d z, s1 d = some z → upd s1 b9 (rtC r0) d = some z := le_upd hb9
  refine W_loopC (α := Nat × Rt × St) (fun p => p.1 ≤ n.imports.length ∧ p.2.2 b9 = some (rtC p.2.1) ∧ (∀ d z, s1 d = some z → p.2.2 d = some z) ∧ importO n router from_ r = impGo router from_ (n.imports.drop p.1) p.2.1) (fun p => [(1, .int .i64 router), (2, .int .i64 from_), (4, .ptr b4 0), (8, .ptr b8 0), (9, .bool false), (10, .ptr b9 0), (30, .isl false 5 (impsV n.imports)), (31, .int .i64 n.imports.length), (32, .int .i64 (p.1 : Nat))]) (fun p => p.2.2) (fun p => n.imports.length - p.1) (0, r0, _) ⟨by simp, upd_same _ _ _, hs1, by rw [himp]; rfl⟩ (by simp (disch := omega) only [subT, Int.natCast_add, Int.cast_ofNat_Int, k1, k2, k4, k8, k9, k10, impsV_len, go_sem, ↓if_pos, ne_eq, ↓reduceIte] <;> (repeat' apply And.intro) <;> first | rfl | (congr 1; omega) | assumption) rfl ?_
  clear himp
  rintro ⟨i, cur, s⟩ ⟨hi2, hc9, hle, he⟩ ih
  dsimp only at hi2 hc9 hle he
  have g4' := hle _ _ g48
  have g8' := hle _ _ g88
  have hcr : rtC cur = [.int .i64 cur.via, .int .i64 cur.pref, .int .i64 cur.len, .bool cur.mark] := rfl
  have hend : resV [.cell 8 true 4] = resV [.cell 8 true 4] := rfl
  simp (disch := omega) only [go_sem, ↓if_pos, ne_eq, ↓reduceIte]
  first | refine iteW_dec (fun h1 => ?_) (fun h1 => ?_) | refine iteW_of (fun h1 => ?_) (fun h1 => ?_)
  · have hdr := drop_cons (xs := n.imports) default (by omega : i < n.imports.length)
    rw [hdr, impGo] at he
    have hxdo := hdo _ (getD_mem default (by omega : i < n.imports.length))
    simp (disch := omega) only [go_sem, ↓if_pos, ne_eq, ↓reduceIte]
    generalize n.imports.getD i default = x at *
    refine SRun.allocR ?_
    intro b11 hb11
    have n11 : b9 ≠ b11 := fun e => by subst e; rw [hc9] at hb11; cases hb11
    have n11b : b11 ≠ b9 := n11.symm
    have n8b : b8 ≠ b9 := n98.symm
    have n118 : b8 ≠ b11 := fun e => by subst e; rw [g8'] at hb11; cases hb11
    have hle3 : ∀ z, ∀ d y, s1 d = some y → upd s b11 z d = some y := fun z d y h => le_upd hb11 _ _ (hle _ _ h)
    have hic : impC x = [.int .i64 x.at_, .int .i64 x.from_, .int .i64 x.when_, .int .i64 x.do_, .int .i64 x.n] := rfl
    clear hcr
    obtain ⟨cv, cp, cl, mk⟩ := cur
    have hcr : rtC ⟨cv, cp, cl, mk⟩ = [.int .i64 cv, .int .i64 cp, .int .i64 cl, .bool mk] := rfl
    dsimp only at he
    have hdef : impSkip router from_ x ⟨cv, cp, cl, mk⟩ = (!decide (x.at_ = router) || !decide (x.from_ = from_) || (decide (x.when_ = 1) && !mk) || (decide (x.when_ = 2) && mk)) := rfl
    have m1 : (decide ¬ x.at_ = router) = !decide (x.at_ = router) := by simp
    have m2 : (decide ¬ x.from_ = from_) = !decide (x.from_ = from_) := by simp
    generalize decide (x.at_ = router) = q1 at *
    generalize decide (x.from_ = from_) = q2 at *
    generalize m3 : decide (x.when_ = 1) = q3 at *
    generalize m4 : decide (x.when_ = 2) = q4 at *
    by_cases hsk : impSkip router from_ x ⟨cv, cp, cl, mk⟩ = true
    · rw [if_pos hsk] at he
      rw [hdef] at hsk
      cases q1
      case' true =>
        cases q2
        case' true =>
          cases q3 <;> cases q4 <;> cases mk
      all_goals
        first
        | (exfalso; revert hsk; decide)
        | skip
      all_goals
        simp (disch := omega) only [hc9, n11, n11b, hic, hcr, m1, m2, m3, m4, go_sem, ↓if_pos, ne_eq, ↓reduceIte]
        exact ih (i + 1, ⟨cv, cp, cl, _⟩, upd s b11 [.int .i64 x.at_, .int .i64 x.from_, .int .i64 x.when_, .int .i64 x.do_, .int .i64 x.n]) _ _ ⟨by simp only; omega, (upd_ne _ _ n11).trans hc9, hle3 _, he⟩ (by simp only; omega) (by simp (disch := omega) only [subT, Int.natCast_add, Int.cast_ofNat_Int, go_sem, ↓if_pos, ne_eq, ↓reduceIte] <;> (repeat' apply And.intro) <;> first | rfl | (congr 1; omega) | assumption) rfl
    · rw [if_neg hsk] at he
      rw [hdef] at hsk
      cases q1
      case' true =>
        cases q2
        case' true =>
          cases q3 <;> cases q4 <;> cases mk
      all_goals
        first
        | (exfalso; revert hsk; simp; done)
        | skip
      all_goals
        simp (disch := omega) only [hc9, n11, n11b, hic, hcr, m1, m2, m3, m4, go_sem, ↓if_pos, ne_eq, ↓reduceIte]
        have g8'' : ∀ z, upd s b11 z b8 = some [.int .i64 0, .int .i64 0, .int .i64 0, .bool false] := fun z => by rw [upd_ne _ _ n118]; exact g8'
        by_cases d1 : x.do_ = 1
        · have dd1 : decide (x.do_ = 1) = true := decide_eq_true d1
          rw [if_pos d1] at he
          have hnr : rtC default = [.int .i64 0, .int .i64 0, .int .i64 0, .bool false] := rfl
          have g8a := g8'' [.int .i64 x.at_, .int .i64 x.from_, .int .i64 x.when_, .int .i64 x.do_, .int .i64 x.n]
          rw [he]
          simp (disch := omega) only [dd1, g8a, g8', n118, hnr, go_sem, ↓if_pos, ne_eq, ↓reduceIte]
          refine W_retC c148_ok (r := .tup [.agg (rtC default), .bool false]) (σ' := σ) (resV_cellT rfl (upd_same _ _ _) rfl rfl) (Conv.drop _ fun d z h => ?_) ⟨rfl, rfl⟩
          have hd8 : d ≠ b8 := fun e => by subst e; rw [n8'.2] at h; cases h
          rw [upd_ne _ _ hd8]; exact hle3 _ _ _ (hσ8 _ _ h)
        · have dd1 : decide (x.do_ = 1) = false := decide_eq_false d1
          rw [if_neg d1] at he
          by_cases d2 : x.do_ = 2
          · have dd2 : decide (x.do_ = 2) = true := decide_eq_true d2
            rw [if_pos d2] at he
            simp (disch := omega) only [dd1, dd2, hc9, n11, n11b, hcr, go_sem, ↓if_pos, ne_eq, ↓reduceIte]
            refine ih (i + 1, ⟨cv, x.n, cl, _⟩, upd (upd s b11 [.int .i64 x.at_, .int .i64 x.from_, .int .i64 x.when_, .int .i64 x.do_, .int .i64 x.n]) b9 [.int .i64 cv, .int .i64 x.n, .int .i64 cl, .bool _]) _ _ ⟨by simp only; omega, upd_same _ _ _, fun d z h => ?_, he⟩ (by simp only; omega) (by simp (disch := omega) only [subT, Int.natCast_add, Int.cast_ofNat_Int, go_sem, ↓if_pos, ne_eq, ↓reduceIte] <;> (repeat' apply And.intro) <;> first | rfl | (congr 1; omega) | assumption) rfl
            have hd9 : d ≠ b9 := fun e => by subst e; rw [hb9] at h; cases h
            try simp only
            rw [upd_ne _ _ hd9]; exact hle3 _ _ _ h
          · have dd2 : decide (x.do_ = 2) = false := decide_eq_false d2
            rw [if_neg d2] at he
            by_cases d3 : x.do_ = 3
            · have dd3 : decide (x.do_ = 3) = true := decide_eq_true d3
              rw [dd3] at he
              simp (disch := omega) only [dd1, dd2, dd3, hc9, n11, n11b, hcr, go_sem, ↓if_pos, ne_eq, ↓reduceIte]
              refine ih (i + 1, ⟨cv, cp, cl, true⟩, upd (upd s b11 [.int .i64 x.at_, .int .i64 x.from_, .int .i64 x.when_, .int .i64 x.do_, .int .i64 x.n]) b9 [.int .i64 cv, .int .i64 cp, .int .i64 cl, .bool true]) _ _ ⟨by simp only; omega, upd_same _ _ _, fun d z h => ?_, he⟩ (by simp only; omega) (by simp (disch := omega) only [subT, Int.natCast_add, Int.cast_ofNat_Int, go_sem, ↓if_pos, ne_eq, ↓reduceIte] <;> (repeat' apply And.intro) <;> first | rfl | (congr 1; omega) | assumption) rfl
              have hd9 : d ≠ b9 := fun e => by subst e; rw [hb9] at h; cases h
              try simp only
              rw [upd_ne _ _ hd9]; exact hle3 _ _ _ h
            · have dd3 : decide (x.do_ = 3) = false := decide_eq_false d3
              have dd4 : decide (x.do_ = 4) = true := decide_eq_true (by omega)
              rw [dd3] at he
              simp (disch := omega) only [dd1, dd2, dd3, dd4, hc9, n11, n11b, hcr, go_sem, ↓if_pos, ne_eq, ↓reduceIte]
              refine ih (i + 1, ⟨cv, cp, cl, false⟩, upd (upd s b11 [.int .i64 x.at_, .int .i64 x.from_, .int .i64 x.when_, .int .i64 x.do_, .int .i64 x.n]) b9 [.int .i64 cv, .int .i64 cp, .int .i64 cl, .bool false]) _ _ ⟨by simp only; omega, upd_same _ _ _, fun d z h => ?_, he⟩ (by simp only; omega) (by simp (disch := omega) only [subT, Int.natCast_add, Int.cast_ofNat_Int, go_sem, ↓if_pos, ne_eq, ↓reduceIte] <;> (repeat' apply And.intro) <;> first | rfl | (congr 1; omega) | assumption) rfl
              have hd9 : d ≠ b9 := fun e => by subst e; rw [hb9] at h; cases h
              try simp only
              rw [upd_ne _ _ hd9]; exact hle3 _ _ _ h
  · have hil : i = n.imports.length := by omega
    rw [hil, List.drop_length, impGo] at he
    rw [he]
    simp (disch := omega) only [hc9, hcr, g8', go_sem, ↓if_pos, ne_eq, ↓reduceIte]
    refine W_retC c148_ok (r := .tup [.agg (rtC cur), .bool true]) (σ' := σ) (resV_cellT rfl (upd_same _ _ _) rfl rfl) (Conv.drop _ fun d z h => ?_) ⟨rfl, rfl⟩
    have hd8 : d ≠ b8 := fun e => by subst e; rw [n8'.2] at h; cases h
    rw [upd_ne _ _ hd8]; exact hle _ _ (hσ8 _ _ h)
end Go.Proofs.Ytabelcohkpmpnaa.Lg
